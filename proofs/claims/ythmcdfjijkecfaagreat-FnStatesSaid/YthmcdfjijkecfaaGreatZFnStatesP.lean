/- What the proof of FnStates leans on, part 16 of 29. -/
import Derived.Test.YthmcdfjijkecfaaGreatZFnStatesO
/- SectionOfPortrait: what the program answers. -/
namespace Go.Proofs.YthmcdfjijkecfaaGreat
open Go.RowKit
set_option linter.unusedVariables false
set_option linter.unusedSimpArgs false
-- @LONG

open Classical in
/-- What SectionOfPortrait answers. -/
noncomputable def sopAns (d n : Int) (g : List Int) (ws : ByteArray) : List Int × Int :=
  if pcode d n [g] = 0 then (if IsWd d ws then (if (ws.size : Int) < n then (byL d.toNat (fun u => gAt d.toNat g (lets ws ++ u)) (n.toNat - ws.size), 0) else ([], 2)) else ([], 1)) else ([], pcode d n [g])
theorem pcode_cases (d n : Int) (g : List Int) : pcode d n [g] = 1 ∨ pcode d n [g] = 2 ∨ (pcode d n [g] = 0 ∧ ∃ (a b : Nat), d = a ∧ n = b ∧ (a = 2 ∨ a = 3) ∧ 1 ≤ b ∧ b ≤ 4 ∧ IsP a b g) := by
  unfold pcode
  by_cases h : IsD d n
  · rw [if_pos h]
    obtain ⟨a, b, rfl, rfl, h1, h2, h3⟩ := h.nat
    by_cases h4 : IsP a b g
    · rw [if_pos (by simpa using h4)]
      exact .inr (.inr ⟨rfl, a, b, rfl, rfl, h1, h2, h3, h4⟩)
    · rw [if_neg (by simpa using h4)]
      exact .inl rfl
  · rw [if_neg h]
    exact .inr (.inl rfl)
theorem gAt_in {d n : Nat} {g : List Int} (hd : d = 2 ∨ d = 3) (hg : IsP d n g) (u : List Nat) (hu : ∀ x ∈ u, x < d) (hn : u.length < n) :
    start d u.length + num d u < g.length ∧ g[start d u.length + num d u]? = some (gAt d g u) := by
  have h1 := num_lt d u.length u rfl hu
  have h2 : start d (u.length + 1) = start d u.length + pw d u.length := rfl
  have h3 := start_mono d (u.length + 1) (n - (u.length + 1))
  rw [show u.length + 1 + (n - (u.length + 1)) = n by omega] at h3
  have h4 : start d u.length + num d u < g.length := by rw [hg.1]; omega
  exact ⟨h4, by unfold gAt; rw [List.getD_eq_getElem?_getD, List.getElem?_eq_getElem h4]; rfl⟩
theorem gAt_range {d n : Nat} {g : List Int} (hd : d = 2 ∨ d = 3) (hg : IsP d n g) (u : List Nat) (hu : ∀ x ∈ u, x < d) (hn : u.length < n) : 0 ≤ gAt d g u ∧ gAt d g u < (cnt d : Int) :=
  hg.2 _ (List.mem_of_getElem? (gAt_in hd hg u hu hn).2)
theorem mat1 {W : World} {b : Nat} {vv r : Value} {g : List Int} (h : Own W b 32 vv [r]) (hr : Own W b 2 r (ints g)) : Mat W b vv [g] :=
  ⟨_, h, rfl, fun i r' l h1 h2 => by
    match i, h1, h2 with
    | 0, h1, h2 => simp at h1 h2; subst h1; subst h2; exact hr
    | i + 1, h1, h2 => simp at h1⟩
set_option maxHeartbeats 1000000 in
theorem sop1_any (base : Nat) (w0 w : World) (b3 b2 b1 : Nat) (d n : Nat) (hd : d = 2 ∨ d = 3) (hn : n ≤ 4) (v : Value) (g : List Int) (hg : IsP d n g) (z : List Nat) (hz : ∀ x ∈ z, x < d)
    (hS : St base w0 [Asn.blk b3 #[.string (wstr z)] 9, Asn.blk b2 #[v] 32, Asn.blk b1 #[.int .i64 d] 2, Asn.own 0 2 v (ints g)] w)
    (u : List Nat) (hu : ∀ x ∈ u, x < d) (hlen : z.length + u.length < n) :
    Calls Tryz.prog 144 #[.string (wstr u), .pointer (some ⟨b2, 0, none⟩), .pointer (some ⟨b1, 0, none⟩), .pointer (some ⟨b3, 0, none⟩)] w fun e w' => e = .returned (.int .i64 (gAt d g (z ++ u))) ∧ Below w.heap.size w w' := by
  have hzu : ∀ x ∈ z ++ u, x < d := fun x hx => (List.mem_append.1 hx).elim (hz x) (hu x)
  have hil := ints_length g
  obtain ⟨A, c, rfl, _, _⟩ := hS.o3.form
  rw [hil] at hS
  have c1 := blkc hS.k2
  have c2 := blkc hS.k1
  have c3 := blkc hS.k0
  have hin := gAt_in hd hg (z ++ u) hzu (by simp; omega)
  obtain ⟨ga, rfl⟩ : ∃ ga, A = some ⟨ga, 0, none⟩ := by
    obtain ⟨ga, ca, he, _⟩ := hS.o3.blk (fun e => by have h : g.length = 0 := by rw [← hil, e]; rfl
                                                     have := hin.1; omega)
    injection he with e1
    exact ⟨ga, e1⟩
  have co : w.cell? ⟨ga, start d (z ++ u).length + num d (z ++ u), none⟩ = some (.int .i64 (gAt d g (z ++ u))) := hS.o3.cellAt _ _ (by simp only [ints, List.getElem?_map, hin.2]; rfl)
  have hpl := hid (fun W => (by have h := place_any d hd (z ++ u) hzu (by simp; omega) W; rw [wstr_append] at h; exact h : Calls Tryz.prog 145 #[.int .i64 d, .string (wstr z ++ wstr u)] W fun e w' => e = .returned (.int .i64 (start d (z ++ u).length + num d (z ++ u) : Nat)) ∧ W = w'))
  have hi2 := hin.1
  generalize start d (z ++ u).length + num d (z ++ u) = ix at *
  have i0 : (0 : Int) ≤ (ix : Int) := Int.natCast_nonneg _
  have i1 : (ix : Int) < (g.length : Int) := by omega
  generalize gAt d g (z ++ u) = R at *
  have hadd : (wstr z).size + (wstr u).size ≤ 9223372036854775807 := by rw [wstr_size, wstr_size]; omega
  clear hu hz hzu hin
  generalize wstr z = sz at *
  generalize wstr u = su at *
  have hbel := hid (fun m => below_drewN (Below.refl w.heap.size w) m)
  replace hS := hid hS; replace hg := hid hg
  go_enter Tryz.func144, Tryz.ntmps144
  go_upto_region 1 with (fail)
  refine wp_region_quiet_lit (by kernel_rfl) (by kernel_rfl) ?_
  quiet_step (fail)
  quiet_step (fail)
  quiet_step (fail)
  quiet_step (fail)
  refine quiet_add rfl _ _ _ _ rfl sz su rfl rfl hadd ?_
  repeat (quiet_step ((go_at_call 145; exact quiet_same (hpl.out _))))
  refine wpQuiet_nil ?_
  rintro _ ⟨nq, rfl⟩
  go_wp2
  go_ret
  exact ⟨rfl, hbel.out _⟩
set_option maxHeartbeats 2000000 in
set_option maxRecDepth 100000 in
theorem portraitBy_sop (b3 b2 b1 : Nat) (d n : Nat) (hd : d = 2 ∨ d = 3) (hn : n ≤ 5) (w : World) (F : List Nat → Int)
    (hf : ∀ W, Below w.heap.size w W → ∀ u, u.length < n → (∀ x ∈ u, x < d) → Calls Tryz.prog 144 #[.string (wstr u), .pointer (some ⟨b2, 0, none⟩), .pointer (some ⟨b1, 0, none⟩), .pointer (some ⟨b3, 0, none⟩)] W fun e W' => e = .returned (.int .i64 (F u)) ∧ Below W.heap.size W W') :
    Calls Tryz.prog 88 #[.int .i64 d, .int .i64 n, .func (.func 144) #[] #[.pointer (some ⟨b2, 0, none⟩), .pointer (some ⟨b1, 0, none⟩), .pointer (some ⟨b3, 0, none⟩)]] w fun e w' => ∃ v, e = .returned v ∧ Own w' w.heap.size 2 v (ints (byL d F n)) ∧ Below w.heap.size w w' := by
  have hl := hid (fun k (hk : k < n) W => level_any d k (by omega) (by omega) (by omega) (by have := pw5 (n := k) hd (by omega); omega) W)
  have hlen := hid (fun k M => lvl_length d k M)
  have hpos := hid (fun k => pw_pos d (by omega) k)
  have hp5 := hid (fun k (hk : k < n) => pw5 (n := k) hd (by omega))
  have hwl := hid (fun k j => wrd_length d k j)
  have hwm := hid (fun k j => wrd_lt d (by omega) k j)
  have hst := hid (fun k (hk : k < n) => (show start d k ≤ 243 by
    have := start_pw d (by omega) k
    have h2 : start d k ≤ start d k * (d - 1) := Nat.le_mul_of_pos_right _ (by omega)
    have h3 := pw5 (n := k) hd (by omega)
    omega))
  replace hf := hid hf
  have hS := hid (St.start w)
  clear hd
  go_enter Tryz.func88, Tryz.ntmps88
  replace hS := hid (hS.out.nilOwn 2)
  go_wp2
  go_loopw [7, 12] (fun o i wr => ∃ k : Nat, k ≤ n ∧ i = .int .i64 k ∧ St w.heap.size w [Asn.own w.heap.size 2 o (ints (byL d F k))] wr) (fun _ i _ => n - (intOf i).toNat)
  case atStart => exact ⟨0, Nat.zero_le _, rfl, hS.out⟩
  case round =>
    obtain ⟨k, hk, rfl, rS⟩ := hrel
    clear hS
    replace rS := hid rS
    by_cases hlk : k < n
    · have dk : decide ((k : Int) < (n : Int)) = true := decide_eq_true (by omega)
      have hlv := hid (hl.out k hlk)
      have hM0 := hpos.out k
      have hM1 := hp5.out k hlk
      have hll := hid (hlen.out k (pw d k))
      have hs1 := hst.out k hlk
      have hget := hid (fun j (hj : j < pw d k) => lvl_get d k (pw d k) j hj)
      have hend := hid (byP_full d F k)
      generalize pw d k = M at *
      go_wp2_with (first
        | (go_at_call 182; (with_reducible refine (hlv.out _).mono ?_); rintro e w1 ⟨v, rfl, hO, hb⟩; obtain ⟨g, cap, rfl, _, _⟩ := hO.blk (fun e => by have h := hll.out; rw [e] at h; simp at h; omega); rw [hll.out] at hO; rw [hll.out]; replace rS := hid (rS.out.callOwn hb hO); clear hO hb))
      go_loopw [7, 19] (fun o i wr => ∃ j : Nat, j ≤ M ∧ i = .int .i64 j ∧ St w.heap.size w [Asn.own w.heap.size 2 o (ints (byP d F k j)), Asn.own w.heap.size 9 (.slice (some ⟨g, 0, none⟩) M cap) (lvl d k M)] wr) (fun _ i _ => M - (intOf i).toNat)
      case atStart => exact ⟨0, Nat.zero_le _, rfl, by rw [byP_zero]; exact rS.out.f1⟩
      case round =>
        obtain ⟨j, hj, rfl, rS⟩ := hrel
        have ck := fun (h : j < M) => rS.o1.cellAt j _ (hget.out j h)
        replace rS := hid rS
        by_cases hlj : j < M
        · have dj : decide ((j : Int) < (M : Int)) = true := decide_eq_true (by omega)
          replace ck := ck hlj
          have hfj := hid (hf.out _ rS.out.bel (wrd d k j) (by rw [hwl.out]; exact hlk) (hwm.out k j))
          have hsn := hid (byP_snoc d F k j)
          have hil := hid (ints_length (byP d F k j))
          have hbl := hid (byP_length d F k j)
          generalize wrd d k j = u at *
          generalize F u = fu at *
          go_wp2_with (first
            | (go_at_call 144; (with_reducible refine (hfj.out).mono ?_); rintro e w2 ⟨rfl, hb⟩; replace rS := hid (rS.out.call hb); clear hb ck hfj)
            | ((with_reducible refine gate (N := 28) rfl ?_); refine St.app 32 2 (.int .i64 0) 8 Tryz.underlying32 info_i64 rfl (by omega) rfl _ _ rfl _ _ rfl rS.out _ rfl rfl (start d k + j) (by rw [hil.out, hbl.out]) (by omega) ?_; intro gn cn w5 rS'; replace rS := hid rS'; clear rS'))
          rw [← ints_snoc, ← hsn.out] at rS
          go_roundw
          case rel => exact ⟨j + 1, by omega, by go_num, rS.out⟩
          case measure => simp [intOf]; omega
        · obtain rfl : j = M := by omega
          clear ck
          rw [hend.out] at rS
          go_wp2
          go_roundw
          case rel => exact ⟨k + 1, by omega, by go_num, rS.out.f1.drop⟩
          case measure => simp [intOf]; omega
    · obtain rfl : k = n := by omega
      go_wp2
      go_ret
      exact ⟨_, rfl, rS.out.o0, rS.out.bel⟩
open Classical in
theorem sopAns_p {d n : Int} {g : List Int} {ws : ByteArray} {c : Int} (h : pcode d n [g] = c) (hc : c ≠ 0) : sopAns d n g ws = ([], c) := by unfold sopAns; rw [h, if_neg hc]
open Classical in
theorem sopAns_0 {d n : Nat} {g : List Int} {ws : ByteArray} (h : pcode d n [g] = 0) : sopAns d n g ws = if IsWd d ws then (if (ws.size : Int) < n then (byL d (fun u => gAt d g (lets ws ++ u)) (n - ws.size), 0) else ([], 2)) else ([], 1) := by unfold sopAns; rw [h, if_pos rfl]; rfl
set_option maxHeartbeats 2000000 in
set_option maxRecDepth 4000 in
theorem implSop_any (w : World) (d n : Int) (b0 : Nat) (v : Value) (g : List Int) (hg : Own w b0 2 v (ints g)) (hl : g.length < 2000000) (ws : ByteArray) (hws : ws.size < 1000000000000) :
    Calls Tryz.prog 50 #[.int .i64 d, .int .i64 n, v, .string ws] w fun e w' => ∃ v', e = .returned (.tuple #[v', .int .i64 (sopAns d n g ws).2]) ∧ Own w' w.heap.size 2 v' (ints (sopAns d n g ws).1) ∧ Below w.heap.size w w' := by
  classical
  obtain ⟨A0, cp0, rfl, _, _⟩ := hg.form
  rw [ints_length] at hg ⊢
  obtain ⟨v, hv⟩ : ∃ v, v = Value.slice A0 g.length cp0 := ⟨_, rfl⟩
  rw [← hv] at hg
  have hS := ((((St.arg w hg).newBlk #[.int .i64 d] 2).newBlk #[v] 32).newBlk #[.string ws] 9).newOwn [v] 32 (by simp)
  simp only [heap_alloc_size, List.length_cons, List.length_nil, Nat.zero_add] at hS
  have hmf : ∀ (fn : Fn) (first cap : Array Value) (w : World), (Instr.makeFunc fn first cap).run Tryz.prog w = .ok (.func fn first cap) w := fun _ _ _ _ => rfl
  subst hv
  replace hS := hid hS
  have hpc := hid (fun W b vv (hO : Own W b 32 vv [(Value.slice A0 g.length cp0)]) (hr : Own W b 2 (Value.slice A0 g.length cp0) (ints g)) => portraitCode_any W d n b vv [g] (mat1 hO hr) (by simp) (by simp; omega))
  rcases pcode_cases d n g with hp | hp | ⟨hp, d, n, rfl, rfl, hd, hn1, hn4, hgp⟩
  · rw [sopAns_p hp (by decide)]
    rw [hp] at hpc
    replace hg := hid hg; clear hp
    go_enter Tryz.func50, Tryz.ntmps50
    go_wp2_with (first
      | (go_at_call 92; (with_reducible refine (hpc.out _ _ _ (hS.out.o0.mono (Nat.zero_le _)) hS.out.o4).mono ?_); rintro e w1 ⟨rfl, hb⟩; replace hS := hid (hS.out.call hb).drop; have c3 := blkc hS.out.k0; have c2 := blkc hS.out.k1; have c1 := blkc hS.out.k2; clear hb)
      | (go_at_call 134; (with_reducible refine (hwd.out _).mono ?_); rintro e w' ⟨rfl, rfl⟩)
      | (go_at_call 88; (with_reducible refine (hby.out _ hS.out).mono ?_); rintro e w2 ⟨v2, rfl, hO, hb⟩; replace hS := hid (hS.out.callOwn hb hO); clear hO hb))
    go_ret2
    exact ⟨_, rfl, Own.nil _ _ _, hS.out.bel⟩
  · rw [sopAns_p hp (by decide)]
    rw [hp] at hpc
    replace hg := hid hg; clear hp
    go_enter Tryz.func50, Tryz.ntmps50
    go_wp2_with (first
      | (go_at_call 92; (with_reducible refine (hpc.out _ _ _ (hS.out.o0.mono (Nat.zero_le _)) hS.out.o4).mono ?_); rintro e w1 ⟨rfl, hb⟩; replace hS := hid (hS.out.call hb).drop; have c3 := blkc hS.out.k0; have c2 := blkc hS.out.k1; have c1 := blkc hS.out.k2; clear hb)
      | (go_at_call 134; (with_reducible refine (hwd.out _).mono ?_); rintro e w' ⟨rfl, rfl⟩)
      | (go_at_call 88; (with_reducible refine (hby.out _ hS.out).mono ?_); rintro e w2 ⟨v2, rfl, hO, hb⟩; replace hS := hid (hS.out.callOwn hb hO); clear hO hb))
    go_ret2
    exact ⟨_, rfl, Own.nil _ _ _, hS.out.bel⟩
  · rw [sopAns_0 hp]
    rw [hp] at hpc
    clear hp
    by_cases hw : IsWd d ws
    · rw [if_pos hw]
      obtain ⟨hwe, hwl, hw40⟩ := lets_wstr ws hw
      have hwsz : (lets ws).length = ws.size := by have h := wstr_size (lets ws); rw [← hwe] at h; omega
      have hwd := hid (fun W => isWord_any (d : Int) (by omega) (by omega) ws hws true ⟨fun _ => hw, fun _ => rfl⟩ W)
      by_cases hn : (ws.size : Int) < n
      · rw [if_pos hn]
        have dn : decide ((n : Int) ≤ (ws.size : Int)) = false := decide_eq_false (by omega)
        have ew : IntKind.i64.wrap ((n : Int) - (ws.size : Int)) = ((n - ws.size : Nat) : Int) := by rw [show (n : Int) - (ws.size : Int) = ((n - ws.size : Nat) : Int) by omega]; exact IntWalk.i64_in _ (by omega)
        have ew2 : (n : Int) - (ws.size : Int) = ((n - ws.size : Nat) : Int) := by omega
        have hby := hid (fun W (hS : St w.heap.size w [Asn.blk (w.heap.size + 1 + 1) #[.string ws] 9, Asn.blk (w.heap.size + 1) #[(Value.slice A0 g.length cp0)] 32, Asn.blk w.heap.size #[.int .i64 d] 2, Asn.own 0 2 (Value.slice A0 g.length cp0) (ints g)] W) =>
          portraitBy_sop (w.heap.size + 1 + 1) (w.heap.size + 1) w.heap.size d (n - ws.size) hd (by omega) W (fun u => gAt d g (lets ws ++ u)) (fun W' hW' u hu hx => sop1_any w.heap.size w W' _ _ _ d n hd hn4 (Value.slice A0 g.length cp0) g hgp (lets ws) hwl (by rw [← hwe]; exact hS.call hW') u hx (by omega)))
        replace hg := hid hg; replace hw := hid hw; replace hgp := hid hgp; replace hwe := hid hwe; replace hwl := hid hwl
        generalize byL d (fun u => gAt d g (lets ws ++ u)) (n - ws.size) = R at *
        generalize n - ws.size = nn at *
        clear hwsz hw40
        go_enter Tryz.func50, Tryz.ntmps50
        go_wp2_with (first
          | (go_at_call 92; (with_reducible refine (hpc.out _ _ _ (hS.out.o0.mono (Nat.zero_le _)) hS.out.o4).mono ?_); rintro e w1 ⟨rfl, hb⟩; replace hS := hid (hS.out.call hb).drop; have c3 := blkc hS.out.k0; have c2 := blkc hS.out.k1; have c1 := blkc hS.out.k2; clear hb)
          | (go_at_call 134; (with_reducible refine (hwd.out _).mono ?_); rintro e w' ⟨rfl, rfl⟩)
          | (go_at_call 88; (with_reducible refine (hby.out _ hS.out).mono ?_); rintro e w2 ⟨v2, rfl, hO, hb⟩; replace hS := hid (hS.out.callOwn hb hO); clear hO hb))
        go_ret2
        exact ⟨_, rfl, hS.out.o0, hS.out.bel⟩
      · rw [if_neg hn]
        have dn : decide ((n : Int) ≤ (ws.size : Int)) = true := decide_eq_true (by omega)
        replace hg := hid hg; replace hw := hid hw; replace hgp := hid hgp; replace hwe := hid hwe; replace hwl := hid hwl
        go_enter Tryz.func50, Tryz.ntmps50
        go_wp2_with (first
          | (go_at_call 92; (with_reducible refine (hpc.out _ _ _ (hS.out.o0.mono (Nat.zero_le _)) hS.out.o4).mono ?_); rintro e w1 ⟨rfl, hb⟩; replace hS := hid (hS.out.call hb).drop; have c3 := blkc hS.out.k0; have c2 := blkc hS.out.k1; have c1 := blkc hS.out.k2; clear hb)
          | (go_at_call 134; (with_reducible refine (hwd.out _).mono ?_); rintro e w' ⟨rfl, rfl⟩)
          | (go_at_call 88; (with_reducible refine (hby.out _ hS.out).mono ?_); rintro e w2 ⟨v2, rfl, hO, hb⟩; replace hS := hid (hS.out.callOwn hb hO); clear hO hb))
        go_ret2
        exact ⟨_, rfl, Own.nil _ _ _, hS.out.bel⟩
    · rw [if_neg hw]
      have hwd := hid (fun W => isWord_any (d : Int) (by omega) (by omega) ws hws false ⟨fun h => (by cases h), fun h => absurd h hw⟩ W)
      replace hg := hid hg; replace hw := hid hw; replace hgp := hid hgp
      go_enter Tryz.func50, Tryz.ntmps50
      go_wp2_with (first
        | (go_at_call 92; (with_reducible refine (hpc.out _ _ _ (hS.out.o0.mono (Nat.zero_le _)) hS.out.o4).mono ?_); rintro e w1 ⟨rfl, hb⟩; replace hS := hid (hS.out.call hb).drop; have c3 := blkc hS.out.k0; have c2 := blkc hS.out.k1; have c1 := blkc hS.out.k2; clear hb)
        | (go_at_call 134; (with_reducible refine (hwd.out _).mono ?_); rintro e w' ⟨rfl, rfl⟩)
        | (go_at_call 88; (with_reducible refine (hby.out _ hS.out).mono ?_); rintro e w2 ⟨v2, rfl, hO, hb⟩; replace hS := hid (hS.out.callOwn hb hO); clear hO hb))
      go_ret2
      exact ⟨_, rfl, Own.nil _ _ _, hS.out.bel⟩
end Go.Proofs.YthmcdfjijkecfaaGreat

/- Portraits: the reference's small functions. -/
namespace Go.Proofs.YthmcdfjijkecfaaGreat
open Go.RowKit
set_option linter.unusedVariables false
set_option linter.unusedSimpArgs false
-- @LONG

theorem l03Sizes_any (d n : Int) (r : Bool) (hr : r = decide (IsD d n)) (w : World) :
    Calls Tryz.prog 222 #[.int .i64 d, .int .i64 n] w fun e w' => e = .returned (.bool r) ∧ w = w' := by
  have hl := hid (fun W => l01In_any d 2 3 (decide (2 ≤ d ∧ d ≤ 3)) rfl W)
  have hw := hid (fun W => l01In_any n 1 4 (decide (1 ≤ n ∧ n ≤ 4)) rfl W)
  by_cases h1 : 2 ≤ d ∧ d ≤ 3
  · have hr2 := hid (show r = decide (1 ≤ n ∧ n ≤ 4) by rw [hr]; unfold IsD; simp [h1])
    rw [decide_eq_true h1] at hl
    generalize decide (1 ≤ n ∧ n ≤ 4) = c at *
    clear h1 hr
    go_enter Tryz.func222, Tryz.ntmps222
    go_wp2_with (first
      | (go_at_call 142; (first | (with_reducible refine (hl.out _).mono ?_) | (with_reducible refine (hw.out _).mono ?_)); rintro e w' ⟨rfl, rfl⟩))
    go_ret
    exact ⟨retB hr2.out.symm, rfl⟩
  · have hr2 := hid (show r = false by rw [hr]; unfold IsD; simp [h1])
    rw [decide_eq_false h1] at hl
    clear h1 hr
    go_enter Tryz.func222, Tryz.ntmps222
    go_wp2_with (first
      | (go_at_call 142; (with_reducible refine (hl.out _).mono ?_); rintro e w' ⟨rfl, rfl⟩))
    go_ret
    exact ⟨retB hr2.out.symm, rfl⟩
theorem l03Count_any (d : Nat) (hd : d = 2 ∨ d = 3) (w : World) :
    Calls Tryz.prog 159 #[.int .i64 d] w fun e w' => e = .returned (.int .i64 (cnt d : Nat)) ∧ w = w' := by
  rcases hd with rfl | rfl
  · go_enter Tryz.func159, Tryz.ntmps159
    go_wp2
    go_ret
    exact ⟨rfl, rfl⟩
  · go_enter Tryz.func159, Tryz.ntmps159
    go_wp2
    go_ret
    exact ⟨rfl, rfl⟩
theorem l03Start_any (d n : Nat) (hd : d = 2 ∨ d = 3) (hn : n ≤ 5) (w : World) :
    Calls Tryz.prog 153 #[.int .i64 d, .int .i64 n] w fun e w' => e = .returned (.int .i64 (start d n : Nat)) ∧ w = w' := by
  have hp := hid (fun k (hk : k < n) W => l01Power_any d k (by omega) (by have := pw5 (n := k) hd (by omega); omega) (by omega) W)
  have hp5 := hid (fun k (hk : k < n) => pw5 (n := k) hd (by omega))
  have hst := hid (fun k (hk : k < n) => (show start d k ≤ 243 by
    have := start_pw d (by omega) k
    have h2 : start d k ≤ start d k * (d - 1) := Nat.le_mul_of_pos_right _ (by omega)
    have h3 := pw5 (n := k) hd (by omega)
    omega))
  have hsn := hid (fun k => (show start d (k + 1) = start d k + pw d k from rfl))
  clear hd
  go_enter Tryz.func153, Tryz.ntmps153
  go_wp2
  go_loop [5, 6] (fun p i => ∃ k : Nat, k ≤ n ∧ i = .int .i64 k ∧ p = .int .i64 (start d k : Nat)) (fun _ i => n - (intOf i).toNat)
  case atStart => exact ⟨0, by omega, rfl, rfl⟩
  case round =>
    obtain ⟨k, hk, rfl, rfl⟩ := hrel
    by_cases hlt : k < n
    · have dk : decide ((k : Int) < (n : Int)) = true := decide_eq_true (by omega)
      have hpk := hid (hp.out k hlt)
      have h1 := hp5.out k hlt
      have h2 := hst.out k hlt
      have h3 := hid (hsn.out k)
      generalize start d k = a at *
      generalize pw d k = b at *
      go_wp2_with (first
        | (go_at_call 120; (with_reducible refine (hpk.out _).mono ?_); rintro e w' ⟨rfl, rfl⟩))
      go_round
      case rel => exact ⟨k + 1, by omega, by go_num, by rw [h3.out]; go_num⟩
      case measure => simp [intOf]; omega
    · obtain rfl : k = n := by omega
      have dk : decide ((k : Int) < (k : Int)) = false := decide_eq_false (by omega)
      go_wp2
      go_ret
      exact ⟨rfl, rfl⟩
set_option maxHeartbeats 1000000 in
set_option maxRecDepth 100000 in
theorem l03Is_any (w : World) (d n : Nat) (hd : d = 2 ∨ d = 3) (hn : n ≤ 4) (base : Nat) (v : Value) (g : List Int) (h : Own w base 2 v (ints g)) (hl : g.length < 2000000) (r : Bool) (hr : r = decide (IsP d n g)) :
    Calls Tryz.prog 223 #[.int .i64 d, .int .i64 n, v] w fun e w' => e = .returned (.bool r) ∧ Below w.heap.size w w' := by
  have hil := ints_length g
  obtain ⟨A, c, rfl, _, hA⟩ := h.form
  rw [hil] at h ⊢
  have hst := hid (fun W => l03Start_any d n hd (by omega) W)
  have hct := hid (fun W => l03Count_any d hd W)
  have hc6 : cnt d ≤ 6 ∧ 2 ≤ cnt d := by rcases hd with rfl | rfl <;> decide
  have hsl := (start_le hd hn).1
  have hS := hid (Below.refl w.heap.size w)
  by_cases he : g.length = start d n
  · have e1 : ((g.length : Int) != ((start d n : Nat) : Int)) = false := by simp [he]
    have hrt := hid (fun (hh : ∀ k ∈ g, 0 ≤ k ∧ k ≤ (cnt d : Int) - 1) => (show r = true by rw [hr]; exact decide_eq_true ⟨he, fun k hk => by have := hh k hk; omega⟩))
    have hrf := hid (fun k (hk : k ∈ g) (hb : ¬ (0 ≤ k ∧ k ≤ (cnt d : Int) - 1)) => (show r = false by rw [hr]; exact decide_eq_false fun hp => by have := hp.2 k hk; omega))
    have hin := hid (fun x W => l01In_any x 0 ((cnt d : Int) - 1) (decide (0 ≤ x ∧ x ≤ (cnt d : Int) - 1)) rfl W)
    have ew : IntKind.i64.wrap ((cnt d : Int) - 1) = (cnt d : Int) - 1 := IntWalk.i64_in _ (by omega)
    have hcell := hid (fun (j : Nat) (x : Int) (hx : g[j]? = some x) => (show ∃ ga, A = some ⟨ga, 0, none⟩ ∧ ∀ W, Below w.heap.size w W → W.cell? ⟨ga, j, none⟩ = some (.int .i64 x) from by
      rcases hA with ⟨_, h1, _⟩ | ⟨ga, rfl, _⟩
      · have h2 : g.length = 0 := by rw [← hil, h1]; rfl
        have h3 := (List.getElem?_eq_some_iff.1 hx).1
        omega
      · exact ⟨ga, rfl, fun W hW => (h.below hW).cellAt j _ (by simp [ints, hx])⟩))
    clear hr h hA he
    generalize start d n = R at *
    generalize cnt d = C at *
    generalize hgl : g.length = L at *
    replace hgl := hid hgl
    go_enter Tryz.func223, Tryz.ntmps223
    go_wp2_with (first
      | (go_at_call 153; (with_reducible refine (hst.out _).mono ?_); rintro e w' ⟨rfl, rfl⟩))
    go_loopw [7] (fun i wr => ∃ j : Nat, j ≤ L ∧ i = .int .i64 j ∧ Hid (∀ i x, i < j → g[i]? = some x → 0 ≤ x ∧ x ≤ (C : Int) - 1) ∧ Hid (Below w.heap.size w wr)) (fun i _ => L - (intOf i).toNat)
    case atStart => exact ⟨0, Nat.zero_le _, rfl, fun i x h => absurd h (by omega), hS⟩
    case round =>
      obtain ⟨j, hj, rfl, hall, rS⟩ := hrel
      clear hS
      by_cases hlt : j < L
      · obtain ⟨x, hx⟩ : ∃ x, g[j]? = some x := ⟨_, List.getElem?_eq_getElem (by rw [hgl.out]; exact hlt)⟩
        obtain ⟨ga, rfl, hce⟩ := hcell.out j x hx
        have co := hce _ rS.out
        have dj : decide ((j : Int) < (L : Int)) = true := decide_eq_true (by omega)
        have j0 : (0 : Int) ≤ (j : Int) := Int.natCast_nonneg _
        have j1 : (j : Int) < (L : Int) := by omega
        by_cases hr : 0 ≤ x ∧ x ≤ (C : Int) - 1
        · have hin2 := hid (fun W => by have h := hin.out x W; rw [decide_eq_true hr] at h; exact h)
          have hall2 := hid (fun i y (hi : i < j + 1) (hy : g[i]? = some y) => (show 0 ≤ y ∧ y ≤ (C : Int) - 1 from by
            by_cases e : i < j
            · exact hall.out i y e hy
            · obtain rfl : i = j := by omega
              rw [hx] at hy; injection hy with hy; subst hy
              exact hr))
          clear hr hce hx
          go_upto_region 6 with (fail)
          go_quiet (first
            | (go_at_call 159; exact quiet_same (hct.out _))
            | (go_at_call 142; exact quiet_same (hin2.out _)))
          go_wp2
          go_roundw
          case rel => exact ⟨j + 1, by omega, by go_num, hall2, below_drewN rS.out _⟩
          case measure => simp [intOf]; omega
        · have hin2 := hid (fun W => by have h := hin.out x W; rw [decide_eq_false hr] at h; exact h)
          have hR := hid (hrf.out x (List.mem_of_getElem? hx) hr)
          clear hr hce hx
          go_upto_region 6 with (fail)
          go_quiet (first
            | (go_at_call 159; exact quiet_same (hct.out _))
            | (go_at_call 142; exact quiet_same (hin2.out _)))
          go_wp2
          go_ret
          exact ⟨retB hR.out.symm, below_drewN rS.out _⟩
      · obtain rfl : j = L := by omega
        have dj : decide ((j : Int) < (j : Int)) = false := decide_eq_false (by omega)
        have hR := hid (hrt.out fun x hx => by
          obtain ⟨i, hi, rfl⟩ := List.getElem_of_mem hx
          exact hall.out i _ (by rw [← hgl.out]; exact hi) (List.getElem?_eq_getElem hi))
        go_wp2
        go_ret
        exact ⟨retB hR.out.symm, rS.out⟩
  · have e1 : ((g.length : Int) != ((start d n : Nat) : Int)) = true := by simp; omega
    have hr2 := hid (show r = false by rw [hr]; exact decide_eq_false fun h => he h.1)
    clear hr h hA he
    generalize start d n = R at *
    generalize g.length = L at *
    go_enter Tryz.func223, Tryz.ntmps223
    go_wp2_with (first
      | (go_at_call 153; (with_reducible refine (hst.out _).mono ?_); rintro e w' ⟨rfl, rfl⟩))
    go_ret
    exact ⟨retB hr2.out.symm, hS.out⟩
set_option maxHeartbeats 1000000 in
set_option maxRecDepth 100000 in
theorem l03Code_any (w : World) (d n : Int) (base : Nat) (v : Value) (M : List (List Int)) (h : Mat w base v M) (hl : M.length < 2000000) (hlr : ∀ row ∈ M, row.length < 2000000) :
    Calls Tryz.prog 152 #[.int .i64 d, .int .i64 n, v] w fun e w' => e = .returned (.int .i64 (pcode d n M)) ∧ Below w.heap.size w w' := by
  have hsi := hid (fun W => l03Sizes_any d n (decide (IsD d n)) rfl W)
  have hS := hid (Below.refl w.heap.size w)
  by_cases hD : IsD d n
  · rw [decide_eq_true hD] at hsi
    have hpt := hid (fun (hh : ∀ g ∈ M, IsP d.toNat n.toNat g) => (show pcode d n M = 0 by unfold pcode; rw [if_pos hD, if_pos hh]))
    have hpf := hid (fun g (hg : g ∈ M) (hb : ¬ IsP d.toNat n.toNat g) => (show pcode d n M = 1 by unfold pcode; rw [if_pos hD, if_neg fun hh => hb (hh g hg)]))
    obtain ⟨d, n, rfl, rfl, hd, hn1, hn4⟩ := hD.nat
    simp only [Int.toNat_natCast] at hpt hpf
    have his := hid (fun W b v g (hO : Own W b 2 v (ints g)) (hm : g ∈ M) (r : Bool) (hr : r = decide (IsP d n g)) => l03Is_any W d n hd hn4 b v g hO (hlr g hm) r hr)
    have hcell := hid (fun (j : Nat) (x : List Int) (hx : M[j]? = some x) => (show ∃ ga, v = .slice (some ⟨ga, 0, none⟩) M.length (match v with | .slice _ _ c => c | _ => 0) ∧ ∀ W, Below w.heap.size w W → ∃ r, W.cell? ⟨ga, j, none⟩ = some r ∧ Own W base 2 r (ints x) from by
      obtain ⟨ga, ca, rfl, _⟩ := h.blk (fun e => by rw [e] at hx; simp at hx)
      exact ⟨ga, rfl, fun W hW => (h.below hW).row j x hx⟩))
    obtain ⟨A, c, rfl⟩ := h.form
    dsimp only at hcell
    clear h hlr hD
    obtain ⟨R, hR⟩ : ∃ R, R = pcode d n M := ⟨_, rfl⟩
    rw [← hR] at hpt hpf ⊢
    clear hR
    generalize hML : M.length = L at *
    replace hML := hid hML
    go_enter Tryz.func152, Tryz.ntmps152
    go_wp2_with (first
      | (go_at_call 222; (with_reducible refine (hsi.out _).mono ?_); rintro e w' ⟨rfl, rfl⟩))
    go_loopw [7] (fun i wr => ∃ j : Nat, j ≤ L ∧ i = .int .i64 j ∧ Hid (∀ i x, i < j → M[i]? = some x → IsP d n x) ∧ Hid (Below w.heap.size w wr)) (fun i _ => L - (intOf i).toNat)
    case atStart => exact ⟨0, Nat.zero_le _, rfl, fun i x h => absurd h (by omega), hS⟩
    case round =>
      obtain ⟨j, hj, rfl, hall, rS⟩ := hrel
      clear hS
      by_cases hlt : j < L
      · obtain ⟨x, hx⟩ : ∃ x, M[j]? = some x := ⟨_, List.getElem?_eq_getElem (by rw [hML.out]; exact hlt)⟩
        obtain ⟨ga, he, hce⟩ := hcell.out j x hx
        injection he with he
        subst he
        obtain ⟨rv, co, hO⟩ := hce _ rS.out
        have dj : decide ((j : Int) < (L : Int)) = true := decide_eq_true (by omega)
        have j0 : (0 : Int) ≤ (j : Int) := Int.natCast_nonneg _
        have j1 : (j : Int) < (L : Int) := by omega
        by_cases hr : IsP d n x
        · have hi2 := hid (his.out wr base rv x hO (List.mem_of_getElem? hx) true (decide_eq_true hr).symm)
          have hall2 := hid (fun i y (hi : i < j + 1) (hy : M[i]? = some y) => (show IsP d n y from by
            by_cases e : i < j
            · exact hall.out i y e hy
            · obtain rfl : i = j := by omega
              rw [hx] at hy; injection hy with hy; subst hy
              exact hr))
          clear hr hce hx hO
          go_wp2_with (first
            | (go_at_call 223; (with_reducible refine (hi2.out).mono ?_); rintro e w3 ⟨rfl, hb⟩; replace rS := hid (rS.out.trans (hb.mono rS.out.size)); clear hb))
          go_roundw
          case rel => exact ⟨j + 1, by omega, by go_num, hall2, rS⟩
          case measure => simp [intOf]; omega
        · have hi2 := hid (his.out wr base rv x hO (List.mem_of_getElem? hx) false (decide_eq_false hr).symm)
          have hRR := hid (hpf.out x (List.mem_of_getElem? hx) hr)
          clear hr hce hx hO
          go_wp2_with (first
            | (go_at_call 223; (with_reducible refine (hi2.out).mono ?_); rintro e w3 ⟨rfl, hb⟩; replace rS := hid (rS.out.trans (hb.mono rS.out.size)); clear hb))
          go_ret
          exact ⟨retI hRR.out.symm, rS.out⟩
      · obtain rfl : j = L := by omega
        have dj : decide ((j : Int) < (j : Int)) = false := decide_eq_false (by omega)
        have hRR := hid (hpt.out fun x hx => by
          obtain ⟨i, hi, rfl⟩ := List.getElem_of_mem hx
          exact hall.out i _ (by rw [← hML.out]; exact hi) (List.getElem?_eq_getElem hi))
        go_wp2
        go_ret
        exact ⟨retI hRR.out.symm, rS.out⟩
  · rw [decide_eq_false hD] at hsi
    have hpc := hid (show pcode d n M = 2 by unfold pcode; rw [if_neg hD])
    rw [hpc.out]
    clear hD hpc h
    go_enter Tryz.func152, Tryz.ntmps152
    go_wp2_with (first
      | (go_at_call 222; (with_reducible refine (hsi.out _).mono ?_); rintro e w' ⟨rfl, rfl⟩))
    go_ret
    exact ⟨rfl, hS.out⟩
set_option maxHeartbeats 1000000 in
theorem l03At_any (w : World) (d n : Nat) (hd : d = 2 ∨ d = 3) (hn : n ≤ 4) (base : Nat) (v : Value) (g : List Int) (h : Own w base 2 v (ints g)) (hg : IsP d n g) (u : List Nat) (hu : ∀ x ∈ u, x < d) (hlen : u.length < n) :
    Calls Tryz.prog 162 #[.int .i64 d, v, .string (wstr u)] w fun e w' => e = .returned (.int .i64 (gAt d g u)) ∧ w = w' := by
  have hil := ints_length g
  have hin := gAt_in hd hg u hu hlen
  obtain ⟨ga, ca, rfl, _⟩ := h.blk (fun e => by have h : g.length = 0 := (by rw [← hil, e]; rfl); have := hin.1; omega)
  rw [hil] at h ⊢
  have co := h.cellAt (start d u.length + num d u) (.int .i64 (gAt d g u)) (by simp only [ints, List.getElem?_map, hin.2]; rfl)
  have hst := hid (fun W => l03Start_any d u.length hd (by omega) W)
  have hnm := hid (fun W => l01NumberOf_any d (by omega) (by omega) u hu (by have := pw5 (n := u.length) hd (by omega); omega) (by omega) W)
  have hsz := wstr_size u
  have hi2 := hin.1
  have hb1 := (start_le hd (show u.length ≤ 4 by omega))
  have hb2 := num_lt d u.length u rfl hu
  generalize gAt d g u = R at *
  clear hin hu h
  have i0 : (0 : Int) ≤ (start d u.length : Int) + (num d u : Int) := by omega
  have i1 : (start d u.length : Int) + (num d u : Int) < (g.length : Int) := by omega
  generalize wstr u = ws at *
  generalize hLn : u.length = L at *
  generalize start d L = a at *
  generalize num d u = b at *
  have ew : IntKind.i64.wrap ((a : Int) + (b : Int)) = (a : Int) + (b : Int) := IntWalk.i64_in _ (by omega)
  have et : ((a : Int) + (b : Int)).toNat = a + b := by omega
  go_enter Tryz.func162, Tryz.ntmps162
  go_wp2_with (first
    | (go_at_call 153; (with_reducible refine (hst.out _).mono ?_); rintro e w' ⟨rfl, rfl⟩)
    | (go_at_call 210; (with_reducible refine (hnm.out _).mono ?_); rintro e w' ⟨rfl, rfl⟩))
  go_ret
  exact ⟨rfl, rfl⟩
open Classical in
/-- The code of a portrait and a word of at most so many letters. -/
noncomputable def wcode (d n : Int) (g : List Int) (ws : ByteArray) (most : Int) : Int :=
  if pcode d n [g] = 0 then (if IsWd d ws then (if (ws.size : Int) ≤ most then 0 else 2) else 1) else pcode d n [g]
set_option maxHeartbeats 2000000 in
theorem l03Wordy_any (w : World) (d n : Int) (base : Nat) (v : Value) (g : List Int) (h : Own w base 2 v (ints g)) (hl : g.length < 2000000) (ws : ByteArray) (hws : ws.size < 1000000000000) (most : Int) :
    Calls Tryz.prog 161 #[.int .i64 d, .int .i64 n, v, .string ws, .int .i64 most] w fun e w' => e = .returned (.int .i64 (wcode d n g ws most)) ∧ Below w.heap.size w w' := by
  classical
  obtain ⟨A0, cp0, rfl, _, _⟩ := h.form
  rw [ints_length] at h ⊢
  have hS := (St.arg w h).newOwn [(Value.slice A0 g.length cp0)] 32 (by simp)
  simp only [List.length_cons, List.length_nil, Nat.zero_add] at hS
  replace hS := hid hS
  have hpc := hid (fun W b vv (hO : Own W b 32 vv [(Value.slice A0 g.length cp0)]) (hr : Own W b 2 (Value.slice A0 g.length cp0) (ints g)) => l03Code_any W d n b vv [g] (mat1 hO hr) (by simp) (by simp; omega))
  rcases pcode_cases d n g with hp | hp | ⟨hp, a, b, rfl, rfl, hd, hn1, hn4, hgp⟩
  · have hR := hid (show wcode d n g ws most = 1 by unfold wcode; rw [hp]; rfl)
    rw [hp] at hpc
    rw [hR.out]
    replace h := hid h
    clear hR hp
    go_enter Tryz.func161, Tryz.ntmps161
    go_wp2_with (first
      | (go_at_call 152; (with_reducible refine (hpc.out _ _ _ (hS.out.o0.mono (Nat.zero_le _)) hS.out.o1).mono ?_); rintro e w1 ⟨rfl, hb⟩; replace hS := hid (hS.out.call hb); clear hb))
    go_ret
    exact ⟨rfl, hS.out.bel⟩
  · have hR := hid (show wcode d n g ws most = 2 by unfold wcode; rw [hp]; rfl)
    rw [hp] at hpc
    rw [hR.out]
    replace h := hid h
    clear hR hp
    go_enter Tryz.func161, Tryz.ntmps161
    go_wp2_with (first
      | (go_at_call 152; (with_reducible refine (hpc.out _ _ _ (hS.out.o0.mono (Nat.zero_le _)) hS.out.o1).mono ?_); rintro e w1 ⟨rfl, hb⟩; replace hS := hid (hS.out.call hb); clear hb))
    go_ret
    exact ⟨rfl, hS.out.bel⟩
  · have hR : wcode a b g ws most = if IsWd a ws then (if (ws.size : Int) ≤ most then 0 else 2) else 1 := by unfold wcode; rw [hp]; rfl
    rw [hp] at hpc
    rw [hR]
    clear hR hp
    by_cases hw : IsWd a ws
    · rw [if_pos hw]
      have hle := hid (fun W => l01Letters_any (a : Int) (by omega) (by omega) ws hws true ⟨fun _ => hw.2, fun _ => rfl⟩ W)
      have d40 : decide ((40 : Int) < (ws.size : Int)) = false := decide_eq_false (by have := hw.1; omega)
      have hw40 := hw.1
      replace h := hid h; replace hw := hid hw; replace hgp := hid hgp
      by_cases hm : (ws.size : Int) ≤ most
      · rw [if_pos hm]
        have dm : decide (most < (ws.size : Int)) = false := decide_eq_false (by omega)
        go_enter Tryz.func161, Tryz.ntmps161
        go_wp2_with (first
          | (go_at_call 152; (with_reducible refine (hpc.out _ _ _ (hS.out.o0.mono (Nat.zero_le _)) hS.out.o1).mono ?_); rintro e w1 ⟨rfl, hb⟩; replace hS := hid (hS.out.call hb); clear hb)
          | (go_at_call 225; (with_reducible refine (hle.out _).mono ?_); rintro e w' ⟨rfl, rfl⟩))
        go_ret
        exact ⟨rfl, hS.out.bel⟩
      · rw [if_neg hm]
        have dm : decide (most < (ws.size : Int)) = true := decide_eq_true (by omega)
        go_enter Tryz.func161, Tryz.ntmps161
        go_wp2_with (first
          | (go_at_call 152; (with_reducible refine (hpc.out _ _ _ (hS.out.o0.mono (Nat.zero_le _)) hS.out.o1).mono ?_); rintro e w1 ⟨rfl, hb⟩; replace hS := hid (hS.out.call hb); clear hb)
          | (go_at_call 225; (with_reducible refine (hle.out _).mono ?_); rintro e w' ⟨rfl, rfl⟩))
        go_ret
        exact ⟨rfl, hS.out.bel⟩
    · rw [if_neg hw]
      by_cases h40 : ws.size ≤ 40
      · have d40 : decide ((40 : Int) < (ws.size : Int)) = false := decide_eq_false (by omega)
        have hle := hid (fun W => l01Letters_any (a : Int) (by omega) (by omega) ws hws false ⟨fun h => (by cases h), fun h => absurd ⟨h40, h⟩ hw⟩ W)
        replace h := hid h; replace hw := hid hw; replace hgp := hid hgp
        go_enter Tryz.func161, Tryz.ntmps161
        go_wp2_with (first
          | (go_at_call 152; (with_reducible refine (hpc.out _ _ _ (hS.out.o0.mono (Nat.zero_le _)) hS.out.o1).mono ?_); rintro e w1 ⟨rfl, hb⟩; replace hS := hid (hS.out.call hb); clear hb)
          | (go_at_call 225; (with_reducible refine (hle.out _).mono ?_); rintro e w' ⟨rfl, rfl⟩))
        go_ret
        exact ⟨rfl, hS.out.bel⟩
      · have d40 : decide ((40 : Int) < (ws.size : Int)) = true := decide_eq_true (by omega)
        replace h := hid h; replace hw := hid hw; replace hgp := hid hgp
        go_enter Tryz.func161, Tryz.ntmps161
        go_wp2_with (first
          | (go_at_call 152; (with_reducible refine (hpc.out _ _ _ (hS.out.o0.mono (Nat.zero_le _)) hS.out.o1).mono ?_); rintro e w1 ⟨rfl, hb⟩; replace hS := hid (hS.out.call hb); clear hb))
        go_ret
        exact ⟨rfl, hS.out.bel⟩
end Go.Proofs.YthmcdfjijkecfaaGreat

/- Machines, compared by ==; and the machine of a state of a table is of bytes, and a machine again. -/
namespace Go.Proofs.YthmcdfjijkecfaaGreat
open Go.RowKit
set_option linter.unusedVariables false
set_option linter.unusedSimpArgs false

theorem cells_b48 : Tryz.prog.cellsOf 25 = 48 := by kernel_rfl
theorem cells_mach : Tryz.prog.cellsOf 27 = 98 := by kernel_rfl
theorem cells_i64 : Tryz.prog.cellsOf 2 = 1 := by kernel_rfl
theorem wf_i64s (a : Nat) (h : a < 1000000) : (Lit.int .i64 (a : Int)).wf = true := by
  have h0 : IntKind.i64.min = -9223372036854775808 := by decide
  have h1 : IntKind.i64.max = 9223372036854775807 := by decide
  simp [Lit.wf, IntKind.has, h0, h1]; omega
theorem lits_i64 (d : Nat) (a : Nat) (h : a < 1000000) : Tryz.prog.keyLits (d + 1) 2 [.int .i64 (a : Int)] = some [.int .i64 (a : Int)] := by
  unfold Program.keyLits
  rw [Tryz.underlying2]
  simp [wf_i64s a h]
theorem mapM_all {α β : Type} (F : α → Option β) (G : α → β) : ∀ l : List α, (∀ a ∈ l, F a = some (G a)) → l.mapM F = some (l.map G)
  | [], _ => rfl
  | a :: l, h => by
    rw [List.mapM_cons, h a (by simp), mapM_all F G l (fun b hb => h b (by simp [hb]))]
    rfl
def lrow3 (f : Nat → Nat) (i : Nat) : List Lit := [.int .u8 (f (i * 3) : Nat), .int .u8 (f (i * 3 + 1) : Nat), .int .u8 (f (i * 3 + 2) : Nat)]
def lit48 (f : Nat → Nat) : List Lit := ((List.range 16).map (lrow3 f)).flatten
theorem cut3 {α : Type} (g : Nat → α) (i : Nat) (h : i < 16) : (((List.range 48).map g).drop (i * 3)).take 3 = [g (i * 3), g (i * 3 + 1), g (i * 3 + 2)] := by
  apply List.ext_getElem?
  intro n
  rw [List.getElem?_take]
  rcases n with _ | _ | _ | n
  · rw [if_pos (by omega), List.getElem?_drop, List.getElem?_map, List.getElem?_range (by omega)]; rfl
  · rw [if_pos (by omega), List.getElem?_drop, List.getElem?_map, List.getElem?_range (by omega)]; rfl
  · rw [if_pos (by omega), List.getElem?_drop, List.getElem?_map, List.getElem?_range (by omega)]; rfl
  · rw [if_neg (by omega)]; rfl
theorem lits_b48 (d : Nat) (f : Nat → Nat) (h : ∀ i, f i < 256) : Tryz.prog.keyLits (d + 3) 25 ((List.range 48).map fun i => .int .u8 (f i : Nat)) = some (lit48 f) := by
  unfold Program.keyLits
  rw [Tryz.underlying25]
  simp only [cells_b48, List.length_map, List.length_range, cells_b3, if_true]
  rw [mapM_all _ (lrow3 f)]
  · rfl
  · intro i hi
    rw [List.mem_range] at hi
    rw [cut3 _ i hi]
    exact lits_b3 d _ _ _ (h _) (h _) (h _)
theorem flat3_inj (f g : Nat → Nat) : ∀ l : List Nat, (l.map (lrow3 f)).flatten = (l.map (lrow3 g)).flatten ↔ ∀ i ∈ l, lrow3 f i = lrow3 g i
  | [] => by simp
  | a :: l => by
    simp only [List.map_cons, List.flatten_cons, List.mem_cons, forall_eq_or_imp]
    rw [← flat3_inj f g l]
    exact ⟨fun h => List.append_inj h rfl, fun h => by rw [h.1, h.2]⟩
theorem lit48_inj (f g : Nat → Nat) (h : lit48 f = lit48 g) : ∀ i, i < 48 → f i = g i := fun i hi => by
  have := (flat3_inj f g _).1 h (i / 3) (List.mem_range.2 (by omega))
  simp only [lrow3, List.cons.injEq, Lit.int.injEq, true_and, and_true, Int.natCast_inj] at this
  obtain ⟨h0, h1, h2⟩ := this
  rcases (show i = i / 3 * 3 ∨ i = i / 3 * 3 + 1 ∨ i = i / 3 * 3 + 2 by omega) with e | e | e
  · rw [e]; exact h0
  · rw [e]; exact h1
  · rw [e]; exact h2
theorem mcells_list (m : Mach) : (mcells m).toList = [.int .i64 m.L] ++ ([.int .i64 m.S] ++ (((List.range 48).map fun i => .int .u8 (m.nx i : Nat)) ++ ((List.range 48).map fun i => .int .u8 (m.ot i : Nat)))) := by
  apply List.ext_getElem?
  intro n
  rw [Array.getElem?_toList]
  by_cases h : n < 98
  · rw [mcells_get m n h]
    rcases n with _ | _ | n
    · rfl
    · rfl
    · rw [List.getElem?_append_right (by simp), List.getElem?_append_right (by simp)]
      simp only [List.length_cons, List.length_nil]
      rw [show n + 1 + 1 - (0 + 1) - (0 + 1) = n by omega]
      by_cases hn : n < 48
      · rw [List.getElem?_append_left (by simpa using hn)]
        simp [mf, hn]; omega
      · rw [List.getElem?_append_right (by simp; omega)]
        simp only [List.length_map, List.length_range]
        rw [List.getElem?_map, List.getElem?_range (by omega)]
        unfold mf
        rw [if_neg (by omega), if_neg (by omega), if_neg (by omega), show n + 1 + 1 - 50 = n - 48 by omega]
        rfl
  · rw [Array.getElem?_eq_none (by rw [size_mcells]; omega), List.getElem?_eq_none (by simp; omega)]
def mlits (a b : Nat) (m : Mach) : List Lit := [.int .i64 (a : Int)] ++ ([.int .i64 (b : Int)] ++ (lit48 m.nx ++ lit48 m.ot))
set_option maxRecDepth 4000 in
theorem lits_mach (d : Nat) (m : Mach) (hk : m.Ok) (a b : Nat) (ha : m.L = a) (hb : m.S = b) (ha' : a < 1000000) (hb' : b < 1000000) : Tryz.prog.keyLits (d + 4) 27 (mcells m).toList = some (mlits a b m) := by
  have hlen : (mcells m).toList.length = 98 := by rw [Array.length_toList, size_mcells]
  have hc := mcells_list m
  rw [ha, hb] at hc
  have hN : ((List.range 48).map fun i => Value.int .u8 (m.nx i : Nat)).length = 48 := by simp
  have hO : ((List.range 48).map fun i => Value.int .u8 (m.ot i : Nat)).length = 48 := by simp
  have kN := lits_b48 d m.nx (fun i => (hk i).1)
  have kO := lits_b48 d m.ot (fun i => (hk i).2)
  generalize (List.range 48).map (fun i => Value.int .u8 (m.nx i : Nat)) = N at *
  generalize (List.range 48).map (fun i => Value.int .u8 (m.ot i : Nat)) = O at *
  unfold Program.keyLits
  rw [Tryz.underlying27]
  simp only [hlen, cells_mach, if_true, true_and]
  rw [if_pos (by decide +kernel)]
  rw [hc]
  simp only [List.mapM_cons, List.mapM_nil, cells_i64, cells_b48]
  have e0 : ([Value.int .i64 (a : Int)] ++ ([Value.int .i64 (b : Int)] ++ (N ++ O))).drop 2 = N ++ O := rfl
  have e1 : ([Value.int .i64 (a : Int)] ++ ([Value.int .i64 (b : Int)] ++ (N ++ O))).drop 50 = O := by
    show (N ++ O).drop 48 = O
    rw [List.drop_append_of_le_length (by omega), List.drop_of_length_le (by omega), List.nil_append]
  have e2 : (N ++ O).take 48 = N := by rw [List.take_append_of_le_length (by omega), List.take_of_length_le (by omega)]
  have e3 : O.take 48 = O := List.take_of_length_le (by omega)
  have e4 : (([Value.int .i64 (a : Int)] ++ ([Value.int .i64 (b : Int)] ++ (N ++ O))).drop 0).take 1 = [Value.int .i64 (a : Int)] := rfl
  have e5 : (([Value.int .i64 (a : Int)] ++ ([Value.int .i64 (b : Int)] ++ (N ++ O))).drop 1).take 1 = [Value.int .i64 (b : Int)] := rfl
  rw [e0, e1, e2, e3, e4, e5, lits_i64 _ a ha', lits_i64 _ b hb', kN, kO]
  simp [mlits]
theorem mlits_inj {a b a' b' : Nat} {m k : Mach} (ha : m.L = a) (hb : m.S = b) (ha' : k.L = a') (hb' : k.S = b') : mlits a b m = mlits a' b' k ↔ mcells m = mcells k := by
  constructor
  · intro h
    unfold mlits at h
    have l1 : (lit48 m.nx).length = 48 := rfl
    have l2 : (lit48 k.nx).length = 48 := rfl
    have h1 := List.append_inj h rfl
    have h2 := List.append_inj h1.2 rfl
    have h3 := List.append_inj h2.2 (by rw [l1, l2])
    have i1 := lit48_inj _ _ h3.1
    have i2 := lit48_inj _ _ h3.2
    have e1 : a = a' := by have := h1.1; simp at this; omega
    have e2 : b = b' := by have := h2.1; simp at this; omega
    unfold mcells
    congr 1
    apply List.map_congr_left
    intro i hi
    rw [List.mem_range] at hi
    unfold mf
    rw [ha, hb, ha', hb', e1, e2]
    split
    · rfl
    · split
      · rfl
      · split
        · rw [i1 _ (by omega)]
        · rw [i2 _ (by omega)]
  · intro h
    have g : ∀ i, i < 98 → mf m i = mf k i := fun i hi => by
      have := mcells_get m i hi
      rw [h, mcells_get k i hi] at this
      exact (Option.some.inj this).symm
    have e1 : a = a' := by have := g 0 (by omega); simp [mf, ha, ha'] at this; omega
    have e2 : b = b' := by have := g 1 (by omega); simp [mf, hb, hb'] at this; omega
    have i1 : ∀ i, i < 48 → m.nx i = k.nx i := fun i hi => by
      have := g (i + 2) (by omega)
      unfold mf at this
      rw [if_neg (by omega), if_neg (by omega), if_pos (by omega), if_neg (by omega), if_neg (by omega), if_pos (by omega)] at this
      simp at this
      omega
    have i2 : ∀ i, i < 48 → m.ot i = k.ot i := fun i hi => by
      have := g (i + 50) (by omega)
      unfold mf at this
      rw [if_neg (by omega), if_neg (by omega), if_neg (by omega), if_neg (by omega), if_neg (by omega), if_neg (by omega)] at this
      simp at this
      omega
    unfold mlits lit48
    rw [e1, e2]
    congr 3
    · congr 1
      apply List.map_congr_left
      intro i hi
      rw [List.mem_range] at hi
      unfold lrow3
      rw [i1 _ (by omega), i1 _ (by omega), i1 _ (by omega)]
    · congr 1
      apply List.map_congr_left
      intro i hi
      rw [List.mem_range] at hi
      unfold lrow3
      rw [i2 _ (by omega), i2 _ (by omega), i2 _ (by omega)]
/-- Two machines. -/
theorem eq_mach (w : World) (m k : Mach) (hm : m.Ok) (hk : k.Ok) (a b a' b' : Nat) (ha : m.L = a) (hb : m.S = b) (ha' : k.L = a') (hb' : k.S = b') (la : a < 1000000) (lb : b < 1000000) (la' : a' < 1000000) (lb' : b' < 1000000) (r : Bool) (hr : Tells r (mcells m = mcells k)) :
    (Op.equalIn 10000 27 (.agg (mcells m)) (.agg (mcells k))).run Tryz.prog w = .ok r w := by
  have hf : ∀ m : Mach, (Value.agg (mcells m)).formed Tryz.prog 27 = true := fun m => by
    simp [Value.formed, Tryz.underlying27, cells_mach, size_mcells]
  obtain ⟨q, hq, hi⟩ := run_equalIn_deep (P := Tryz.prog) 9995 5 27 key_mach w 4 4 _ _ _ _ (hf m) (hf k) (lits_mach 0 m hm a b ha hb la lb) (lits_mach 0 k hk a' b' ha' hb' la' lb')
  have e : q = r := by
    rw [Bool.eq_iff_iff, hi, hr.out, mlits_inj ha hb ha' hb']
  rw [← e]
  exact hq

section
variable {T : Tab}
/-- The machine of a state of a table. -/
theorem fin_lt (hT : T.Ok) {q : Nat} (hq : q < T.n) {s : Nat} (hs : s ∈ fin T (fix T) q) : s < T.n := (bfs_uniq hT (fun q hq => fix_lt q hq) q hq T.n).2 s hs
theorem gth_nx (hT : T.Ok) {q : Nat} (hq : q < T.n) (p : Nat) : (gth T (fix T) (fin T (fix T) q)).nx p ≤ (fin T (fix T) q).length ∧ (p / 3 < (fin T (fix T) q).length → p % 3 < T.L → (gth T (fix T) (fin T (fix T) q)).nx p < (fin T (fix T) q).length) := by
  have hp := fin_pos T (fix T) q
  unfold gth gthP
  dsimp only
  split
  · rename_i h
    have hi : p / 3 < (fin T (fix T) q).length := by omega
    have hs : (fin T (fix T) q).getD (p / 3) 0 ∈ fin T (fix T) q := by
      rw [List.getD_eq_getElem?_getD, List.getElem?_eq_getElem hi]; exact List.getElem_mem hi
    have := mem_idxOf_lt (fin_closed hT (c := fix T) (fun q hq => fix_lt q hq) hq _ hs (p % 3) h.2)
    exact ⟨Nat.le_of_lt this, fun _ _ => this⟩
  · rename_i h
    exact ⟨Nat.zero_le _, fun h1 h2 => absurd ⟨.inl h1, h2⟩ h⟩
theorem gth_ot (hT : T.Ok) {q : Nat} (hq : q < T.n) {N : Nat} (hN : 0 < N) (hot : ∀ q x, q < T.n → x < T.L → T.ot q x < N) (p : Nat) : (gth T (fix T) (fin T (fix T) q)).ot p < N := by
  unfold gth gthP
  dsimp only
  split
  · rename_i h
    refine hot _ _ ?_ h.2
    have hi : p / 3 < (fin T (fix T) q).length := by omega
    rw [List.getD_eq_getElem?_getD, List.getElem?_eq_getElem hi]
    exact fin_lt hT hq (List.getElem_mem hi)
  · exact hN
theorem fromM_ok (hT : T.Ok) {q : Nat} (hq : q < T.n) (hot : ∀ q x, q < T.n → x < T.L → T.ot q x < 256) : (fromM T q).Ok := by
  unfold fromM
  split
  · rename_i h
    intro p
    exact ⟨by have := (gth_nx hT hq p).1; omega, gth_ot hT hq (by omega) hot p⟩
  · exact fun p => ⟨by show 0 < 256; omega, by show 0 < 256; omega⟩
theorem fromM_L (T : Tab) (q : Nat) : ∃ a : Nat, (fromM T q).L = a ∧ a ≤ T.L := by
  unfold fromM; split
  · exact ⟨T.L, rfl, Nat.le_refl _⟩
  · exact ⟨0, rfl, Nat.zero_le _⟩
theorem fromM_S (T : Tab) (q : Nat) : ∃ a : Nat, (fromM T q).S = a ∧ a ≤ 16 := by
  unfold fromM; split
  · rename_i h; exact ⟨_, rfl, h⟩
  · exact ⟨0, rfl, Nat.zero_le _⟩
/-- .. is a machine, where the table's rows are permutations. -/
theorem fromM_good (hT : T.Ok) {q : Nat} (hq : q < T.n) (h2 : 2 ≤ T.L) (h3 : T.L ≤ 3) (hot : ∀ q x, q < T.n → x < T.L → T.ot q x < T.L) (hinj : ∀ q, q < T.n → ∀ y x, y < x → x < T.L → T.ot q y ≠ T.ot q x) (hc : fromC T q = 0) :
    ∃ s, Good (fromM T q) T.L s := by
  have h : (fin T (fix T) q).length ≤ 16 := by
    unfold fromC at hc
    split at hc
    · assumption
    · cases hc
  refine ⟨(fin T (fix T) q).length, ?_⟩
  have hg : fromM T q = gth T (fix T) (fin T (fix T) q) := by unfold fromM; rw [if_pos h]
  rw [hg]
  have hat : ∀ r, r < (fin T (fix T) q).length → (fin T (fix T) q).getD r 0 < T.n := fun r hr => by
    rw [List.getD_eq_getElem?_getD, List.getElem?_eq_getElem hr]
    exact fin_lt hT hq (List.getElem_mem hr)
  refine ⟨rfl, rfl, h2, h3, fin_pos _ _ _, h, ?_, ?_, ?_, ?_⟩
  · intro r x hr hx
    exact (gth_nx hT hq _).2 (by omega) (by omega)
  · intro r x hr hx
    exact gth_ot hT hq (by omega) hot _
  · intro r hr y x hy hx
    unfold gth gthP
    dsimp only
    rw [if_pos (by omega), if_pos (by omega), show (r * 3 + y) / 3 = r by omega, show (r * 3 + x) / 3 = r by omega, show (r * 3 + y) % 3 = y by omega, show (r * 3 + x) % 3 = x by omega]
    exact hinj _ (hat r hr) y x hy hx
  · intro r x hr hx hn
    unfold gth gthP
    dsimp only
    rw [if_neg (by omega), if_neg (by omega)]
    exact ⟨rfl, rfl⟩
theorem tabOf_ot {m : Mach} {l s : Nat} (g : Good m l s) : ∀ q x, q < (tabOf m l s).n → x < (tabOf m l s).L → (tabOf m l s).ot q x < (tabOf m l s).L := fun q x hq hx => g.ot q x hq hx
theorem tabOf_inj {m : Mach} {l s : Nat} (g : Good m l s) : ∀ q, q < (tabOf m l s).n → ∀ y x, y < x → x < (tabOf m l s).L → (tabOf m l s).ot q y ≠ (tabOf m l s).ot q x := fun q hq y x hy hx => g.inj q hq y x hy hx
end
end Go.Proofs.YthmcdfjijkecfaaGreat
