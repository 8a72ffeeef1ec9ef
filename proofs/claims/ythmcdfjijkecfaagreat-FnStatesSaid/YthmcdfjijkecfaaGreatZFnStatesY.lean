/- What the proof of FnStates leans on, part 25 of 29. -/
import Derived.Test.YthmcdfjijkecfaaGreatZFnStatesX
import Derived.OwnWalk
import Derived.Maps.AppendAt
/- Draws of portraits. -/
namespace Go.Proofs.YthmcdfjijkecfaaGreat
open Go.RowKit
set_option linter.unusedVariables false
set_option linter.unusedSimpArgs false
-- @LONG

section
variable {w0 w : World} {S : Nat} {v : Value} {l : List Nat} {L : List Asn}
set_option maxHeartbeats 2000000 in
set_option maxRecDepth 100000 in
theorem Dg.sized (D : Dg w0 S v l) (hS : St w0.heap.size w0 (Asn.src S v l.length :: L) w) :
    Calls Tryz.prog 146 #[.pointer (some ⟨S, 0, none⟩)] w fun e w' => ∃ d n : Int, e = .returned (.tuple #[.int .i64 d, .int .i64 n]) ∧ Hid (-10 ≤ d ∧ d ≤ 10 ∧ -10 ≤ n ∧ n ≤ 10) ∧ St w0.heap.size w0 (Asn.src S v l.length :: L) w' := by
  have hN := hid (fun W L n (h0 : n ≤ 1000000000) hW => D.next (w := W) (L := L) n h0 hW)
  have hP := hid (fun W L b2 v2 M hM hMl hW => D.pick (w := W) (L := L) (b2 := b2) (v2 := v2) M hM hMl hW)
  have h1 := hid (fun (r : Int) (h : r ∈ [1, 4, (0 : Int)]) => (show 0 ≤ r ∧ r ≤ 4 from by simp only [List.mem_cons, List.not_mem_nil, or_false] at h; rcases h with rfl | rfl | rfl <;> omega))
  have h2 := hid (fun (r : Int) (h : r ∈ [0, 5, (-1 : Int)]) => (show -1 ≤ r ∧ r ≤ 5 from by simp only [List.mem_cons, List.not_mem_nil, or_false] at h; rcases h with rfl | rfl | rfl <;> omega))
  have h3 := hid (fun (r : Int) (h : r ∈ [2, 2, (3 : Int)]) => (show 2 ≤ r ∧ r ≤ 3 from by simp only [List.mem_cons, List.not_mem_nil, or_false] at h; rcases h with rfl | rfl | rfl <;> omega))
  replace hS := hid hS
  clear D
  go_enter Tryz.func146, Tryz.ntmps146
  go_upto_region 2 with (first
    | (go_at_call 130; (with_reducible refine (hN.out _ _ _ (by omega) hS.out).mono ?_); rintro e w1 ⟨z, rfl, _, hS'⟩; replace hS := hid hS'; clear hS'))
  by_cases z0 : z = 0
  · subst z0
    go_wp2_with (
      (go_at_call 158; (have hS2 := hS.out.list [.int .i64 1, .int .i64 4, .int .i64 0] (by simp)); (with_reducible refine (hP.out _ _ _ _ [1, 4, 0] (by simp) (by simp) hS2).mono ?_); rintro e w2 ⟨r, rfl, hr, hS'⟩; (have hr' := hid (h1.out _ hr)); replace hS := hid hS'; clear hS' hS2 hr))
    go_ret2
    exact ⟨r, 2, rfl, hid (by have := hr'.out; omega), hS.out⟩
  · have d0 : ((z : Int) == 0) = false := by simp; omega
    by_cases z1 : z = 1
    · subst z1
      go_wp2_with (
        (go_at_call 158; (have hS2 := hS.out.list [.int .i64 0, .int .i64 5, .int .i64 (-1)] (by simp)); (with_reducible refine (hP.out _ _ _ _ [0, 5, -1] (by simp) (by simp) hS2).mono ?_); rintro e w2 ⟨r, rfl, hr, hS'⟩; (have hr' := hid (h2.out _ hr)); replace hS := hid hS'; clear hS' hS2 hr))
      go_ret2
      exact ⟨2, r, rfl, hid (by have := hr'.out; omega), hS.out⟩
    · have d1 : ((z : Int) == 1) = false := by simp; omega
      go_upto_region 7 with (
        (go_at_call 158; (have hS2 := hS.out.list [.int .i64 2, .int .i64 2, .int .i64 3] (by simp)); (with_reducible refine (hP.out _ _ _ _ [2, 2, 3] (by simp) (by simp) hS2).mono ?_); rintro e w2 ⟨r, rfl, hr, hS'⟩; (have hr' := hid (h3.out _ hr)); replace hS := hid hS'; clear hS' hS2 hr))
      have hrb := hr'.out
      have e1 : wrap64 (6 - r) = 6 - r := w64 (by omega) (by omega)
      have e2 : IntKind.i64.wrap (6 - r) = 6 - r := IntWalk.i64_in _ (by omega)
      go_wp2_with (
        (go_at_call 130; (with_reducible refine (hN.out _ _ (6 - r) (by omega) hS.out).mono ?_); rintro e w3 ⟨y, rfl, hy, hS'⟩; (have e3 : wrap64 (1 + (y : Int)) = 1 + (y : Int) := w64 (by omega) (by omega)); (have e4 : IntKind.i64.wrap (1 + (y : Int)) = 1 + (y : Int) := IntWalk.i64_in _ (by omega)); replace hS := hid hS'; clear hS'))
      go_ret2
      exact ⟨r, 1 + (y : Int), rfl, hid (by omega), hS.out⟩
set_option maxHeartbeats 4000000 in
set_option maxRecDepth 100000 in
theorem Dg.prt (D : Dg w0 S v l) (d n : Int) (hS : St w0.heap.size w0 (Asn.src S v l.length :: L) w) :
    Calls Tryz.prog 147 #[.pointer (some ⟨S, 0, none⟩), .int .i64 d, .int .i64 n] w fun e w' => ∃ (u : Value) (g : List Int), e = .returned u ∧ Hid (g.length ≤ 50) ∧ St w0.heap.size w0 (Asn.src S v l.length :: Asn.own w0.heap.size 2 u (ints g) :: L) w' := by
  have hN := hid (fun W L n (h0 : n ≤ 1000000000) hW => D.next (w := W) (L := L) n h0 hW)
  have hP := hid (fun W L b2 v2 M hM hMl hW => D.pick (w := W) (L := L) (b2 := b2) (v2 := v2) M hM hMl hW)
  clear D
  by_cases hD : IsD d n
  · have hsz := hid (fun W => l03Sizes_any d n true (decide_eq_true hD).symm W)
    obtain ⟨d, n, rfl, rfl, hd, hn1, hn4⟩ := hD.nat
    have hct := hid (fun W => l03Count_any d hd W)
    have hst := hid (fun W => l03Start_any d n hd (by omega) W)
    have hs40 := (start_le hd hn4).1
    have hs1 : 1 ≤ start d n := by
      obtain ⟨j, hj⟩ : ∃ j, n = 1 + j := ⟨n - 1, by omega⟩
      rw [hj]
      have := start_mono d 1 j
      have h1 : start d 1 = 1 := rfl
      omega
    have hc6 : cnt d ≤ 6 := by rcases hd with rfl | rfl <;> decide
    have hc2 : 2 ≤ cnt d := by rcases hd with rfl | rfl <;> decide
    replace hD := hid hD
    have hS0 := hid ((hS.newOwn [] 2 (by simp)).f1)
    clear hS hD
    generalize start d n = N at *
    generalize cnt d = C at *
    go_enter Tryz.func147, Tryz.ntmps147
    go_upto_region 5 with (first
      | (go_at_call 222; (with_reducible refine (hsz.out _).mono ?_); rintro e w' ⟨rfl, rfl⟩)
      | (go_at_call 130; (with_reducible refine (hN.out _ _ _ (by omega) hS0.out).mono ?_); rintro e w1 ⟨cm, rfl, hcm, hS'⟩; replace hS0 := hid hS'; clear hS' hcm)
      | (go_at_call 153; (with_reducible refine (hst.out _).mono ?_); rintro e w' ⟨rfl, rfl⟩))
    go_loopw [7, 9] (fun o i wr => ∃ (g : List Int) (k : Nat), i = .int .i64 k ∧ g.length + k = N ∧ St w0.heap.size w0 (Asn.src S v l.length :: Asn.own w0.heap.size 2 o (ints g) :: L) wr) (fun _ i _ => (intOf i).toNat)
    case atStart => exact ⟨[], N, rfl, by simp, hS0.out⟩
    case round =>
      obtain ⟨g, k, rfl, hgk, rS⟩ := hrel
      clear hS0
      replace rS := hid rS
      have hil := hid (ints_length g)
      by_cases hlt : 0 < k
      · have dk : decide ((0 : Int) < (k : Int)) = true := decide_eq_true (by omega)
        have ek : IntKind.i64.wrap ((k : Int) - 1) = ((k - 1 : Nat) : Int) := by rw [show (k : Int) - 1 = ((k - 1 : Nat) : Int) by omega]; exact IntWalk.i64_in _ (by omega)
        go_wp2_with (first
          | (go_at_call 159; (with_reducible refine (hct.out _).mono ?_); rintro e w' ⟨rfl, rfl⟩)
          | (go_at_call 130; (with_reducible refine (hN.out _ _ (C : Int) (by omega) rS.out).mono ?_); rintro e w2 ⟨x, rfl, hx, hS'⟩; replace rS := hid hS'; clear hS' hx)
          | (go_at_call 130; (with_reducible refine (hN.out _ _ 2 (by omega) rS.out).mono ?_); rintro e w3 ⟨y, rfl, hy, hS'⟩; replace rS := hid hS'; clear hS' hy)
          | ((with_reducible refine gate (N := 40) rfl ?_); (refine St.app 32 2 (.int .i64 0) 8 Tryz.underlying32 info_i64 rfl (by omega) rfl _ _ rfl _ _ rfl rS.out.f1 _ rfl rfl g.length hil.out (by omega) ?_; intro gn cap w2 hO2; replace rS := hid hO2.f1; clear hO2)))
        all_goals go_roundw
        all_goals first
          | (exact ⟨g ++ [(x : Int)], k - 1, rfl, by simp; omega, by rw [ints_snoc]; exact rS.out⟩)
          | (exact ⟨g ++ [0], k - 1, rfl, by simp; omega, by rw [ints_snoc]; exact rS.out⟩)
          | (simp only [intOf]; omega)
      · obtain rfl : k = 0 := by omega
        have dk : decide ((0 : Int) < ((0 : Nat) : Int)) = false := by decide
        obtain ⟨ga, ca, rfl, _, _⟩ := rS.out.o1.blk (fun e => by have h1 := congrArg List.length e; rw [hil.out, List.length_nil] at h1; omega)
        have hgN : g.length = N := by omega
        rw [hil.out, hgN] at rS ⊢
        rw [hgN] at hil
        go_upto_region 12 with (
          (go_at_call 130; (with_reducible refine (hN.out _ _ _ (by omega) rS.out).mono ?_); rintro e w2 ⟨z, rfl, hz, hS'⟩; replace rS := hid hS'; clear hS' hz))
        have i0 : (0 : Int) < (N : Int) := by omega
        by_cases z0 : z = 0
        · subst z0
          obtain ⟨c0, hc0⟩ : ∃ c0, (ints g)[0]? = some c0 := ⟨_, List.getElem?_eq_getElem (by rw [hil.out]; omega)⟩
          go_wp2_with (first
            | (go_at_call 159; (with_reducible refine (hct.out _).mono ?_); rintro e w' ⟨rfl, rfl⟩)
            | (go_at_call 158; (have hS2 := rS.out.list [.int .i64 (-1), .int .i64 (C : Int), .int .i64 6] (by simp)); (with_reducible refine (hP.out _ _ _ _ [-1, (C : Int), 6] (by simp) (by simp) hS2).mono ?_); rintro e w3 ⟨r, rfl, hr, hS'⟩; (have co := Own.cellAt hS'.o1 0 c0 hc0); (have fo := Own.frozenAt hS'.o1 hil.out 0); replace rS := hid (hS'.f1.setOwn hil.out 0 (.int .i64 r) (by omega)).f1; clear hS' hS2 hr))
          go_ret
          exact ⟨_, g.set 0 r, rfl, hid (by rw [List.length_set]; omega), by rw [show ints (g.set 0 r) = (ints g).set 0 (.int .i64 r) from by simp [ints, List.map_set]]; exact rS.out⟩
        · have d0 : ((z : Int) == 0) = false := by simp; omega
          by_cases z1 : z = 1
          · subst z1
            go_wp2_with (
              ((with_reducible refine gate (N := 56) rfl ?_); (refine St.app 32 2 (.int .i64 0) 8 Tryz.underlying32 info_i64 rfl (by omega) rfl _ _ rfl _ _ rfl rS.out.f1 _ rfl rfl N hil.out (by omega) ?_; intro gn cap w3 hO2; replace rS := hid hO2.f1; clear hO2)))
            go_ret
            exact ⟨_, g ++ [0], rfl, hid (by simp; omega), by rw [ints_snoc]; exact rS.out⟩
          · have d1 : ((z : Int) == 1) = false := by simp; omega
            go_wp2
            go_ret
            exact ⟨_, g, rfl, hid (by omega), rS.out⟩
  · have hsz := hid (fun W => l03Sizes_any d n false (decide_eq_false hD).symm W)
    have hS0 := hid ((hS.newOwn [.int .i64 0, .int .i64 1] 2 (by simp)).f1)
    clear hS hD hN hP
    go_enter Tryz.func147, Tryz.ntmps147
    go_wp2_with (
      (go_at_call 222; (with_reducible refine (hsz.out _).mono ?_); rintro e w' ⟨rfl, rfl⟩))
    go_ret
    exact ⟨_, [0, 1], rfl, hid (by simp), hS0.out⟩
end
set_option maxHeartbeats 2000000 in
set_option maxRecDepth 100000 in
theorem drIsp_any (w : World) (v : Value) (l : List Nat) (hv : ArgB w v l) (hl : l.length ≤ 4096) :
    Calls Tryz.prog 151 #[v] w fun e w' => ∃ (d n : Int) (u : Value) (g : List Int), e = .returned (.tuple #[.int .i64 d, .int .i64 n, u]) ∧ Hid (-10 ≤ d ∧ d ≤ 10 ∧ -10 ≤ n ∧ n ≤ 10 ∧ g.length ≤ 50) ∧ Own w' w.heap.size 2 u (ints g) ∧ Below w.heap.size w w' := by
  have hS := hid (St.start w)
  have hfr := hid (fun W L hW => Dg.from (w := w) (W := W) (L := L) hv hl hW)
  replace hv := hid hv
  obtain ⟨A, c, rfl, _⟩ := hv.out
  go_enter Tryz.func151, Tryz.ntmps151
  go_wp2_with (first
    | (go_at_call 104; (with_reducible refine (hfr.out _ _ hS.out).mono ?_); rintro e w1 ⟨S, rfl, D, hS'⟩; replace hS := hid hS'; clear hS')
    | (go_at_call 146; (with_reducible refine (D.out.sized hS.out).mono ?_); rintro e w2 ⟨d, n, rfl, hd, hS'⟩; replace hS := hid hS'; clear hS')
    | (go_at_call 147; (with_reducible refine (D.out.prt d n hS.out).mono ?_); rintro e w3 ⟨u, g, rfl, hg, hS'⟩; replace hS := hid hS'; clear hS'))
  go_ret3
  exact ⟨d, n, u, g, rfl, hid (by have := hd.out; have := hg.out; omega), hS.out.o1, hS.out.bel⟩
set_option maxHeartbeats 2000000 in
set_option maxRecDepth 100000 in
theorem drSgn_any (w : World) (v : Value) (l : List Nat) (hv : ArgB w v l) (hl : l.length ≤ 4096) :
    Calls Tryz.prog 53 #[v] w fun e w' => ∃ (d n : Int) (u : Value) (g : List Int), e = .returned (.tuple #[.int .i64 d, .int .i64 n, u]) ∧ Hid (-10 ≤ d ∧ d ≤ 10 ∧ -10 ≤ n ∧ n ≤ 10 ∧ g.length ≤ 50) ∧ Own w' w.heap.size 2 u (ints g) ∧ Below w.heap.size w w' := by
  have hdr := hid (drIsp_any w v l hv hl)
  obtain ⟨A, c, rfl, _⟩ := hv
  go_enter Tryz.func53, Tryz.ntmps53
  go_wp2_with (
    (go_at_call 151; (with_reducible refine (hdr.out).mono ?_); rintro e w1 ⟨d, n, u, g, rfl, hd, hO, hb⟩; replace hO := hid hO; replace hb := hid hb))
  go_ret3
  exact ⟨d, n, u, g, rfl, hd, hO.out, hb.out⟩
theorem results_tmp4 {fn : Func} {t u v x : Tmp} (h : fn.results = #[.tmp t, .tmp u, .tmp v, .tmp x]) (tmps : Array Value) (P : Program) (w : World) :
    (results fn tmps).run P w = .ok (.tuple #[tmps.getD t undef, tmps.getD u undef, tmps.getD v undef, tmps.getD x undef]) w := by
  simp [results, h]
set_option maxHeartbeats 2000000 in
set_option maxRecDepth 100000 in
theorem drMul_any (w : World) (v : Value) (l : List Nat) (hv : ArgB w v l) (hl : l.length ≤ 4096) :
    Calls Tryz.prog 51 #[v] w fun e w' => ∃ (d n : Int) (u1 u2 : Value) (g1 g2 : List Int), e = .returned (.tuple #[.int .i64 d, .int .i64 n, u1, u2]) ∧ Hid (-10 ≤ d ∧ d ≤ 10 ∧ -10 ≤ n ∧ n ≤ 10 ∧ g1.length ≤ 50 ∧ g2.length ≤ 50) ∧ Own w' w.heap.size 2 u1 (ints g1) ∧ Own w' w.heap.size 2 u2 (ints g2) ∧ Below w.heap.size w w' := by
  have hS := hid (St.start w)
  have hfr := hid (fun W L hW => Dg.from (w := w) (W := W) (L := L) hv hl hW)
  replace hv := hid hv
  obtain ⟨A, c, rfl, _⟩ := hv.out
  go_enter Tryz.func51, Tryz.ntmps51
  have mk1 : True := trivial
  go_wp2_with (first
    | (go_at_call 104; (with_reducible refine (hfr.out _ _ hS.out).mono ?_); rintro e w1 ⟨S, rfl, D, hS'⟩; replace hS := hid hS'; clear hS')
    | (go_at_call 146; (with_reducible refine (D.out.sized hS.out).mono ?_); rintro e w2 ⟨d, n, rfl, hd, hS'⟩; replace hS := hid hS'; clear hS')
    | (go_at_call 147; clear mk1; (with_reducible refine (D.out.prt d n hS.out).mono ?_); rintro e w3 ⟨u, g, rfl, hg, hS'⟩; replace hS := hid hS'; clear hS')
    | (go_at_call 147; (with_reducible refine (D.out.prt d n hS.out).mono ?_); rintro e w4 ⟨u2, g2, rfl, hg2, hS'⟩; replace hS := hid hS'; clear hS'))
  try simp only [Exit.inBlock, Exit.then]
  refine bodyPost_ret (results_tmp4 rfl _ _ _) rfl ?_
  exact ⟨d, n, u, u2, g, g2, rfl, hid (by have := hd.out; have := hg.out; have := hg2.out; omega), hS.out.o2, hS.out.o1, hS.out.bel⟩
set_option maxHeartbeats 2000000 in
set_option maxRecDepth 100000 in
theorem drAcp_any (w : World) (v : Value) (l : List Nat) (hv : ArgB w v l) (hl : l.length ≤ 4096) :
    Calls Tryz.prog 160 #[v] w fun e w' => ∃ (d n : Int) (u : Value) (g : List Int) (ws : ByteArray), e = .returned (.tuple #[.int .i64 d, .int .i64 n, u, .string ws]) ∧ Hid (-10 ≤ d ∧ d ≤ 10 ∧ -10 ≤ n ∧ n ≤ 10 ∧ g.length ≤ 50 ∧ ws.size ≤ 60) ∧ Own w' w.heap.size 2 u (ints g) ∧ Below w.heap.size w w' := by
  have hS := hid (St.start w)
  have hfr := hid (fun W L hW => Dg.from (w := w) (W := W) (L := L) hv hl hW)
  replace hv := hid hv
  obtain ⟨A, c, rfl, _⟩ := hv.out
  go_enter Tryz.func160, Tryz.ntmps160
  go_upto_region 3 with (first
    | (go_at_call 104; (with_reducible refine (hfr.out _ _ hS.out).mono ?_); rintro e w1 ⟨S, rfl, D, hS'⟩; replace hS := hid hS'; clear hS')
    | (go_at_call 146; (with_reducible refine (D.out.sized hS.out).mono ?_); rintro e w2 ⟨d, n, rfl, hd, hS'⟩; replace hS := hid hS'; clear hS'))
  have hdb := hd.out
  by_cases n0 : n < 0
  · skip
    go_upto_region 5 with (first
      | (go_at_call 130; (with_reducible refine (D.out.next 20 (by omega) hS.out).mono ?_); rintro e w7 ⟨z, rfl, _, hS'⟩; replace hS := hid hS'; clear hS')
      | (go_at_call 130; (with_reducible refine (D.out.next _ (by omega) hS.out).mono ?_); rintro e w5 ⟨r, rfl, hr, hS'⟩; (have hr40 : (r : Int) ≤ 41 := by omega); replace hS := hid hS'; clear hS' hr)
      | (go_at_call 132; (with_reducible refine (D.out.word d r hr40 hS.out).mono ?_); rintro e w6 ⟨uw, rfl, hu, hS'⟩; (have hus := hid (show (wstr uw).size ≤ 50 from by rw [wstr_size]; have := hu.out.1; omega)); generalize wstr uw = us at *; replace hS := hid hS'; clear hS' hu))
    have hadd : us.size + ({ data := #[48, 48, 48, 48] } : ByteArray).size ≤ 9223372036854775807 := by have := hus.out; show us.size + 4 ≤ _; omega
    have hadd2 : us.size + 4 ≤ 9223372036854775807 := by have := hus.out; omega
    by_cases z0 : z = 0
    · subst z0
      go_wp2_with (first
        | (go_at_call 213; (with_reducible refine (D.out.damage us (by have := hus.out; omega) hS.out).mono ?_); rintro e w8 ⟨us2, rfl, hus2, hS'⟩; replace hS := hid hS'; clear hS')
        | (go_at_call 147; (with_reducible refine (D.out.prt d n hS.out).mono ?_); rintro e w9 ⟨u, g, rfl, hg, hS'⟩; replace hS := hid hS'; clear hS'))
      try simp only [Exit.inBlock, Exit.then]
      refine bodyPost_ret (results_tmp4 rfl _ _ _) rfl ?_
      exact ⟨d, n, u, g, _, rfl, hid (by have := hd.out; have := hg.out; have := hus.out; refine ⟨by omega, by omega, by omega, by omega, by omega, ?_⟩; rw [ByteArray.size_append]; show us.size + 4 ≤ 60; omega), hS.out.o1, hS.out.bel⟩
    · have d0 : ((z : Int) == 0) = false := by simp; omega
      by_cases z1 : z = 1
      · subst z1
        go_wp2_with (first
          | (go_at_call 213; (with_reducible refine (D.out.damage us (by have := hus.out; omega) hS.out).mono ?_); rintro e w8 ⟨us2, rfl, hus2, hS'⟩; replace hS := hid hS'; clear hS')
          | (go_at_call 147; (with_reducible refine (D.out.prt d n hS.out).mono ?_); rintro e w9 ⟨u, g, rfl, hg, hS'⟩; replace hS := hid hS'; clear hS'))
        try simp only [Exit.inBlock, Exit.then]
        refine bodyPost_ret (results_tmp4 rfl _ _ _) rfl ?_
        exact ⟨d, n, u, g, _, rfl, hid (by have := hd.out; have := hg.out; have := hus.out; have := hus2.out; omega), hS.out.o1, hS.out.bel⟩
      · have d1 : ((z : Int) == 1) = false := by simp; omega
        go_wp2_with (first
          | (go_at_call 213; (with_reducible refine (D.out.damage us (by have := hus.out; omega) hS.out).mono ?_); rintro e w8 ⟨us2, rfl, hus2, hS'⟩; replace hS := hid hS'; clear hS')
          | (go_at_call 147; (with_reducible refine (D.out.prt d n hS.out).mono ?_); rintro e w9 ⟨u, g, rfl, hg, hS'⟩; replace hS := hid hS'; clear hS'))
        try simp only [Exit.inBlock, Exit.then]
        refine bodyPost_ret (results_tmp4 rfl _ _ _) rfl ?_
        exact ⟨d, n, u, g, _, rfl, hid (by have := hd.out; have := hg.out; have := hus.out; omega), hS.out.o1, hS.out.bel⟩
  · by_cases n4 : n ≤ 4
    · have en : IntKind.i64.wrap (n + 1) = n + 1 := IntWalk.i64_in _ (by omega)
      have en2 : wrap64 (n + 1) = n + 1 := w64 (by omega) (by omega)
      go_upto_region 5 with (first
        | (go_at_call 130; (with_reducible refine (D.out.next 20 (by omega) hS.out).mono ?_); rintro e w7 ⟨z, rfl, _, hS'⟩; replace hS := hid hS'; clear hS')
        | (go_at_call 130; (with_reducible refine (D.out.next _ (by omega) hS.out).mono ?_); rintro e w5 ⟨r, rfl, hr, hS'⟩; (have hr40 : (r : Int) ≤ 41 := by omega); replace hS := hid hS'; clear hS' hr)
        | (go_at_call 132; (with_reducible refine (D.out.word d r hr40 hS.out).mono ?_); rintro e w6 ⟨uw, rfl, hu, hS'⟩; (have hus := hid (show (wstr uw).size ≤ 50 from by rw [wstr_size]; have := hu.out.1; omega)); generalize wstr uw = us at *; replace hS := hid hS'; clear hS' hu))
      have hadd : us.size + ({ data := #[48, 48, 48, 48] } : ByteArray).size ≤ 9223372036854775807 := by have := hus.out; show us.size + 4 ≤ _; omega
      have hadd2 : us.size + 4 ≤ 9223372036854775807 := by have := hus.out; omega
      by_cases z0 : z = 0
      · subst z0
        go_wp2_with (first
          | (go_at_call 213; (with_reducible refine (D.out.damage us (by have := hus.out; omega) hS.out).mono ?_); rintro e w8 ⟨us2, rfl, hus2, hS'⟩; replace hS := hid hS'; clear hS')
          | (go_at_call 147; (with_reducible refine (D.out.prt d n hS.out).mono ?_); rintro e w9 ⟨u, g, rfl, hg, hS'⟩; replace hS := hid hS'; clear hS'))
        try simp only [Exit.inBlock, Exit.then]
        refine bodyPost_ret (results_tmp4 rfl _ _ _) rfl ?_
        exact ⟨d, n, u, g, _, rfl, hid (by have := hd.out; have := hg.out; have := hus.out; refine ⟨by omega, by omega, by omega, by omega, by omega, ?_⟩; rw [ByteArray.size_append]; show us.size + 4 ≤ 60; omega), hS.out.o1, hS.out.bel⟩
      · have d0 : ((z : Int) == 0) = false := by simp; omega
        by_cases z1 : z = 1
        · subst z1
          go_wp2_with (first
            | (go_at_call 213; (with_reducible refine (D.out.damage us (by have := hus.out; omega) hS.out).mono ?_); rintro e w8 ⟨us2, rfl, hus2, hS'⟩; replace hS := hid hS'; clear hS')
            | (go_at_call 147; (with_reducible refine (D.out.prt d n hS.out).mono ?_); rintro e w9 ⟨u, g, rfl, hg, hS'⟩; replace hS := hid hS'; clear hS'))
          try simp only [Exit.inBlock, Exit.then]
          refine bodyPost_ret (results_tmp4 rfl _ _ _) rfl ?_
          exact ⟨d, n, u, g, _, rfl, hid (by have := hd.out; have := hg.out; have := hus.out; have := hus2.out; omega), hS.out.o1, hS.out.bel⟩
        · have d1 : ((z : Int) == 1) = false := by simp; omega
          go_wp2_with (first
            | (go_at_call 213; (with_reducible refine (D.out.damage us (by have := hus.out; omega) hS.out).mono ?_); rintro e w8 ⟨us2, rfl, hus2, hS'⟩; replace hS := hid hS'; clear hS')
            | (go_at_call 147; (with_reducible refine (D.out.prt d n hS.out).mono ?_); rintro e w9 ⟨u, g, rfl, hg, hS'⟩; replace hS := hid hS'; clear hS'))
          try simp only [Exit.inBlock, Exit.then]
          refine bodyPost_ret (results_tmp4 rfl _ _ _) rfl ?_
          exact ⟨d, n, u, g, _, rfl, hid (by have := hd.out; have := hg.out; have := hus.out; omega), hS.out.o1, hS.out.bel⟩
    · skip
      go_upto_region 5 with (first
        | (go_at_call 130; (with_reducible refine (D.out.next 20 (by omega) hS.out).mono ?_); rintro e w7 ⟨z, rfl, _, hS'⟩; replace hS := hid hS'; clear hS')
        | (go_at_call 130; (with_reducible refine (D.out.next _ (by omega) hS.out).mono ?_); rintro e w5 ⟨r, rfl, hr, hS'⟩; (have hr40 : (r : Int) ≤ 41 := by omega); replace hS := hid hS'; clear hS' hr)
        | (go_at_call 132; (with_reducible refine (D.out.word d r hr40 hS.out).mono ?_); rintro e w6 ⟨uw, rfl, hu, hS'⟩; (have hus := hid (show (wstr uw).size ≤ 50 from by rw [wstr_size]; have := hu.out.1; omega)); generalize wstr uw = us at *; replace hS := hid hS'; clear hS' hu))
      have hadd : us.size + ({ data := #[48, 48, 48, 48] } : ByteArray).size ≤ 9223372036854775807 := by have := hus.out; show us.size + 4 ≤ _; omega
      have hadd2 : us.size + 4 ≤ 9223372036854775807 := by have := hus.out; omega
      by_cases z0 : z = 0
      · subst z0
        go_wp2_with (first
          | (go_at_call 213; (with_reducible refine (D.out.damage us (by have := hus.out; omega) hS.out).mono ?_); rintro e w8 ⟨us2, rfl, hus2, hS'⟩; replace hS := hid hS'; clear hS')
          | (go_at_call 147; (with_reducible refine (D.out.prt d n hS.out).mono ?_); rintro e w9 ⟨u, g, rfl, hg, hS'⟩; replace hS := hid hS'; clear hS'))
        try simp only [Exit.inBlock, Exit.then]
        refine bodyPost_ret (results_tmp4 rfl _ _ _) rfl ?_
        exact ⟨d, n, u, g, _, rfl, hid (by have := hd.out; have := hg.out; have := hus.out; refine ⟨by omega, by omega, by omega, by omega, by omega, ?_⟩; rw [ByteArray.size_append]; show us.size + 4 ≤ 60; omega), hS.out.o1, hS.out.bel⟩
      · have d0 : ((z : Int) == 0) = false := by simp; omega
        by_cases z1 : z = 1
        · subst z1
          go_wp2_with (first
            | (go_at_call 213; (with_reducible refine (D.out.damage us (by have := hus.out; omega) hS.out).mono ?_); rintro e w8 ⟨us2, rfl, hus2, hS'⟩; replace hS := hid hS'; clear hS')
            | (go_at_call 147; (with_reducible refine (D.out.prt d n hS.out).mono ?_); rintro e w9 ⟨u, g, rfl, hg, hS'⟩; replace hS := hid hS'; clear hS'))
          try simp only [Exit.inBlock, Exit.then]
          refine bodyPost_ret (results_tmp4 rfl _ _ _) rfl ?_
          exact ⟨d, n, u, g, _, rfl, hid (by have := hd.out; have := hg.out; have := hus.out; have := hus2.out; omega), hS.out.o1, hS.out.bel⟩
        · have d1 : ((z : Int) == 1) = false := by simp; omega
          go_wp2_with (first
            | (go_at_call 213; (with_reducible refine (D.out.damage us (by have := hus.out; omega) hS.out).mono ?_); rintro e w8 ⟨us2, rfl, hus2, hS'⟩; replace hS := hid hS'; clear hS')
            | (go_at_call 147; (with_reducible refine (D.out.prt d n hS.out).mono ?_); rintro e w9 ⟨u, g, rfl, hg, hS'⟩; replace hS := hid hS'; clear hS'))
          try simp only [Exit.inBlock, Exit.then]
          refine bodyPost_ret (results_tmp4 rfl _ _ _) rfl ?_
          exact ⟨d, n, u, g, _, rfl, hid (by have := hd.out; have := hg.out; have := hus.out; omega), hS.out.o1, hS.out.bel⟩
set_option maxHeartbeats 2000000 in
set_option maxRecDepth 100000 in
theorem drSop_any (w : World) (v : Value) (l : List Nat) (hv : ArgB w v l) (hl : l.length ≤ 4096) :
    Calls Tryz.prog 59 #[v] w fun e w' => ∃ (d n : Int) (u : Value) (g : List Int) (ws : ByteArray), e = .returned (.tuple #[.int .i64 d, .int .i64 n, u, .string ws]) ∧ Hid (-10 ≤ d ∧ d ≤ 10 ∧ -10 ≤ n ∧ n ≤ 10 ∧ g.length ≤ 50 ∧ ws.size ≤ 60) ∧ Own w' w.heap.size 2 u (ints g) ∧ Below w.heap.size w w' := by
  have hdr := hid (drAcp_any w v l hv hl)
  obtain ⟨A, c, rfl, _⟩ := hv
  go_enter Tryz.func59, Tryz.ntmps59
  go_upto_region 2 with (
    (go_at_call 160; (with_reducible refine (hdr.out).mono ?_); rintro e w1 ⟨d, n, u, g, ws, rfl, hd, hO, hb⟩; replace hO := hid hO; replace hb := hid hb))
  by_cases h0 : 0 < ws.size
  · have d0 : decide ((0 : Int) < (ws.size : Int)) = true := decide_eq_true (by omega)
    have s0 : (0 : Int) ≤ 1 := by omega
    have s1 : (1 : Int) ≤ (ws.size : Int) := by omega
    by_cases h1 : (ws.size : Int) = n
    · have d1 : ((ws.size : Int) == n) = true := by simpa using h1
      go_wp2
      try simp only [Exit.inBlock, Exit.then]
      refine bodyPost_ret (results_tmp4 rfl _ _ _) rfl ?_
      exact ⟨d, n, u, g, _, rfl, hid (by have := hd.out; refine ⟨by omega, by omega, by omega, by omega, by omega, ?_⟩; simp only [ByteArray.size_extract]; omega), hO.out, hb.out⟩
    · have d1 : ((ws.size : Int) == n) = false := by simpa using h1
      go_wp2
      try simp only [Exit.inBlock, Exit.then]
      refine bodyPost_ret (results_tmp4 rfl _ _ _) rfl ?_
      exact ⟨d, n, u, g, ws, rfl, hd, hO.out, hb.out⟩
  · have d0 : decide ((0 : Int) < (ws.size : Int)) = false := decide_eq_false (by omega)
    go_wp2
    try simp only [Exit.inBlock, Exit.then]
    refine bodyPost_ret (results_tmp4 rfl _ _ _) rfl ?_
    exact ⟨d, n, u, g, ws, rfl, hd, hO.out, hb.out⟩
set_option maxHeartbeats 2000000 in
set_option maxRecDepth 100000 in
theorem drPof_any (w : World) (v : Value) (l : List Nat) (hv : ArgB w v l) (hl : l.length ≤ 4096) :
    Calls Tryz.prog 44 #[v] w fun e w' => ∃ (m : Mach) (q n : Int), e = .returned (.tuple #[.agg (mcells m), .int .i64 q, .int .i64 n]) ∧ Hid (Low8 m ∧ I64 q ∧ I64 (n - 1)) ∧ Below w.heap.size w w' := by
  have hz := zeroM_run
  have hS := hid ((St.start w).newMB zeroM 27)
  have hfr := hid (fun W L hW => Dg.from (w := w) (W := W) (L := L) hv hl hW)
  have hz2 := hid (fun L W (h : St w.heap.size w L W) => h.newMB zeroM 27)
  replace hv := hid hv
  obtain ⟨A, c, rfl, _⟩ := hv.out
  go_enter Tryz.func44, Tryz.ntmps44
  go_upto_region 3 with (first
    | (go_at_call 104; (with_reducible refine (hfr.out _ _ hS.out).mono ?_); rintro e w1 ⟨S, rfl, D, hS'⟩; replace hS := hid hS'; clear hS')
    | (go_at_call 105; (with_reducible refine (D.out.spoil hS.out).mono ?_); rintro e w2 ⟨M, rfl, hM, hS'⟩; have hle := hid hS'.le; replace hS := hid (hz2.out _ _ hS'); clear hS')
    | ((with_reducible refine gateOp (op := .store 27 (.tmp 6) (.tmp 10)) rfl ?_); refine store_mach rfl _ _ rfl w2.heap.size rfl M rfl 27 _ hS.out.m0 ?_; intro w4 p3 ho hsz hbl; replace hS := hid (hS.out.setM hle.out p3 ho hbl); clear p3 ho hsz hbl))
  generalize w2.heap.size = b6 at *
  replace hS := hid hS.out.drew
  refine wp_region_heldL (L := [(7, (fun w' : World => MB w' 27 b6 M))]) (by kernel_rfl) (HeldL.cons (fun _ => hS.out.m0) HeldL.nil) (fun hHeld => ?_)
  generalize World.drew w4 = wa at *
  refine wpAnyL_takeP (i := 0) 7 [] (v := (.agg (mcells M))) (fun w' : World => MB w' 27 b6 M) rfl (by kernel_rfl) (by kernel_rfl) (by kernel_rfl) (by rfl) (by kernel_rfl) (by simp) (fun _ _ _ h => h) (Or.inl ⟨by rfl, ?_⟩) (by assumption) ?_
  · (intro W hW; exact exec_load _ rfl rfl (load_run hW))
  intro hHeld'
  clear hHeld; have hHeld := hHeld'; clear hHeld'
  try simp only [Act.put, List.getElem_toArray, List.getElem_cons_succ, List.getElem_cons_zero, List.setIfInBounds_toArray, List.set_cons_zero, List.set_cons_succ]
  refine wpAnyL_take0 (i := 1) (v := ?_) rfl (by kernel_rfl) (by kernel_rfl) (by kernel_rfl) (by rfl) (fun _ _ _ h => h) (Or.inl ⟨by rfl, ?_⟩) (by assumption) ?_
  rotate_left
  · (intro W _; go_simp; (with_reducible rfl))
  intro hHeld'
  clear hHeld; have hHeld := hHeld'; clear hHeld'
  try simp only [Act.put, List.getElem_toArray, List.getElem_cons_succ, List.getElem_cons_zero, List.setIfInBounds_toArray, List.set_cons_zero, List.set_cons_succ]
  refine wpAnyL_takeP (i := 2) 7 [5, 3] (v := (.agg (mcells M))) (fun w' : World => MB w' 27 b6 M) rfl (by kernel_rfl) (by kernel_rfl) (by kernel_rfl) (by rfl) (by kernel_rfl) (by simp) (fun _ _ _ h => h) (Or.inl ⟨by rfl, ?_⟩) (by assumption) ?_
  · (intro W hW; exact exec_load _ rfl rfl (load_run hW))
  intro hHeld'
  clear hHeld; have hHeld := hHeld'; clear hHeld'
  try simp only [Act.put, List.getElem_toArray, List.getElem_cons_succ, List.getElem_cons_zero, List.setIfInBounds_toArray, List.set_cons_zero, List.set_cons_succ]
  refine wpAnyL_take0 (i := 4) (v := ?_) rfl (by kernel_rfl) (by kernel_rfl) (by kernel_rfl) (by rfl) (fun _ _ _ h => h) (Or.inl ⟨by rfl, ?_⟩) (by assumption) ?_
  rotate_left
  · (intro W _; go_simp; (with_reducible rfl))
  intro hHeld'
  clear hHeld; have hHeld := hHeld'; clear hHeld'
  try simp only [Act.put, List.getElem_toArray, List.getElem_cons_succ, List.getElem_cons_zero, List.setIfInBounds_toArray, List.set_cons_zero, List.set_cons_succ]
  refine wpAnyL_ready (rs := [3]) (by kernel_rfl) (by simp) ?_
  refine AllReadyL.cons rfl (fun K hK => ?_) AllReadyL.nil
  go_simp
  replace hS := hid hS.out.f1
  (with_reducible refine (D.out.state M hS.out).mono ?_)
  rintro e w5 ⟨k, rfl, hk, hS'⟩
  replace hS := hid hS'
  clear hS'
  go_simp
  refine hK.out _ _ (HeldL.cons (fun _ => hS.out.m1) HeldL.nil) (fun hHeld' => ?_)
  clear hK K hHeld; have hHeld := hHeld'; clear hHeld'
  try simp only [Act.put, List.getElem_toArray, List.getElem_cons_succ, List.getElem_cons_zero, List.setIfInBounds_toArray, List.set_cons_zero, List.set_cons_succ]
  refine wpAnyL_ready (rs := [5]) (by kernel_rfl) (by simp) ?_
  refine AllReadyL.cons rfl (fun K hK => ?_) AllReadyL.nil
  go_simp
  (with_reducible refine (D.out.near 3 (by omega) (by omega) hS.out).mono ?_)
  rintro e w6 ⟨x, rfl, hx, hS'⟩
  replace hS := hid hS'
  clear hS'
  have ex : IntKind.i64.wrap (1 + x) = 1 + x := by have := hx.out; unfold I64 at this; exact IntWalk.i64_in _ (by omega)
  go_simp
  refine hK.out _ _ (HeldL.cons (fun _ => hS.out.m1) HeldL.nil) (fun hHeld' => ?_)
  clear hK K hHeld; have hHeld := hHeld'; clear hHeld'
  try simp only [Act.put, List.getElem_toArray, List.getElem_cons_succ, List.getElem_cons_zero, List.setIfInBounds_toArray, List.set_cons_zero, List.set_cons_succ]
  refine wpAnyL_take0 (i := 6) (v := ?_) rfl (by kernel_rfl) (by kernel_rfl) (by kernel_rfl) (by rfl) (fun _ _ _ h => h) (Or.inl ⟨by rfl, ?_⟩) (by assumption) ?_
  rotate_left
  · (intro W _; go_simp; (with_reducible rfl))
  intro hHeld'
  clear hHeld; have hHeld := hHeld'; clear hHeld'
  try simp only [Act.put, List.getElem_toArray, List.getElem_cons_succ, List.getElem_cons_zero, List.setIfInBounds_toArray, List.set_cons_zero, List.set_cons_succ]
  refine wpAnyL_ready (rs := [7]) (by kernel_rfl) (by simp) ?_
  refine AllReadyL.cons rfl (fun K hK => ?_) AllReadyL.nil
  refine step_store_mach rfl _ _ rfl _ rfl M rfl _ _ hS.out.m2 ?_
  intro W9 p2 ho hbl
  replace hS := hid (hS.out.f2.setM (Nat.le_refl _) p2 ho hbl)
  clear p2 ho hbl
  refine hK.out _ _ (HeldL.cons (fun h => absurd h (by decide +kernel)) HeldL.nil) (fun hHeld' => ?_)
  clear hK K hHeld; have hHeld := hHeld'; clear hHeld'
  try simp only [Act.put, List.getElem_toArray, List.getElem_cons_succ, List.getElem_cons_zero, List.setIfInBounds_toArray, List.set_cons_zero, List.set_cons_succ]
  refine wpAnyL_take0 (i := 8) (v := ?_) rfl (by kernel_rfl) (by kernel_rfl) (by kernel_rfl) (by rfl) (fun _ _ _ h => h) (Or.inl ⟨by rfl, ?_⟩) (by assumption) ?_
  rotate_left
  · (intro W _; go_simp; (with_reducible rfl))
  intro hHeld'
  clear hHeld; have hHeld := hHeld'; clear hHeld'
  try simp only [Act.put, List.getElem_toArray, List.getElem_cons_succ, List.getElem_cons_zero, List.setIfInBounds_toArray, List.set_cons_zero, List.set_cons_succ]
  refine wpAnyL_take0 (i := 9) (v := ?_) rfl (by kernel_rfl) (by kernel_rfl) (by kernel_rfl) (by rfl) (fun _ _ _ h => h) (Or.inl ⟨by rfl, ?_⟩) (by assumption) ?_
  rotate_left
  · (intro W _; go_simp; (with_reducible rfl))
  intro hHeld'
  clear hHeld; have hHeld := hHeld'; clear hHeld'
  try simp only [Act.put, List.getElem_toArray, List.getElem_cons_succ, List.getElem_cons_zero, List.setIfInBounds_toArray, List.set_cons_zero, List.set_cons_succ]
  refine wpAnyL_done (by kernel_rfl) ?_ _
  go_wp2
  exact ret_mvv rfl rfl rfl rfl hS.out.m0 rfl ⟨M, k, 1 + x, rfl, hid ⟨hM.out, hk.out, by rw [show 1 + x - 1 = x by omega]; exact hx.out⟩, hS.out.bel⟩
def bts (l : List Nat) : List Value := l.map fun x => .int .u8 (x : Nat)
section
variable {ops : Array Oper} {rest : List Oper} {o : Oper} {act : Act} {W w0 : World} {Q : Exit → Act → World → Prop} {L : List Asn} {base : Nat}
/-- A code appended to a slice of one's own. -/
theorem St.appB (hgd : o.guard = none) (s x : Operand) (ho : o.op = .call { callee := .builtin .append, args := #[s, x], argTypes := #[22, 22] })
    (v : Value) (cs : List Value) (hs : act.eval s = v) (hS : St base w0 (Asn.own base 5 v cs :: L) W) (va : Value) (l : List Nat) (hx : act.eval x = va) (hv : ArgB W va l) (hl : l.length ≤ 100000) (hlen : cs.length ≤ 1000)
    (h : ∀ v' w', St base w0 (Asn.own base 5 v' (cs ++ bts l) :: L) w' → wpList Tryz.prog ops Q rest (act.put o.dst v') w') : wpList Tryz.prog ops Q (o :: rest) act W := by
  obtain ⟨i, hi, hz0, hz1, hz2⟩ := info_parts info_u8
  have hO : Own W base 5 v cs := hS.star.1
  obtain ⟨A, c, rfl, ⟨rfl, rfl⟩ | ⟨a, rfl, hc⟩⟩ := hv
  · have hr : (Builtin.append_ #[22, 22] o.type #[v, .slice none 0 c]).run Tryz.prog W = .ok v W := by
      have hO' : W.ownsRow base 5 1 v cs.length cs := hO
      rcases hO'.2 with ⟨rfl, e0⟩ | ⟨g, cap, cur, rfl, _, _, hnc, _⟩
      · simp [Builtin.append_, run_underlying Tryz.underlying22, sizeOf, typeInfo, hi, Builtin.lenOf, Builtin.firstCells]
      · simp [Builtin.append_, run_underlying Tryz.underlying22, sizeOf, typeInfo, hi, Builtin.lenOf, Builtin.firstCells, hnc, storeCells]
    refine wpList_plain hgd fun K hK => ?_
    unfold Oper.wp execOp
    simp only [ho, resolve, invoke, builtin, Sem.run_bind, Sem.run_pure, Result.andThen_ok, List.map_toArray, List.map_cons, List.map_nil, hs, hx, hr, List.length_nil]
    exact hK _ _ (h v W (by rw [show bts [] = [] from rfl, List.append_nil]; exact hS))
  · obtain ⟨v', w', hr, h3, h4, _, h5⟩ := run_append_own_at (P := Tryz.prog) W base 22 o.type 5 i (.int .u8 0) 1 1 Tryz.underlying22 hi hz0 hz1 hz2 rfl (by omega) v cs.length cs hO a l.length c (bts l) (by simp [bts]) (fun j u hu => by
      have hj : l[j]? = some (l.getD j 0) ∧ u = .int .u8 (l.getD j 0 : Nat) := by
        rw [bts, List.getElem?_map] at hu
        obtain ⟨y, hy1, hy2⟩ := Option.map_eq_some_iff.1 hu
        rw [List.getD_eq_getElem?_getD, hy1]
        exact ⟨rfl, hy2.symm⟩
      rw [hj.2]
      exact (hc j _ hj.1).2.1) (fun u hu => by
      obtain ⟨y, _, rfl⟩ := List.mem_map.1 hu; rfl) (by simp only [maxLen]; omega) (by omega) hS.le
    have hold : ∀ k, k < W.heap.size → v.ownBlock ≠ some k → w'.heap[k]? = W.heap[k]? := fun k hk hne => h4.block k hk (fun e => hne e.symm)
    have hb : Below base W w' := ⟨h4.os, h4.tape, h4.output, h4.size, fun k hk => hold k (Nat.lt_of_lt_of_le hk hS.le) (fun e => by have := (hO.lt k e).1; omega)⟩
    have hO3 : Own w' base 5 v' (cs ++ bts l) := by
      unfold Own
      rw [List.length_append, show (bts l).length = l.length by simp [bts]]; exact h3
    refine wpList_plain hgd fun K hK => ?_
    unfold Oper.wp execOp
    simp only [ho, resolve, invoke, builtin, Sem.run_bind, Sem.run_pure, Result.andThen_ok, List.map_toArray, List.map_cons, List.map_nil, hs, hx, hr]
    exact hK _ _ (h v' w' (hS.appdV hO3 hb hold h5))
end
theorem Own.argB {W : World} {b : Nat} {v : Value} {l : List Nat} (h : Own W b 5 v (bts l)) (hl : ∀ x ∈ l, x < 256) : ArgB W v l := by
  obtain ⟨A, c, rfl, _, hA⟩ := h.form
  have hlen : (bts l).length = l.length := by simp [bts]
  rw [hlen]
  refine ⟨A, c, rfl, ?_⟩
  rcases hA with ⟨rfl, h1, _⟩ | ⟨g, rfl, _, hlt, hc⟩
  · exact .inl ⟨rfl, List.eq_nil_of_length_eq_zero (by rw [← hlen, h1]; rfl)⟩
  · refine .inr ⟨_, rfl, fun i x hx => ⟨hl x (List.mem_of_getElem? hx), ?_, ?_⟩⟩
    · have := hc i (.int .u8 (x : Nat)) (by rw [bts, List.getElem?_map, hx]; rfl)
      rw [Addr.add_mid, Nat.zero_add]; exact this
    · rw [Addr.add_mid]; exact hlt
set_option maxHeartbeats 4000000 in
set_option maxRecDepth 100000 in
theorem drOne_any (w : World) (v : Value) (l : List Nat) (hv : ArgB w v l) (hl : l.length ≤ 4096) :
    Calls Tryz.prog 56 #[v] w fun e w' => ∃ (d n : Int) (u : Value) (g : List Int), e = .returned (.tuple #[.int .i64 d, .int .i64 n, u]) ∧ Hid (-10 ≤ d ∧ d ≤ 10 ∧ -10 ≤ n ∧ n ≤ 10 ∧ g.length ≤ 50) ∧ Own w' w.heap.size 2 u (ints g) ∧ Below w.heap.size w w' := by
  have hdr := hid (fun W (hW : Below w.heap.size w W) => drIsp_any W v l (hv.below hW) hl)
  have hS0 := hid ((St.start w).newOwn [.int .u8 5] 5 (by simp))
  have hvb := hid (hv.below hS0.out.bel)
  have hl2 : (5 :: l).length ≤ 5000 := by simp; omega
  have hby : ∀ x ∈ 5 :: l, x < 256 := fun x hx => by
    rcases List.mem_cons.1 hx with rfl | hx
    · decide
    · obtain ⟨A, c, _, ⟨_, h⟩ | ⟨a, _, h⟩⟩ := hv
      · rw [h] at hx; cases hx
      · obtain ⟨i, hi⟩ := List.getElem?_of_mem hx
        exact (h i x hi).1
  have hfr := hid (fun w1 v1 (h : Own w1 w.heap.size 5 v1 ([.int .u8 5] ++ bts l)) => (Dg.from5 (w := w1) (W := w1) (L := []) (Own.argB (l := 5 :: l) h hby) hl2 (St.start w1)))
  have h23 := hid (fun (r : Int) (h : r ∈ [2, (3 : Int)]) => (show ∃ d : Nat, r = d ∧ (d = 2 ∨ d = 3) from by
    simp only [List.mem_cons, List.not_mem_nil, or_false] at h
    rcases h with rfl | rfl
    · exact ⟨2, rfl, .inl rfl⟩
    · exact ⟨3, rfl, .inr rfl⟩))
  clear hl2 hby
  replace hv := hid hv
  obtain ⟨A, c, rfl, _⟩ := hv.out
  go_enter Tryz.func56, Tryz.ntmps56
  go_upto_region 2 with (first
    | ((with_reducible refine gate (N := 15) rfl ?_); refine St.appB rfl _ _ rfl _ _ rfl hS0.out _ l rfl hvb.out (by omega) (by simp) ?_; intro v1 w1 hS'; replace hS0 := hid hS'; clear hS')
    | (go_at_call 104; (with_reducible refine (hfr.out _ _ hS0.out.o0).mono ?_); rintro e w2 ⟨S, rfl, D, hS'⟩; have hS := hid hS'; clear hS'))
  have hB1 := hid hS0.out.bel
  clear hS0 hvb hfr
  go_upto_if 19 with (
    (go_at_call 130; (with_reducible refine (D.out.next 2 (by omega) hS.out).mono ?_); rintro e w3 ⟨z, rfl, _, hS'⟩; replace hS := hid hS'; clear hS'))
  by_cases z0 : z = 0
  · subst z0
    go_upto_region 5 with (first
      | (go_at_call 158; (have hS2 := hS.out.list [.int .i64 2, .int .i64 3] (by simp)); (with_reducible refine (D.out.pick [2, 3] (by simp) (by simp) hS2).mono ?_); rintro e w4 ⟨r, rfl, hr, hS'⟩; (obtain ⟨d, rfl, hd⟩ := h23.out r hr); replace hS := hid hS'; clear hS' hS2 hr)
      | (go_at_call 130; (with_reducible refine (D.out.next 3 (by omega) hS.out).mono ?_); rintro e w5 ⟨y, rfl, hy, hS'⟩; (have e3 : IntKind.i64.wrap (1 + (y : Int)) = ((y + 1 : Nat) : Int) := by rw [show 1 + (y : Int) = ((y + 1 : Nat) : Int) by omega]; exact IntWalk.i64_in _ (by omega)); replace hS := hid hS'; clear hS'))
    have hy3 : y ≤ 2 := by omega
    have hst := hid (fun W => (by have h := l03Start_any d (y + 1) hd (by omega) W; exact h : Calls Tryz.prog 153 #[.int .i64 d, .int .i64 ((y : Int) + 1)] W fun e w' => e = .returned (.int .i64 (start d (y + 1) : Nat)) ∧ W = w'))
    have hsk := hid (fun k (hk : k ≤ 5) W => l03Start_any d k hd hk W)
    have hct := hid (fun W => l03Count_any d hd W)
    have hN40 := (start_le hd (show y + 1 ≤ 4 by omega)).1
    have hmono := hid (fun k (h1 : 1 ≤ k) (h2 : k ≤ y + 1) => (show 1 ≤ start d k ∧ start d k ≤ start d (y + 1) from by
      obtain ⟨j, hj⟩ : ∃ j, y + 1 = k + j := ⟨y + 1 - k, by omega⟩
      obtain ⟨i, hi⟩ : ∃ i, k = 1 + i := ⟨k - 1, by omega⟩
      have e1 := start_mono d k j
      have e2 := start_mono d 1 i
      have e3 : start d 1 = 1 := rfl
      rw [← hj] at e1
      rw [← hi] at e2
      exact ⟨by omega, e1⟩))
    have hN1 := (hmono.out (y + 1) (by omega) (Nat.le_refl _)).1
    have hC : 0 < cnt d := by rcases hd with rfl | rfl <;> decide
    generalize start d (y + 1) = N at *
    generalize cnt d = C at *
    have hmk := fun W : World => run_make_row' (P := Tryz.prog) 32 2 (.int .i64 0) 8 Tryz.underlying32 info_i64 rfl .i64 .i64 N (by omega) (by omega) W
    have hmc := hid (toList_madeCells_one (.int .i64 0) N)
    generalize madeCells #[.int .i64 0] N = mc at *
    have hmcs := hid (show mc.size = N by rw [← Array.length_toList, hmc.out, List.length_replicate])
    have hrp := hid (show List.replicate N (Value.int .i64 0) = ints (List.replicate N 0) from by simp [ints])
    go_upto_region 6 with (
      (go_at_call 153; (with_reducible refine (hst.out _).mono ?_); rintro e w' ⟨rfl, rfl⟩))
    replace hS := hid (hS.out.newArr mc N hmcs.out 2 (by omega)).f1
    rw [hmc.out, hrp.out] at hS
    generalize w5.alloc (.cells mc 2) = w6 at *
    generalize w5.heap.size = gb at *
    go_wp2
    go_loopw [9] (fun i wr => ∃ (k : Nat) (g : List Int), 1 ≤ k ∧ k ≤ y + 2 ∧ i = .int .i64 k ∧ g.length = N ∧ St w1.heap.size w1 [Asn.src S v1 (5 :: l).length, Asn.own w1.heap.size 2 (.slice (some ⟨gb, 0, none⟩) N N) (ints g)] wr) (fun i _ => y + 2 - (intOf i).toNat)
    case atStart => exact ⟨1, List.replicate N 0, Nat.le_refl _, by omega, rfl, List.length_replicate, hS.out⟩
    case round =>
      obtain ⟨k, g, hk1, hk2, rfl, hgl, rS⟩ := hrel
      clear hS
      replace rS := hid rS
      by_cases hlt : k ≤ y + 1
      · have dk : decide ((k : Int) ≤ (y : Int) + 1) = true := decide_eq_true (by omega)
        have hsk2 := hid (hsk.out k (by omega))
        obtain ⟨m1, m2⟩ := hmono.out k hk1 hlt
        generalize start d k = sk at *
        have esk : IntKind.i64.wrap ((sk : Int) - 1) = ((sk - 1 : Nat) : Int) := by rw [show (sk : Int) - 1 = ((sk - 1 : Nat) : Int) by omega]; exact IntWalk.i64_in _ (by omega)
        have i0 : (0 : Int) ≤ ((sk - 1 : Nat) : Int) := Int.natCast_nonneg _
        have i1 : ((sk - 1 : Nat) : Int) < (N : Int) := by omega
        have i2 : sk - 1 < N := by omega
        have dz : ¬ (C : Int) = 0 := by omega
        have dz3 : ¬ C = 0 := by omega
        generalize sk - 1 = ix at *
        have hil : (ints g).length = N := by rw [ints_length, hgl]
        obtain ⟨c0, hc0⟩ : ∃ c0, (ints g)[ix]? = some c0 := ⟨_, List.getElem?_eq_getElem (by omega)⟩
        go_wp2_with (first
          | (go_at_call 153; (with_reducible refine (hsk2.out _).mono ?_); rintro e w' ⟨rfl, rfl⟩)
          | (go_at_call 159; (with_reducible refine (hct.out _).mono ?_); rintro e w' ⟨rfl, rfl⟩)
          | (go_at_call 158; (have hS2 := rS.out.list [.int .i64 1, .int .i64 3, .int .i64 4] (by simp)); (with_reducible refine (D.out.pick [1, 3, 4] (by simp) (by simp) hS2).mono ?_); rintro e w8 ⟨r, rfl, hr, hS'⟩; (have co := Own.cellAt hS'.o1 ix c0 hc0); (have fo := Own.frozenAt hS'.o1 hil ix); replace rS := hid (hS'.f1.setOwn hil ix (.int .i64 (Int.tmod r (C : Int))) i2).f1; clear hS' hS2 hr))
        go_roundw
        case rel => exact ⟨k + 1, g.set ix (Int.tmod r (C : Int)), by omega, by omega, by go_num, by rw [List.length_set]; exact hgl, by rw [show ints (g.set ix (Int.tmod r (C : Int))) = (ints g).set ix (.int .i64 (Int.tmod r (C : Int))) from by simp [ints, List.map_set]]; exact rS.out⟩
        case measure => simp [intOf]; omega
      · have dk : decide ((k : Int) ≤ (y : Int) + 1) = false := decide_eq_false (by omega)
        go_wp2
        go_ret3
        exact ⟨(d : Int), (y : Int) + 1, _, g, rfl, hid (by omega), rS.out.o1.mono hB1.out.size, hB1.out.trans (rS.out.bel.mono hB1.out.size)⟩
  · have d0 : ((z : Int) == 0) = false := by simp; omega
    have hB2 := hid (hB1.out.trans (hS.out.bel.mono hB1.out.size))
    go_wp2_with (
      (go_at_call 151; (with_reducible refine (hdr.out _ hB2.out).mono ?_); rintro e w4 ⟨d, n, u, g, rfl, hd, hO, hb⟩; replace hO := hid hO; replace hb := hid hb))
    go_ret3
    exact ⟨d, n, u, g, rfl, hd, hO.out.mono hB2.out.size, hB2.out.trans (hb.out.mono hB2.out.size)⟩
end Go.Proofs.YthmcdfjijkecfaaGreat
