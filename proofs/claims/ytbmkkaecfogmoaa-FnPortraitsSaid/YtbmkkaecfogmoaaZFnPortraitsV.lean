/- What the proof of FnPortraits leans on, part 22 of 26. -/
import Derived.Test.YtbmkkaecfogmoaaZFnPortraitsU
import Derived.Shelf.SortM.Plain
import Derived.Shelf.SortM.SortNone
import Derived.Sort.OwnSortedInts
/- slices.Sort over []int64. -/
namespace Go.Proofs.Ytbmkkaecfogmoaa
open Go.RowKit
set_option linter.unusedVariables false
set_option linter.unusedSimpArgs false

def srt (l : List Int) : List Int := l.mergeSort fun x y => decide (x ≤ y)
theorem srt_perm (l : List Int) : (srt l).Perm l := List.mergeSort_perm _ _
theorem srt_length (l : List Int) : (srt l).length = l.length := (srt_perm l).length_eq
theorem srt_sorted (l : List Int) : (srt l).Pairwise (· ≤ ·) := by
  have h := List.pairwise_mergeSort (le := fun x y : Int => decide (x ≤ y)) (fun a b c h1 h2 => by simp at *; omega) (fun a b => by simp; omega) l
  exact h.imp fun h => by simpa using h
theorem srt_eq {l l' : List Int} (hp : l'.Perm l) (hs : l'.Pairwise (· ≤ ·)) : l' = srt l :=
  List.Perm.eq_of_pairwise (le := (· ≤ ·)) (fun a b _ _ h1 h2 => Int.le_antisymm h1 h2) hs (srt_sorted l) (hp.trans (srt_perm l).symm)
/-- Where a number goes in. -/
def insA (x : Int) : List Int → Nat
  | [] => 0
  | y :: l => if y ≤ x then insA x l + 1 else 0
theorem insA_le (x : Int) : ∀ l, insA x l ≤ l.length
  | [] => Nat.le_refl _
  | y :: l => by
    have := insA_le x l
    unfold insA; split <;> simp <;> omega
theorem insA_lt {x : Int} : ∀ {l : List Int} {j : Nat}, j < insA x l → ∃ y, l[j]? = some y ∧ y ≤ x
  | [], j, h => absurd h (Nat.not_lt_zero _)
  | y :: l, j, h => by
    unfold insA at h
    split at h
    · rename_i hy
      cases j with
      | zero => exact ⟨y, rfl, hy⟩
      | succ j => exact insA_lt (l := l) (j := j) (by omega)
    · exact absurd h (Nat.not_lt_zero _)
theorem insA_at {x : Int} : ∀ {l : List Int}, insA x l < l.length → ∃ y, l[insA x l]? = some y ∧ ¬ y ≤ x
  | [], h => absurd h (Nat.not_lt_zero _)
  | y :: l, h => by
    by_cases hy : y ≤ x
    · have e : insA x (y :: l) = insA x l + 1 := by rw [insA, if_pos hy]
      rw [e] at h ⊢
      exact insA_at (l := l) (by simpa using h)
    · have e : insA x (y :: l) = 0 := by rw [insA, if_neg hy]
      rw [e]
      exact ⟨y, rfl, hy⟩
def insX (x : Int) (l : List Int) : List Int := l.take (insA x l) ++ x :: l.drop (insA x l)
theorem insX_perm (x : Int) (l : List Int) : (insX x l).Perm (x :: l) := by
  have h : (l.take (insA x l) ++ x :: l.drop (insA x l)).Perm (x :: (l.take (insA x l) ++ l.drop (insA x l))) := List.perm_middle
  rw [List.take_append_drop] at h
  exact h
theorem insX_sorted {x : Int} {l : List Int} (h : l.Pairwise (· ≤ ·)) : (insX x l).Pairwise (· ≤ ·) := by
  have hl := h
  rw [← List.take_append_drop (insA x l) l, List.pairwise_append] at hl
  obtain ⟨h1, h2, h3⟩ := hl
  have ht : ∀ y ∈ l.take (insA x l), y ≤ x := fun y hy => by
    obtain ⟨j, hj, rfl⟩ := List.getElem_of_mem hy
    have hj' : j < insA x l := by rw [List.length_take] at hj; omega
    obtain ⟨z, hz, hzx⟩ := insA_lt hj'
    rw [List.getElem_take]
    have := List.getElem?_eq_some_iff.1 hz
    obtain ⟨_, e⟩ := this
    rw [e]; exact hzx
  have hd : ∀ y ∈ l.drop (insA x l), x ≤ y := fun y hy => by
    by_cases hlt : insA x l < l.length
    · obtain ⟨z, hz, hzx⟩ := insA_at hlt
      have e : l.drop (insA x l) = z :: l.drop (insA x l + 1) := by
        obtain ⟨_, e⟩ := List.getElem?_eq_some_iff.1 hz
        rw [← e]; exact List.drop_eq_getElem_cons hlt
      rw [e] at hy h2
      rcases List.mem_cons.1 hy with rfl | hy
      · omega
      · have := (List.pairwise_cons.1 h2).1 y hy; omega
    · rw [List.drop_eq_nil_of_le (by omega)] at hy; cases hy
  unfold insX
  rw [List.pairwise_append]
  refine ⟨h1, List.pairwise_cons.2 ⟨hd, h2⟩, fun a ha b hb => ?_⟩
  rcases List.mem_cons.1 hb with rfl | hb
  · exact ht a ha
  · exact h3 a ha b hb
theorem insX_length (x : Int) (l : List Int) : (insX x l).length = l.length + 1 := by rw [(insX_perm x l).length_eq]; rfl
/-- The first k numbers of a list, put in one after the other. -/
def insL (l : List Int) : Nat → List Int
  | 0 => []
  | k + 1 => match l[k]? with
    | some x => insX x (insL l k)
    | none => insL l k
theorem insL_step {l : List Int} {k : Nat} {x : Int} (h : l[k]? = some x) : insL l (k + 1) = insX x (insL l k) := by rw [insL, h]
theorem insL_ok (l : List Int) : ∀ k, k ≤ l.length → (insL l k).Perm (l.take k) ∧ (insL l k).Pairwise (· ≤ ·)
  | 0, _ => ⟨by simp [insL], List.Pairwise.nil⟩
  | k + 1, hk => by
    obtain ⟨h1, h2⟩ := insL_ok l k (by omega)
    have hx : l[k]? = some l[k] := List.getElem?_eq_getElem (by omega)
    rw [insL_step hx]
    refine ⟨(insX_perm _ _).trans ?_, insX_sorted h2⟩
    rw [List.take_add_one, hx]
    exact ((h1.cons _).trans (List.perm_append_singleton _ _).symm)
theorem insL_len (l : List Int) (k : Nat) (hk : k ≤ l.length) : (insL l k).length = k := by rw [(insL_ok l k hk).1.length_eq, List.length_take]; omega
theorem insL_srt (l : List Int) : insL l l.length = srt l := by
  obtain ⟨h1, h2⟩ := insL_ok l l.length (Nat.le_refl _)
  rw [List.take_length] at h1
  exact srt_eq h1 h2
end Go.Proofs.Ytbmkkaecfogmoaa

/- Cycles and orders of permutations: the program. -/
namespace Go.Proofs.Ytbmkkaecfogmoaa
open Go.RowKit
set_option linter.unusedVariables false
set_option linter.unusedSimpArgs false
-- @LONG

/-- The cycles' lengths, ascending. -/
def cysI (p : List Nat) : List Int := srt ((cyc p).map Int.ofNat)
theorem cysI_nat (p : List Nat) : ∃ q : List Nat, cysI p = q.map Int.ofNat ∧ q.Perm (cyc p) := by
  have hp : (cysI p).Perm ((cyc p).map Int.ofNat) := List.mergeSort_perm _ _
  refine ⟨(cysI p).map Int.toNat, ?_, ?_⟩
  · rw [List.map_map]
    have : ∀ x ∈ cysI p, (Int.ofNat ∘ Int.toNat) x = x := fun x hx => by
      obtain ⟨c, _, rfl⟩ := List.mem_map.1 (hp.mem_iff.1 hx)
      rfl
    rw [List.map_congr_left this, List.map_id']
  · have h := hp.map Int.toNat
    rw [List.map_map] at h
    have e : (Int.toNat ∘ Int.ofNat) = (id : Nat → Nat) := funext fun x => rfl
    rw [e, List.map_id] at h
    exact h
theorem ordL_take {q : List Nat} {k c : Nat} (h : q[k]? = some c) : ordL (q.take (k + 1)) = Nat.lcm (ordL (q.take k)) c := by
  unfold ordL
  rw [List.take_add_one, h]
  simp
end Go.Proofs.Ytbmkkaecfogmoaa

/- OrderOfPortrait: what the program answers. -/
namespace Go.Proofs.Ytbmkkaecfogmoaa
open Go.RowKit
set_option linter.unusedVariables false
set_option linter.unusedSimpArgs false
-- @LONG

/-- The permutation of a level that a portrait makes. -/
def prtP (d : Nat) (g : List Int) (n : Nat) : List Nat := pmF d (actP d g) n
theorem prt_K {d n : Nat} {g : List Int} (hd : d = 2 ∨ d = 3) (hn : n ≤ 4) (hg : IsP d n g) : 0 < bk d ^ n ∧ bk d ^ n < 1000000000 ∧ ∀ c ∈ cyc (prtP d g n), c ∣ bk d ^ n := by
  refine ⟨?_, ?_, fun c hc => cyc_dvd (pmF_pm (by omega) (aut_act hd hg)) (fun x hx => pmF_back hd (aut_act hd hg) (by rw [pmF_length] at hx; exact hx)) hc⟩
  · have : n = 0 ∨ n = 1 ∨ n = 2 ∨ n = 3 ∨ n = 4 := by omega
    rcases hd with rfl | rfl <;> rcases this with rfl | rfl | rfl | rfl | rfl <;> decide
  · have : n = 0 ∨ n = 1 ∨ n = 2 ∨ n = 3 ∨ n = 4 := by omega
    rcases hd with rfl | rfl <;> rcases this with rfl | rfl | rfl | rfl | rfl <;> decide
open Classical in
/-- What OrderOfPortrait answers. -/
noncomputable def oopAns (d n : Int) (g : List Int) : Int × Int := if pcode d n [g] = 0 then (((ordL (cyc (prtP d.toNat g n.toNat)) : Nat) : Int), 0) else (0, pcode d n [g])
set_option maxHeartbeats 1000000 in
theorem ofp1_any (base : Nat) (w0 w : World) (b2 b1 : Nat) (d n : Nat) (hd : d = 2 ∨ d = 3) (hn : n ≤ 4) (v : Value) (g : List Int) (hg : IsP d n g)
    (hS : St base w0 [Asn.blk b2 #[v] 29, Asn.blk b1 #[.int .i64 d] 2, Asn.own 0 2 v (ints g)] w)
    (u : List Nat) (hl : u.length = n) (hu : ∀ x ∈ u, x < d) :
    Calls Try.prog 219 #[.string (wstr u), .pointer (some ⟨b1, 0, none⟩), .pointer (some ⟨b2, 0, none⟩)] w fun e w' => e = .returned (.string (wstr (actP d g u))) ∧ Below w.heap.size w w' := by
  have hil := ints_length g
  have hac := hid (act_any w d n hd hn 0 v g hS.o2 hg u hu (by omega))
  obtain ⟨A, c, rfl, _, _⟩ := hS.o2.form
  rw [hil] at hS hac
  have c1 := blkc hS.k1
  have c2 := blkc hS.k0
  clear hu hl
  generalize wstr u = su at *
  generalize wstr (actP d g u) = R at *
  replace hS := hid hS; replace hg := hid hg
  go_enter Try.func219, Try.ntmps219
  go_wp2_with (first
    | (go_at_call 117; (with_reducible refine (hac.out).mono ?_); rintro e w1 ⟨rfl, hb⟩; have hB := hid hb; clear hb))
  go_ret
  exact ⟨rfl, hB.out⟩
set_option maxHeartbeats 2000000 in
set_option maxRecDepth 100000 in
theorem permutation_ofp (b2 b1 : Nat) (d n : Nat) (hd : 0 < d) (h3 : d ≤ 3) (hn : n ≤ 40) (hb : pw d n ≤ 100000) (w : World) (F : List Nat → List Nat)
    (hF : ∀ u, u.length = n → (∀ x ∈ u, x < d) → (F u).length = n ∧ ∀ x ∈ F u, x < d)
    (hf : ∀ W, Below w.heap.size w W → ∀ u, u.length = n → (∀ x ∈ u, x < d) → Calls Try.prog 219 #[.string (wstr u), .pointer (some ⟨b1, 0, none⟩), .pointer (some ⟨b2, 0, none⟩)] W fun e W' => e = .returned (.string (wstr (F u))) ∧ Below W.heap.size W W') :
    Calls Try.prog 115 #[.int .i64 d, .int .i64 n, .func (.func 219) #[] #[.pointer (some ⟨b1, 0, none⟩), .pointer (some ⟨b2, 0, none⟩)]] w fun e w' => ∃ v, e = .returned v ∧ Own w' w.heap.size 2 v (rng (fun k => num d (F (wrd d n k))) (pw d n)) ∧ Below w.heap.size w w' := by
  have hl := hid (level_any d n hd h3 hn hb w)
  have hpos := pw_pos d hd n
  have hwl := hid (fun k => wrd_length d n k)
  have hwm := hid (fun k => wrd_lt d hd n k)
  have hFo := hid (fun k => hF (wrd d n k) (wrd_length d n k) (wrd_lt d hd n k))
  have hnum := hid (fun k W => numberOf_any d hd h3 (F (wrd d n k)) (hFo.out k).2 (by rw [(hFo.out k).1]; omega) (by rw [(hFo.out k).1]; omega) W)
  replace hf := hid hf
  clear hF
  generalize hM : pw d n = M at *
  go_enter Try.func115, Try.ntmps115
  go_wp2_with (first
    | (go_at_call 213; (with_reducible refine (hl.out).mono ?_); rintro e w1 ⟨v, rfl, hO, hB⟩; obtain ⟨g, cap, rfl, hg1, hg2⟩ := hO.blk (fun e => by have := lvl_length d n M; rw [e] at this; simp at this; omega); have hll := lvl_length d n M; rw [hll] at hO; rw [hll]; clear hll; replace hO := hid hO; replace hB := hid hB; clear hl))
  go_loopw [7, 14] (fun v i wr => ∃ k : Nat, k ≤ M ∧ i = .int .i64 k ∧ Own wr w1.heap.size 2 v (rng (fun k => num d (F (wrd d n k))) k) ∧ Below w1.heap.size w1 wr) (fun _ i _ => M - (intOf i).toNat)
  case atStart => exact ⟨0, Nat.zero_le _, rfl, Own.nil _ _ _, Below.refl _ _⟩
  case round =>
    obtain ⟨k, hk, rfl, r1, rB⟩ := hrel
    have hll := hid (rng_length (fun k => num d (F (wrd d n k))) k)
    replace r1 := hid r1; replace rB := hid rB
    by_cases hlt : k < M
    · have dk : decide ((k : Int) < (M : Int)) = true := decide_eq_true (by omega)
      have hsn := hid (rng_snoc (fun k => num d (F (wrd d n k))) k)
      have ck := (hO.out.below rB.out).cellAt k _ (lvl_get d n M k hlt)
      have hBw := hid (hB.out.trans (rB.out.mono hB.out.size))
      go_wp2_with (first
        | (go_at_call 219; (with_reducible refine (hf.out _ hBw.out _ (hwl.out k) (hwm.out k)).mono ?_); rintro e w2 ⟨rfl, hb1⟩; replace r1 := hid (r1.out.below hb1); replace rB := hid (rB.out.trans (hb1.mono rB.out.size)); clear hb1 ck hBw)
        | (go_at_call 211; (with_reducible refine (hnum.out k _).mono ?_); rintro e w3 ⟨rfl, rfl⟩)
        | ((with_reducible refine gate (N := 25) rfl ?_); refine app1 29 2 (.int .i64 0) 8 Try.underlying29 info_i64 rfl (by omega) rfl _ _ rfl w1.heap.size _ _ rfl r1.out rB.out.size _ rfl rfl (by have := hll.out; omega) ?_; intro gn cap w2 hO2 hb2 hold hsz2 _; replace hO2 := hid hO2; have tB := hid (rB.out.trans hb2); clear hb2 hold hsz2 r1 rB))
      go_roundw
      case rel => exact ⟨k + 1, by omega, by go_num, by rw [hsn.out]; exact hO2.out, tB.out⟩
      case measure => simp [intOf]; omega
    · obtain rfl : k = M := by omega
      go_wp2
      go_ret
      exact ⟨_, rfl, r1.out.mono hB.out.size, hB.out.trans (rB.out.mono hB.out.size)⟩
set_option maxHeartbeats 2000000 in
set_option maxRecDepth 4000 in
theorem ofPortrait_any (w : World) (d n : Nat) (hd : d = 2 ∨ d = 3) (hn : n ≤ 4) (b0 : Nat) (v : Value) (g : List Int) (hO : Own w b0 2 v (ints g)) (hg : IsP d n g) :
    Calls Try.prog 129 #[.int .i64 d, .int .i64 n, v] w fun e w' => ∃ v', e = .returned v' ∧ Own w' w.heap.size 2 v' (nats (prtP d g n)) ∧ Below w.heap.size w w' := by
  obtain ⟨A, c, rfl, _, _⟩ := hO.form
  rw [ints_length] at hO ⊢
  have hS := ((St.arg w hO).newBlk #[.int .i64 d] 2).newBlk #[.slice A g.length c] 29
  rw [heap_alloc_size] at hS
  replace hS := hid hS
  have hmf : ∀ (fn : Fn) (first cap : Array Value) (w : World), (Instr.makeFunc fn first cap).run Try.prog w = .ok (.func fn first cap) w := fun _ _ _ _ => rfl
  have hb := pw5 (n := n) hd (by omega)
  have hpe := hid (fun W (hS : St w.heap.size w [Asn.blk (w.heap.size + 1) #[.slice A g.length c] 29, Asn.blk w.heap.size #[.int .i64 d] 2, Asn.own 0 2 (.slice A g.length c) (ints g)] W) =>
    permutation_ofp (w.heap.size + 1) w.heap.size d n (by omega) (by omega) (by omega) (by omega) W (actP d g) (fun u hl hu => ⟨by rw [actP_length, hl], actP_lt hd hg u hu (by omega)⟩) (fun W' hW' u hl hu => ofp1_any w.heap.size w W' _ _ d n hd hn _ g hg (hS.call hW') u hl hu))
  have c1 := blkc hS.out.k1
  have hres := hid (show rng (fun k => num d (actP d g (wrd d n k))) (pw d n) = nats (prtP d g n) from rfl)
  replace hO := hid hO; replace hg := hid hg
  go_enter Try.func129, Try.ntmps129
  go_wp2_with (first
    | (go_at_call 115; (with_reducible refine (hpe.out _ hS.out).mono ?_); rintro e w1 ⟨v1, rfl, hO1, hb⟩; rw [hres.out] at hO1; replace hS := hid (hS.out.callOwn hb hO1); clear hO1 hb))
  go_ret
  exact ⟨_, rfl, hS.out.o0, hS.out.bel⟩
end Go.Proofs.Ytbmkkaecfogmoaa

/- OrderOfPortrait: what the reference answers. -/
namespace Go.Proofs.Ytbmkkaecfogmoaa
open Go.RowKit
set_option linter.unusedVariables false
set_option linter.unusedSimpArgs false
-- @LONG

def dgb (u : List Nat) : List Value := u.map fun x : Nat => .int .u8 (48 + (x : Int))
theorem dgb_length (u : List Nat) : (dgb u).length = u.length := by simp [dgb]
theorem dgb_snoc (u : List Nat) (x : Nat) : dgb (u ++ [x]) = dgb u ++ [.int .u8 (48 + (x : Int))] := by simp [dgb]
set_option maxHeartbeats 4000000 in
set_option maxRecDepth 100000 in
theorem l03Act_any (w : World) (d n : Nat) (hd : d = 2 ∨ d = 3) (hn : n ≤ 4) (b0 : Nat) (v : Value) (g : List Int) (hO : Own w b0 2 v (ints g)) (hg : IsP d n g) (u : List Nat) (hu : ∀ x ∈ u, x < d) (hl : u.length ≤ n) :
    Calls Try.prog 139 #[.int .i64 d, v, .string (wstr u)] w fun e w' => e = .returned (.string (wstr (actP d g u))) ∧ Below w.heap.size w w' := by
  have hsz := wstr_size u
  have hbyte := hid (fun k hk => wstr_byte u k hk (fun x hx => by have := hu x hx; omega))
  have hS := (St.arg w hO).newOwn [] 5 (by simp)
  simp only [List.length_nil] at hS
  replace hS := hid hS
  have hd3 : d ≤ 3 ∧ 2 ≤ d := by rcases hd with h | h <;> rw [h] <;> decide
  have hrd := hid (fun k (hk : k < u.length) => (show ∃ kk : Nat, gAt d g (u.take k) = (kk : Nat) ∧ kk < cnt d ∧ u.getD k 0 < d ∧ pim d kk (u.getD k 0) < d ∧ actP d g (u.take (k + 1)) = actP d g (u.take k) ++ [pim d kk (u.getD k 0)] from by
    have htl : (u.take k).length = k := by rw [List.length_take]; omega
    have hm : ∀ x ∈ u.take k, x < d := fun x hx => hu x (List.mem_of_mem_take hx)
    have hgn := gAt_nat hd hg (u.take k) hm (by omega)
    have hx := hu _ (getD_mem u k hk)
    exact ⟨(gAt d g (u.take k)).toNat, hgn.1.symm, hgn.2, hx, pim_lt d _ _ hd hgn.2 hx, actP_take d g u k hk⟩))
  have hat := hid (fun k (hk : k < u.length) (W : World) (hO : Own W 0 2 v (ints g)) => (by
    have h := l03At_any W d n hd hn 0 v g hO hg (u.take k) (fun x hx => hu x (List.mem_of_mem_take hx)) (by rw [List.length_take]; omega)
    rw [← wstr_take] at h; exact h : Calls Try.prog 217 #[.int .i64 d, v, .string ((wstr u).extract 0 k)] W fun e w' => e = .returned (.int .i64 (gAt d g (u.take k))) ∧ W = w'))
  have him := hid (fun k (hk : k < cnt d) W => (by have h := l03Images_any d k hd hk W; rw [row3] at h; exact h : Calls Try.prog 140 #[.int .i64 d, .int .i64 k] W fun e w' => e = .returned (.agg #[.int .u8 (pim d k 0 : Nat), .int .u8 (pim d k 1 : Nat), .int .u8 (pim d k 2 : Nat)]) ∧ Below W.heap.size W w'))
  have hal := hid (fun k (hk : k ≤ u.length) => (show (dgb (actP d g (u.take k))).length = k by rw [dgb_length, actP_length, List.length_take]; omega))
  have hfu := hid (show actP d g u = actP d g (u.take u.length) by rw [List.take_length])
  have h0 := hid (show dgb (actP d g (u.take 0)) = [] by simp [actP, dgb])
  rw [hfu.out]
  replace hg := hid hg; replace hu := hid hu
  clear hfu
  generalize hwe : wstr u = ws at *
  replace hwe := hid hwe
  generalize hN : u.length = N at *
  replace hN := hid hN
  go_enter Try.func139, Try.ntmps139
  go_wp2
  go_loopw [7, 8] (fun o i wr => ∃ k : Nat, k ≤ N ∧ i = .int .i64 k ∧ St w.heap.size w [Asn.own w.heap.size 5 o (dgb (actP d g (u.take k))), Asn.own 0 2 v (ints g)] wr) (fun _ i _ => N - (intOf i).toNat)
  case atStart => exact ⟨0, Nat.zero_le _, rfl, by rw [h0.out]; exact hS.out⟩
  case round =>
    obtain ⟨k, hk, rfl, rS⟩ := hrel
    clear hS
    replace rS := hid rS
    by_cases hkN : k < N
    · have dk : decide ((k : Int) < (N : Int)) = true := decide_eq_true (by omega)
      have hks : k ≤ ws.size := by omega
      have hks2 : k < ws.size := by omega
      have hatk := hid (hat.out k hkN)
      obtain ⟨kk, hgk, hkk, hx, hy, hsn⟩ := hrd.out k hkN
      rw [hgk] at hatk
      have hik := hid (him.out kk hkk)
      have hby := hbyte.out k hks2
      have hlk := hid (hal.out k hk)
      have hpx := hid (fun (x : Nat) (hx : x < d) => (show #[Value.int .u8 (pim d kk 0 : Nat), .int .u8 (pim d kk 1 : Nat), .int .u8 (pim d kk 2 : Nat)][x]? = some (.int .u8 (pim d kk x : Nat)) from by
        have : x = 0 ∨ x = 1 ∨ x = 2 := by omega
        rcases this with rfl | rfl | rfl <;> rfl))
      replace hsn := hid hsn
      clear hgk
      generalize u.getD k 0 = x at *
      have hpx2 := hid (hpx.out x hx)
      clear hpx
      generalize pim d kk x = y at *
      generalize pim d kk 0 = a0 at *
      generalize pim d kk 1 = a1 at *
      generalize pim d kk 2 = a2 at *
      generalize actP d g (u.take k) = ak at *
      have e3 : 48 + (x : Int) - 48 = x := by omega
      have e4 : ((x : Nat) : Int) % 256 = (x : Nat) := by omega
      have e5 : (48 + (y : Int)) % 256 = 48 + (y : Int) := by omega
      have ew5 : IntKind.u8.wrap (48 + (y : Int)) = 48 + (y : Int) := IntWalk.u8_in _ (by omega)
      have x0 : (0 : Int) ≤ (x : Int) := Int.natCast_nonneg _
      have x1 : (x : Int) < 3 := by omega
      go_upto_region 6 with (first
        | (go_at_call 217; (with_reducible refine (hatk.out _ rS.out.o1).mono ?_); rintro e w2 ⟨rfl, rfl⟩)
        | (go_at_call 140; (with_reducible refine (hik.out _).mono ?_); rintro e w3 ⟨rfl, hb⟩; replace rS := hid (rS.out.call hb); clear hb))
      replace rS := hid (rS.out.newBlk #[.int .u8 (a0 : Nat), .int .u8 (a1 : Nat), .int .u8 (a2 : Nat)] 24)
      have cx := (cell_of_row _ _ x _ _ _ rS.out.k0).trans hpx2.out
      generalize w3.heap.size = b3 at *
      generalize w3.alloc _ = w4 at *
      replace rS := hid rS.out.drop
      go_wp2_with (first
        | ((with_reducible refine gate (N := 34) rfl ?_); refine St.app 22 5 (.int .u8 0) 1 Try.underlying22 info_u8 rfl (by omega) rfl _ _ rfl _ _ rfl rS.out _ rfl rfl k hlk.out (by omega) ?_; intro gn cn w5 rS'; replace rS := hid rS'; clear rS'))
      rw [← dgb_snoc, ← hsn.out] at rS
      go_roundw
      case rel => exact ⟨k + 1, by omega, by go_num, rS.out⟩
      case measure => simp [intOf]; omega
    · obtain rfl : k = N := by omega
      have dk : decide ((k : Int) < (k : Int)) = false := decide_eq_false (by omega)
      have hconv := Own.conv (show Own _ _ 5 _ ((actP d g (u.take k)).map fun x : Nat => .int .u8 (48 + (x : Int))) from rS.out.o0)
      go_wp2
      go_ret
      exact ⟨rfl, rS.out.bel⟩
set_option maxHeartbeats 4000000 in
set_option maxRecDepth 100000 in
theorem l03Permutation_any (w : World) (d n : Nat) (hd : d = 2 ∨ d = 3) (hn : n ≤ 4) (b0 : Nat) (v : Value) (g : List Int) (hO : Own w b0 2 v (ints g)) (hg : IsP d n g) :
    Calls Try.prog 131 #[.int .i64 d, .int .i64 n, v] w fun e w' => ∃ v', e = .returned v' ∧ Own w' w.heap.size 2 v' (nats (prtP d g n)) ∧ Below w.heap.size w w' := by
  have hS := (St.arg w hO).newOwn [] 2 (by simp)
  simp only [List.length_nil] at hS
  replace hS := hid hS
  have hb := pw5 (n := n) hd (by omega)
  have hd3 : d ≤ 3 ∧ 2 ≤ d := by rcases hd with h | h <;> rw [h] <;> decide
  have hpw := hid (fun W => l01Power_any d n (by omega) (by omega) (by omega) W)
  have hres := hid (show rng (fun k => num d (actP d g (wrd d n k))) (pw d n) = nats (prtP d g n) from rfl)
  have hwo := hid (fun k (hk : k < pw d n) W => l01WordOf_any d (by omega) (by omega) n k (by omega) (by omega) W)
  have hac := hid (fun k W (hO : Own W 0 2 v (ints g)) => l03Act_any W d n hd hn 0 v g hO hg (wrd d n k) (wrd_lt d (by omega) n k) (by rw [wrd_length]; omega))
  have hal := hid (fun k => (actP_length (d := d) (g := g) (wrd d n k)).trans (wrd_length d n k))
  have hnum := hid (fun k W => l01NumberOf_any d (by omega) (by omega) (actP d g (wrd d n k)) (actP_lt hd hg _ (wrd_lt d (by omega) n k) (by rw [wrd_length]; omega)) (by rw [hal.out k]; omega) (by rw [hal.out k]; omega) W)
  clear hal
  replace hO := hid hO; replace hg := hid hg
  generalize hMn : pw d n = M at *
  replace hMn := hid hMn
  go_enter Try.func131, Try.ntmps131
  go_wp2
  go_loopw [7, 8] (fun o i wr => ∃ k : Nat, k ≤ M ∧ i = .int .i64 k ∧ St w.heap.size w [Asn.own w.heap.size 2 o (rng (fun k => num d (actP d g (wrd d n k))) k), Asn.own 0 2 v (ints g)] wr) (fun _ i _ => M - (intOf i).toNat)
  case atStart => exact ⟨0, Nat.zero_le _, rfl, hS.out⟩
  case round =>
    obtain ⟨k, hk, rfl, rS⟩ := hrel
    clear hS
    have hll := hid (rng_length (fun k => num d (actP d g (wrd d n k))) k)
    replace rS := hid rS
    by_cases hlt : k < M
    · have dk : decide ((k : Int) < (M : Int)) = true := decide_eq_true (by omega)
      have hsn := hid (rng_snoc (fun k => num d (actP d g (wrd d n k))) k)
      have hack := hid (hac.out k)
      have hwk := hid (hwo.out k hlt)
      have hnk := hid (hnum.out k)
      generalize num d (actP d g (wrd d n k)) = nk at *
      generalize wstr (actP d g (wrd d n k)) = iw at *
      generalize wstr (wrd d n k) = wk at *
      go_wp2_with (first
        | (go_at_call 196; (with_reducible refine (hpw.out _).mono ?_); rintro e w' ⟨rfl, rfl⟩)
        | (go_at_call 215; (with_reducible refine (hwk.out _).mono ?_); rintro e w3 ⟨rfl, hb⟩; replace rS := hid (rS.out.call hb); clear hb)
        | (go_at_call 139; (with_reducible refine (hack.out _ rS.out.o1).mono ?_); rintro e w4 ⟨rfl, hb⟩; replace rS := hid (rS.out.call hb); clear hb)
        | (go_at_call 220; (with_reducible refine (hnk.out _).mono ?_); rintro e w' ⟨rfl, rfl⟩)
        | ((with_reducible refine gate (N := 28) rfl ?_); refine St.app 29 2 (.int .i64 0) 8 Try.underlying29 info_i64 rfl (by omega) rfl _ _ rfl _ _ rfl rS.out _ rfl rfl k hll.out (by omega) ?_; intro gn cn w5 rS'; replace rS := hid rS'; clear rS'))
      rw [← hsn.out] at rS
      go_roundw
      case rel => exact ⟨k + 1, by omega, by go_num, rS.out⟩
      case measure => simp [intOf]; omega
    · obtain rfl : k = M := by omega
      have dk : decide ((k : Int) < (k : Int)) = false := decide_eq_false (by omega)
      rw [hres.out] at rS
      go_wp2_with (first
        | (go_at_call 196; (with_reducible refine (hpw.out _).mono ?_); rintro e w' ⟨rfl, rfl⟩))
      go_ret
      exact ⟨_, rfl, rS.out.o0, rS.out.bel⟩
end Go.Proofs.Ytbmkkaecfogmoaa

/- The program's portraitFrom at the map of a level. -/
namespace Go.Proofs.Ytbmkkaecfogmoaa
open Go.RowKit
set_option linter.unusedVariables false
set_option linter.unusedSimpArgs false
-- @LONG

set_option maxHeartbeats 1000000 in
/-- Is a number in the level? -/
theorem pfr1_any (b b2 : Nat) (w : World) (d n : Nat) (hd : d = 2 ∨ d = 3) (hn : n ≤ 5) (hb : w.cell? ⟨b, 0, none⟩ = some (.int .i64 d)) (hb2 : w.cell? ⟨b2, 0, none⟩ = some (.int .i64 n)) (k : Int) (hk : 0 ≤ k ∧ k < (pw d n : Nat)) :
    Calls Try.prog 208 #[.int .i64 k, .pointer (some ⟨b, 0, none⟩), .pointer (some ⟨b2, 0, none⟩)] w fun e w' => e = .returned (.bool false) ∧ Below w.heap.size w w' := by
  have h5 := pw5 (n := n) hd hn
  have hpw := hid (fun W => power_any d n (by omega) (by omega) (by omega) W)
  have hin := hid (fun W => within_any k 0 ((pw d n : Nat) - 1) true (decide_eq_true (by omega)).symm W)
  have ew : wrap64 (((pw d n : Nat) : Int) - 1) = ((pw d n : Nat) : Int) - 1 := w64 (by omega) (by omega)
  have ew2 : IntKind.i64.wrap (((pw d n : Nat) : Int) - 1) = ((pw d n : Nat) : Int) - 1 := IntWalk.i64_in _ (by omega)
  generalize pw d n = N at *
  go_enter Try.func208, Try.ntmps208
  go_wp2_with (first
    | (go_at_call 176; (with_reducible refine (hpw.out _).mono ?_); rintro e w' ⟨rfl, rfl⟩)
    | (go_at_call 124; (with_reducible refine (hin.out _).mono ?_); rintro e w' ⟨rfl, rfl⟩))
  go_ret
  exact ⟨rfl, Below.refl _ _⟩
set_option maxHeartbeats 1000000 in
set_option maxRecDepth 100000 in
theorem indexFuncI_pfr (b b2 : Nat) (w : World) (base : Nat) (v : Value) (l : List Int) (h : Own w base 2 v (ints l)) (hl : l.length < 2000000) (p : Int → Bool)
    (hcall : ∀ W, Below w.heap.size w W → ∀ x, x ∈ l → Calls Try.prog 208 #[.int .i64 x, .pointer (some ⟨b, 0, none⟩), .pointer (some ⟨b2, 0, none⟩)] W fun e w' => e = .returned (.bool (p x)) ∧ Below W.heap.size W w') :
    Calls Try.prog 218 #[v, .func (.func 208) #[] #[.pointer (some ⟨b, 0, none⟩), .pointer (some ⟨b2, 0, none⟩)]] w fun e w' => e = .returned (.int .i64 (idxP p l 0)) ∧ Below w.heap.size w w' := by
  have hil := ints_length l
  obtain ⟨A1, c1, rfl, _, _⟩ := h.form
  rw [hil] at h ⊢
  have hget := hid (fun (k : Nat) (x : Int) (hx : l[k]? = some x) => (show (ints l)[k]? = some (.int .i64 x) by simp [ints, hx]))
  have hcell := hid (fun (k : Nat) (x : Int) (hx : l[k]? = some x) => (show ∃ g, A1 = some ⟨g, 0, none⟩ ∧ ∀ W, Below w.heap.size w W → W.cell? ⟨g, k, none⟩ = some (.int .i64 x) from by
    obtain ⟨g1, c2, he, _, hg1⟩ := h.blk (fun e => by have h1 := congrArg List.length e; rw [hil] at h1; have h2 := (List.getElem?_eq_some_iff.1 hx).1; rw [List.length_nil] at h1; omega)
    injection he with e1 e2 e3
    subst e1
    exact ⟨g1, rfl, fun W hW => (h.below hW).cellAt k _ (hget.out k x hx)⟩))
  replace hcall := hid hcall
  clear h hil
  obtain ⟨R, hR⟩ : ∃ R, R = idxP p l 0 := ⟨_, rfl⟩
  rw [← hR]
  replace hR := hid hR
  generalize hn : l.length = n at *
  replace hn := hid hn
  go_enter Try.func218, Try.ntmps218
  go_wp2
  go_loopw [8] (fun i wr => ∃ k : Nat, k ≤ n ∧ i = .int .i64 k ∧ Hid (R = idxP p (l.drop k) k) ∧ Below w.heap.size w wr) (fun i _ => n - (intOf i).toNat)
  case atStart => exact ⟨0, Nat.zero_le _, rfl, hR, Below.refl _ _⟩
  case round =>
    obtain ⟨k, hk, rfl, hA, rB⟩ := hrel
    clear hR
    replace rB := hid rB
    by_cases hlt : k < n
    · obtain ⟨x, hx⟩ : ∃ x, l[k]? = some x := ⟨_, List.getElem?_eq_getElem (by rw [hn.out]; exact hlt)⟩
      obtain ⟨g, rfl, hc⟩ := hcell.out k x hx
      have d1 := hc wr rB.out
      have hcl := hid (hcall.out wr rB.out x (List.mem_of_getElem? hx))
      have hT := hid (fun hp => idxP_drop_t (p := p) hx hp k)
      have hF := hid (fun hp => idxP_drop_f (p := p) hx hp k)
      clear hc hx
      cases hp : p x with
      | true =>
        rw [hp] at hcl
        have hA2 := hid (hA.out.trans (hT.out hp))
        clear hp hT hF
        go_wp2_with (first
          | (go_at_call 208; (with_reducible refine (hcl.out).mono ?_); rintro e w1 ⟨rfl, hb⟩; replace rB := hid (rB.out.trans (hb.mono rB.out.size)); clear hb))
        go_ret
        exact ⟨retI (by rw [hA2.out]), rB.out⟩
      | false =>
        rw [hp] at hcl
        have hA2 := hid (hA.out.trans (hF.out hp))
        clear hp hT hF
        go_wp2_with (first
          | (go_at_call 208; (with_reducible refine (hcl.out).mono ?_); rintro e w1 ⟨rfl, hb⟩; replace rB := hid (rB.out.trans (hb.mono rB.out.size)); clear hb))
        go_roundw
        case rel => exact ⟨k + 1, by omega, by go_num, hA2, rB.out⟩
        case measure => simp [intOf]; omega
    · obtain rfl : k = n := by omega
      have hA2 := hid (hA.out.trans (show _ = (-1 : Int) by rw [List.drop_eq_nil_of_le (by rw [hn.out]; exact Nat.le_refl _)]; rfl))
      go_wp2
      go_ret
      exact ⟨retI (by rw [hA2.out]), rB.out⟩
set_option maxHeartbeats 1000000 in
theorem containsFuncI_pfr (b b2 : Nat) (w : World) (base : Nat) (v : Value) (l : List Int) (h : Own w base 2 v (ints l)) (hl : l.length < 2000000) (p : Int → Bool)
    (hcall : ∀ W, Below w.heap.size w W → ∀ x, x ∈ l → Calls Try.prog 208 #[.int .i64 x, .pointer (some ⟨b, 0, none⟩), .pointer (some ⟨b2, 0, none⟩)] W fun e w' => e = .returned (.bool (p x)) ∧ Below W.heap.size W w') :
    Calls Try.prog 122 #[v, .func (.func 208) #[] #[.pointer (some ⟨b, 0, none⟩), .pointer (some ⟨b2, 0, none⟩)]] w fun e w' => e = .returned (.bool (l.any p)) ∧ Below w.heap.size w w' := by
  have hi := hid (indexFuncI_pfr b b2 w base v l h hl p hcall)
  have ha := hid (idxP_any p l 0 (Int.le_refl _))
  clear hcall h hl
  generalize idxP p l 0 = r at *
  generalize l.any p = c at *
  go_enter Try.func122, Try.ntmps122
  go_wp2_with (first
    | (go_at_call 218; (with_reducible refine (hi.out).mono ?_); rintro e w1 ⟨rfl, hb⟩; replace hb := hid hb))
  go_ret
  refine ⟨retB ?_, hb.out⟩
  have h := ha.out
  rw [Bool.eq_iff_iff, ← h]
  simp
set_option maxHeartbeats 4000000 in
set_option maxRecDepth 100000 in
/-- The number of what the map makes of the letters behind a word. -/
theorem pfr2_any (base : Nat) (w0 w : World) (b3 b2 b1 : Nat) (d n : Nat) (hd : d = 2 ∨ d = 3) (hn : n ≤ 4) (F : List Nat → List Nat) (hF : Aut d F n) (bv : Nat) (v : Value)
    (hS : St base w0 [Asn.blk b3 #[v] 29, Asn.blk b2 #[.int .i64 n] 2, Asn.blk b1 #[.int .i64 d] 2, Asn.own bv 2 v (nats (pmF d F n))] w)
    (u : List Nat) (hu : ∀ x ∈ u, x < d) (hlen : u.length < n) :
    Calls Try.prog 210 #[.string (wstr u), .pointer (some ⟨b1, 0, none⟩), .pointer (some ⟨b2, 0, none⟩), .pointer (some ⟨b3, 0, none⟩)] w fun e w' => e = .returned (.int .i64 (pnm (lrow d F u))) ∧ Below w.heap.size w w' := by
  have hpos := pw_pos d (by omega) n
  have hN := pw5 (n := n) hd (by omega)
  have hnl := nats_length (pmF d F n)
  rw [pmF_length] at hnl
  obtain ⟨ga, ca, rfl, _, _⟩ := hS.o3.blk (fun e => by rw [e] at hnl; simp at hnl; omega)
  rw [hnl] at hS
  have hc := hid (fun W (hW : Below w.heap.size w W) => (show W.cell? ⟨b1, 0, none⟩ = some (.int .i64 d) ∧ W.cell? ⟨b2, 0, none⟩ = some (.int .i64 n) ∧ W.cell? ⟨b3, 0, none⟩ = some (.slice (some ⟨ga, 0, none⟩) (pw d n) ca) ∧ ∀ j, j < pw d n → W.cell? ⟨ga, j, none⟩ = some (.int .i64 ((pmF d F n).getD j 0 : Nat)) from by
    have h := hS.call hW
    refine ⟨blkc h.k2, blkc h.k1, blkc h.k0, fun j hj => h.o3.cellAt j _ ?_⟩
    rw [nats, List.getElem?_map, List.getD_eq_getElem?_getD]
    have hj' : j < (pmF d F n).length := by rw [pmF_length]; exact hj
    rw [List.getElem?_eq_getElem hj']; rfl))
  have hnm := hid (fun W => numberOf_any d (by omega) (by omega) u hu (by have := pw5 (n := u.length) hd (by omega); omega) (by omega) W)
  have hp1 := hid (fun W => power_any d (n - u.length) (by omega) (by have := pw5 (n := n - u.length) hd (by omega); omega) (by omega) W)
  have hp2 := hid (fun W => power_any d (n - u.length - 1) (by omega) (by have := pw5 (n := n - u.length - 1) hd (by omega); omega) (by omega) W)
  have hrd := hid (fun x (hx : x < d) => pmF_read hd hF hu hlen hx)
  have hsz := wstr_size u
  have hP2 := pw_pos d (by omega) (n - u.length - 1)
  have hP2u := pw5 (n := n - u.length - 1) hd (by omega)
  have hyl := hid (fun x (hx : x < d) => (hF.last hu hx hlen).2)
  have hmu : num d u * pw d (n - u.length) < pw d n := by have h := (hrd.out 0 (by omega)).1; omega
  have hget := hid (fun j (hj : j < pw d n) => (show (pmF d F n).getD j 0 < pw d n from by
    rw [pmF_get hj]
    exact num_lt d n _ (by rw [hF.len _ (wrd_lt d (by omega) n j) (by rw [wrd_length]; exact Nat.le_refl _), wrd_length]) (hF.lt _ (wrd_lt d (by omega) n j) (by rw [wrd_length]; exact Nat.le_refl _))))
  obtain ⟨Y, hY⟩ : ∃ Y : Nat → Nat, Y = fun x => (F (u ++ [x])).getD u.length 0 := ⟨_, rfl⟩
  have hYe := hid (fun x => (show (F (u ++ [x])).getD u.length 0 = Y x by rw [hY]))
  obtain ⟨R, hR⟩ : ∃ R : Nat → List Int, R = fun k => (List.range k).map fun x => ((Y x : Nat) : Int) := ⟨_, rfl⟩
  have hR0 := hid (show R 0 = [] by rw [hR]; rfl)
  have hRs := hid (fun k => (show R (k + 1) = R k ++ [((Y k : Nat) : Int)] by rw [hR]; simp [List.range_succ]))
  have hRl := hid (fun k => (show (R k).length = k by rw [hR]; simp))
  have hRd : lrow d F u = R d := by rw [hR, hY]; rfl
  rw [hRd]
  have hpn := hid (fun W b v (hO : Own W b 2 v (ints (R d))) => (by have h := permutationNumber_any W b v _ hO (by rw [hRl.out]; omega); rw [pnI_of (by rw [hRl.out]; omega)] at h; exact h : Calls Try.prog 143 #[v] W fun e w' => e = .returned (.int .i64 (pnm (R d))) ∧ Below W.heap.size W w'))
  simp only [hYe.out] at hrd hyl
  have e1 : IntKind.i64.wrap ((n : Int) - (u.length : Int)) = ((n - u.length : Nat) : Int) := by rw [show (n : Int) - (u.length : Int) = ((n - u.length : Nat) : Int) by omega]; exact IntWalk.i64_in _ (by omega)
  have e2 : IntKind.i64.wrap (((n - u.length : Nat) : Int) - 1) = ((n - u.length - 1 : Nat) : Int) := by rw [show ((n - u.length : Nat) : Int) - 1 = ((n - u.length - 1 : Nat) : Int) by omega]; exact IntWalk.i64_in _ (by omega)
  have e3 : IntKind.i64.wrap (((num d u : Nat) : Int) * ((pw d (n - u.length) : Nat) : Int)) = ((num d u * pw d (n - u.length) : Nat) : Int) := by rw [← Int.natCast_mul]; exact IntWalk.i64_in _ (by omega)
  clear hR hY hRd hu hF hS hYe
  generalize hK : pnm (R d) = PN at *
  clear hK
  generalize (pmF d F n) = L at *
  generalize num d u * pw d (n - u.length) = first at *
  generalize pw d (n - u.length) = N1 at *
  generalize hNN : pw d (n - u.length - 1) = N2 at *
  clear hNN
  generalize num d u = nu at *
  generalize n - u.length - 1 = k2 at *
  generalize n - u.length = k1 at *
  generalize pw d n = N at *
  generalize u.length = k at *
  generalize wstr u = us at *
  have hS0 := hid ((St.start w).nilOwn 2)
  have c1 := (hc.out w (Below.refl _ _)).1
  have c2 := (hc.out w (Below.refl _ _)).2.1
  have c3 := (hc.out w (Below.refl _ _)).2.2.1
  go_enter Try.func210, Try.ntmps210
  go_upto_region 2 with (fail)
  go_quiet (first
    | (go_at_call 211; exact quiet_same (hnm.out _))
    | (go_at_call 176; exact quiet_same (hp1.out _)))
  replace hS0 := hid (hS0.out.drewN nq)
  clear c1 c2 c3
  have c1 := (hc.out _ hS0.out.bel).1
  go_wp2
  clear c1
  go_loopw [8, 23] (fun o i wr => ∃ x : Nat, x ≤ d ∧ i = .int .i64 x ∧ St w.heap.size w [Asn.own w.heap.size 2 o (ints (R x))] wr) (fun _ i _ => d - (intOf i).toNat)
  case atStart => exact ⟨0, Nat.zero_le _, rfl, by rw [hR0.out]; exact hS0.out⟩
  case round =>
    obtain ⟨x, hx, rfl, rS⟩ := hrel
    clear hS0
    have c1 := (hc.out wr rS.bel).1
    have c2 := (hc.out wr rS.bel).2.1
    have c3 := (hc.out wr rS.bel).2.2.1
    by_cases hlt : x < d
    · have dx : decide ((x : Int) < (d : Int)) = true := decide_eq_true (by omega)
      obtain ⟨r1, r2⟩ := hrd.out x hlt
      have c4 := (hc.out wr rS.bel).2.2.2 _ r1
      have hgt := hget.out _ r1
      have hy := hyl.out x hlt
      have e4 : IntKind.i64.wrap ((x : Int) * (N2 : Int)) = ((x * N2 : Nat) : Int) := by rw [← Int.natCast_mul]; exact IntWalk.i64_in _ (by omega)
      have e5 : IntKind.i64.wrap ((first : Int) + ((x * N2 : Nat) : Int)) = ((first + x * N2 : Nat) : Int) := by rw [← Int.natCast_add]; exact IntWalk.i64_in _ (by omega)
      generalize x * N2 = xn at *
      generalize first + xn = ix at *
      generalize L.getD ix 0 = tv at *
      have i0 : (0 : Int) ≤ (ix : Int) := Int.natCast_nonneg _
      have i1 : (ix : Int) < (N : Int) := by omega
      have dz : ¬ (N2 : Int) = 0 := by omega
      have dz2 : ¬ (d : Int) = 0 := by omega
      have dz3 : ¬ N2 = 0 := by omega
      have dz4 : ¬ d = 0 := by omega
      obtain ⟨qv, hqv⟩ : ∃ qv, qv = tv / N2 := ⟨_, rfl⟩
      have m2 : Int.tdiv (tv : Int) (N2 : Int) = (qv : Int) := by rw [hqv, Int.tdiv_eq_ediv_of_nonneg (Int.natCast_nonneg _)]; rfl
      have hq : qv ≤ tv := by rw [hqv]; exact Nat.div_le_self tv N2
      have m1 : Int.tmod (qv : Int) (d : Int) = ((Y x : Nat) : Int) := by rw [← r2, hqv, Int.tmod_eq_emod_of_nonneg (Int.natCast_nonneg _)]; rfl
      clear hqv
      have s1 : IntKind.i64.wrap (qv : Int) = (qv : Int) := IntWalk.i64_in _ (by omega)
      have s2 : IntKind.i64.wrap ((Y x : Nat) : Int) = ((Y x : Nat) : Int) := IntWalk.i64_in _ (by omega)
      have hRx := hid (hRs.out x)
      have hlx := hid (show (ints (R x)).length = x by rw [ints_length, hRl.out])
      generalize Y x = y at *
      replace rS := hid rS
      go_upto_region 7 with (fail)
      go_quiet (
        (go_at_call 176; exact quiet_same (hp2.out _)))
      replace rS := hid (rS.out.drewN nq)
      clear c1 c2 c3 c4
      generalize World.drewN wr nq = wq at *
      go_upto_region 8 with (fail)
      replace rS := hid rS.out.drew
      have T1 := (hc.out wq.drew rS.out.bel).1
      have T2 := (hc.out wq.drew rS.out.bel).2.1
      refine wp_region_heldL (L := [(12, (fun w' : World => w'.cell? ⟨b1, 0, none⟩ = some (.int .i64 d) ∧ w'.cell? ⟨b2, 0, none⟩ = some (.int .i64 n)))]) (by kernel_rfl) (HeldL.cons (fun _ => ⟨T1, T2⟩) HeldL.nil) (fun hHeld => ?_)
      generalize wq.drew = wa at *
      refine wpAnyL_take0 (i := 0) (v := ?_) rfl (by kernel_rfl) (by kernel_rfl) (by kernel_rfl) (by rfl) (fun _ _ _ h => h) (Or.inl ⟨by rfl, ?_⟩) (by assumption) ?_
      rotate_left
      · (intro W _; go_simp; (with_reducible rfl))
      intro hHeld'
      clear hHeld; have hHeld := hHeld'; clear hHeld'
      try simp only [Act.put, List.getElem_toArray, List.getElem_cons_succ, List.getElem_cons_zero, List.setIfInBounds_toArray, List.set_cons_zero, List.set_cons_succ]
      refine wpAnyL_take0 (i := 1) (v := ?_) rfl (by kernel_rfl) (by kernel_rfl) (by kernel_rfl) (by rfl) (fun _ _ _ h => h) (Or.inl ⟨by rfl, ?_⟩) (by assumption) ?_
      rotate_left
      · (intro W _; go_simp; (with_reducible rfl))
      intro hHeld'
      clear hHeld; have hHeld := hHeld'; clear hHeld'
      try simp only [Act.put, List.getElem_toArray, List.getElem_cons_succ, List.getElem_cons_zero, List.setIfInBounds_toArray, List.set_cons_zero, List.set_cons_succ]
      refine wpAnyL_takeP (i := 2) 12 [7] (v := (.int .i64 d)) (fun w' : World => w'.cell? ⟨b1, 0, none⟩ = some (.int .i64 d) ∧ w'.cell? ⟨b2, 0, none⟩ = some (.int .i64 n)) rfl (by kernel_rfl) (by kernel_rfl) (by kernel_rfl) (by rfl) (by kernel_rfl) (by simp) (fun _ _ _ h => h) (Or.inl ⟨by rfl, ?_⟩) (by assumption) ?_
      · (intro W hW; (replace hW := hW.1); go_simp)
      intro hHeld'
      clear hHeld; have hHeld := hHeld'; clear hHeld'
      try simp only [Act.put, List.getElem_toArray, List.getElem_cons_succ, List.getElem_cons_zero, List.setIfInBounds_toArray, List.set_cons_zero, List.set_cons_succ]
      refine wpAnyL_takeP (i := 3) 12 [7, 6, 5] (v := (.int .i64 n)) (fun w' : World => w'.cell? ⟨b1, 0, none⟩ = some (.int .i64 d) ∧ w'.cell? ⟨b2, 0, none⟩ = some (.int .i64 n)) rfl (by kernel_rfl) (by kernel_rfl) (by kernel_rfl) (by rfl) (by kernel_rfl) (by simp) (fun _ _ _ h => h) (Or.inl ⟨by rfl, ?_⟩) (by assumption) ?_
      · (intro W hW; (replace hW := hW.2); go_simp)
      intro hHeld'
      clear hHeld; have hHeld := hHeld'; clear hHeld'
      try simp only [Act.put, List.getElem_toArray, List.getElem_cons_succ, List.getElem_cons_zero, List.setIfInBounds_toArray, List.set_cons_zero, List.set_cons_succ]
      refine wpAnyL_take0 (i := 4) (v := ?_) rfl (by kernel_rfl) (by kernel_rfl) (by kernel_rfl) (by rfl) (fun _ _ _ h => h) (Or.inl ⟨by rfl, ?_⟩) (by assumption) ?_
      rotate_left
      · (intro W _; go_simp; (with_reducible rfl))
      intro hHeld'
      clear hHeld; have hHeld := hHeld'; clear hHeld'
      try simp only [Act.put, List.getElem_toArray, List.getElem_cons_succ, List.getElem_cons_zero, List.setIfInBounds_toArray, List.set_cons_zero, List.set_cons_succ]
      refine wpAnyL_take0 (i := 5) (v := ?_) rfl (by kernel_rfl) (by kernel_rfl) (by kernel_rfl) (by rfl) (fun _ _ _ h => h) (Or.inl ⟨by rfl, ?_⟩) (by assumption) ?_
      rotate_left
      · (intro W _; go_simp; (with_reducible rfl))
      intro hHeld'
      clear hHeld; have hHeld := hHeld'; clear hHeld'
      try simp only [Act.put, List.getElem_toArray, List.getElem_cons_succ, List.getElem_cons_zero, List.setIfInBounds_toArray, List.set_cons_zero, List.set_cons_succ]
      refine wpAnyL_take0 (i := 6) (v := ?_) rfl (by kernel_rfl) (by kernel_rfl) (by kernel_rfl) (by rfl) (fun _ _ _ h => h) (Or.inl ⟨by rfl, ?_⟩) (by assumption) ?_
      rotate_left
      · (intro W _; go_simp; (with_reducible rfl))
      intro hHeld'
      clear hHeld; have hHeld := hHeld'; clear hHeld'
      try simp only [Act.put, List.getElem_toArray, List.getElem_cons_succ, List.getElem_cons_zero, List.setIfInBounds_toArray, List.set_cons_zero, List.set_cons_succ]
      refine wpAnyL_takeP (i := 9) 12 [11, 10] (v := (.int .i64 d)) (fun w' : World => w'.cell? ⟨b1, 0, none⟩ = some (.int .i64 d) ∧ w'.cell? ⟨b2, 0, none⟩ = some (.int .i64 n)) rfl (by kernel_rfl) (by kernel_rfl) (by kernel_rfl) (by rfl) (by kernel_rfl) (by simp) (fun _ _ _ h => h) (Or.inl ⟨by rfl, ?_⟩) (by assumption) ?_
      · (intro W hW; (replace hW := hW.1); go_simp)
      intro hHeld'
      clear hHeld; have hHeld := hHeld'; clear hHeld'
      try simp only [Act.put, List.getElem_toArray, List.getElem_cons_succ, List.getElem_cons_zero, List.setIfInBounds_toArray, List.set_cons_zero, List.set_cons_succ]
      refine wpAnyL_ready (rs := [7]) (by kernel_rfl) (by simp) ?_
      refine AllReadyL.cons rfl (fun K hK => ?_) AllReadyL.nil
      go_simp
      (with_reducible refine (hp2.out _).mono ?_)
      rintro e w5 ⟨rfl, rfl⟩
      go_simp
      refine hK.out _ _ (HeldL.cons (fun _ => ⟨T1, T2⟩) HeldL.nil) (fun hHeld' => ?_)
      clear hK K hHeld; have hHeld := hHeld'; clear hHeld'
      try simp only [Act.put, List.getElem_toArray, List.getElem_cons_succ, List.getElem_cons_zero, List.setIfInBounds_toArray, List.set_cons_zero, List.set_cons_succ]
      refine wpAnyL_take0 (i := 8) (v := ?_) rfl (by kernel_rfl) (by kernel_rfl) (by kernel_rfl) (by rfl) (fun _ _ _ h => h) (Or.inl ⟨by rfl, ?_⟩) (by assumption) ?_
      rotate_left
      · (intro W _; go_simp; (with_reducible rfl))
      intro hHeld'
      clear hHeld; have hHeld := hHeld'; clear hHeld'
      try simp only [Act.put, List.getElem_toArray, List.getElem_cons_succ, List.getElem_cons_zero, List.setIfInBounds_toArray, List.set_cons_zero, List.set_cons_succ]
      refine wpAnyL_take0 (i := 10) (v := ?_) rfl (by kernel_rfl) (by kernel_rfl) (by kernel_rfl) (by rfl) (fun _ _ _ h => h) (Or.inl ⟨by rfl, ?_⟩) (by assumption) ?_
      rotate_left
      · (intro W _; go_simp; (with_reducible rfl))
      intro hHeld'
      clear hHeld; have hHeld := hHeld'; clear hHeld'
      try simp only [Act.put, List.getElem_toArray, List.getElem_cons_succ, List.getElem_cons_zero, List.setIfInBounds_toArray, List.set_cons_zero, List.set_cons_succ]
      refine wpAnyL_ready (rs := [11]) (by kernel_rfl) (by simp) ?_
      refine AllReadyL.cons rfl (fun K hK => ?_) AllReadyL.nil
      go_simp
      clear T1 T2
      replace rS := hid (rS.out.newBlk #[.int .i64 (y : Nat)] 2)
      generalize wa.heap.size = bx at *
      generalize wa.alloc (.cells #[.int .i64 (y : Nat)] 2) = w6 at *
      have T1 := (hc.out w6 rS.out.bel).1
      have T2 := (hc.out w6 rS.out.bel).2.1
      refine hK.out _ _ (HeldL.cons (fun _ => ⟨T1, T2⟩) HeldL.nil) (fun hHeld' => ?_)
      clear hK K hHeld; have hHeld := hHeld'; clear hHeld'
      try simp only [Act.put, List.getElem_toArray, List.getElem_cons_succ, List.getElem_cons_zero, List.setIfInBounds_toArray, List.set_cons_zero, List.set_cons_succ]
      refine wpAnyL_ready (rs := [12]) (by kernel_rfl) (by simp) ?_
      refine AllReadyL.cons rfl (fun K hK => ?_) AllReadyL.nil
      refine St.step1 29 2 2 (.int .i64 0) 8 Try.underlying29 info_i64 rfl (by omega) rfl _ _ rfl _ _ rfl rS.out.f1 rfl rfl x hlx.out (by omega) ?_
      intro gn cn w7 rS'
      replace rS := hid rS'.f1.drop
      clear rS'
      refine hK.out _ _ (HeldL.cons (fun h => absurd h (by decide +kernel)) HeldL.nil) (fun hHeld' => ?_)
      clear hK K hHeld; have hHeld := hHeld'; clear hHeld'
      try simp only [Act.put, List.getElem_toArray, List.getElem_cons_succ, List.getElem_cons_zero, List.setIfInBounds_toArray, List.set_cons_zero, List.set_cons_succ]
      refine wpAnyL_take0 (i := 13) (v := ?_) rfl (by kernel_rfl) (by kernel_rfl) (by kernel_rfl) (by rfl) (fun _ _ _ h => h) (Or.inl ⟨by rfl, ?_⟩) (by assumption) ?_
      rotate_left
      · (intro W _; go_simp; (with_reducible rfl))
      intro hHeld'
      clear hHeld; have hHeld := hHeld'; clear hHeld'
      try simp only [Act.put, List.getElem_toArray, List.getElem_cons_succ, List.getElem_cons_zero, List.setIfInBounds_toArray, List.set_cons_zero, List.set_cons_succ]
      refine wpAnyL_done (by kernel_rfl) ?_ _
      rw [← ints_snoc, ← hRx.out] at rS
      go_wp2
      go_roundw
      case rel => exact ⟨x + 1, by omega, by go_num, rS.out⟩
      case measure => simp [intOf]; omega
    · obtain rfl : x = d := by omega
      have dx : decide ((x : Int) < (x : Int)) = false := decide_eq_false (by omega)
      replace rS := hid rS
      go_wp2_with (
        (go_at_call 143; (with_reducible refine (hpn.out _ _ _ rS.out.o0).mono ?_); rintro e w2 ⟨rfl, hb⟩; replace rS := hid (rS.out.call hb); clear hb))
      go_ret
      exact ⟨rfl, rS.out.bel⟩
set_option maxHeartbeats 2000000 in
set_option maxRecDepth 100000 in
theorem portraitBy_pfr (b3 b2 b1 : Nat) (d n : Nat) (hd : d = 2 ∨ d = 3) (hn : n ≤ 5) (w : World) (F : List Nat → Int)
    (hf : ∀ W, Below w.heap.size w W → ∀ u, u.length < n → (∀ x ∈ u, x < d) → Calls Try.prog 210 #[.string (wstr u), .pointer (some ⟨b1, 0, none⟩), .pointer (some ⟨b2, 0, none⟩), .pointer (some ⟨b3, 0, none⟩)] W fun e W' => e = .returned (.int .i64 (F u)) ∧ Below W.heap.size W W') :
    Calls Try.prog 209 #[.int .i64 d, .int .i64 n, .func (.func 210) #[] #[.pointer (some ⟨b1, 0, none⟩), .pointer (some ⟨b2, 0, none⟩), .pointer (some ⟨b3, 0, none⟩)]] w fun e w' => ∃ v, e = .returned v ∧ Own w' w.heap.size 2 v (ints (byL d F n)) ∧ Below w.heap.size w w' := by
  have hl := hid (fun k (hk : k < n) W => level_any d k (by omega) (by omega) (by omega) (by have := pw5 (n := k) hd (by omega); omega) W)
  have hlen := hid (fun k M => lvl_length d k M)
  have hpos := hid (fun k => pw_pos d (by omega) k)
  have hp5 := hid (fun k (hk : k < n) => pw5 (n := k) hd (by omega))
  have hwl := hid (fun k j => wrd_length d k j)
  have hwm := hid (fun k j => wrd_lt d (by omega) k j)
  have hst := hid (fun k (hk : k < n) => (show start d k ≤ 243 by
    have := start_pw d (by omega) k
    have h2 : start d k ≤ start d k * (d - 1) := Nat.le_mul_of_pos_right _ (by omega)
    have h3 := pw5 (n := k) hd (by omega)
    omega))
  replace hf := hid hf
  have hS := hid (St.start w)
  clear hd
  go_enter Try.func209, Try.ntmps209
  replace hS := hid (hS.out.nilOwn 2)
  go_wp2
  go_loopw [7, 12] (fun o i wr => ∃ k : Nat, k ≤ n ∧ i = .int .i64 k ∧ St w.heap.size w [Asn.own w.heap.size 2 o (ints (byL d F k))] wr) (fun _ i _ => n - (intOf i).toNat)
  case atStart => exact ⟨0, Nat.zero_le _, rfl, hS.out⟩
  case round =>
    obtain ⟨k, hk, rfl, rS⟩ := hrel
    clear hS
    replace rS := hid rS
    by_cases hlk : k < n
    · have dk : decide ((k : Int) < (n : Int)) = true := decide_eq_true (by omega)
      have hlv := hid (hl.out k hlk)
      have hM0 := hpos.out k
      have hM1 := hp5.out k hlk
      have hll := hid (hlen.out k (pw d k))
      have hs1 := hst.out k hlk
      have hget := hid (fun j (hj : j < pw d k) => lvl_get d k (pw d k) j hj)
      have hend := hid (byP_full d F k)
      generalize pw d k = M at *
      go_wp2_with (first
        | (go_at_call 213; (with_reducible refine (hlv.out _).mono ?_); rintro e w1 ⟨v, rfl, hO, hb⟩; obtain ⟨g, cap, rfl, _, _⟩ := hO.blk (fun e => by have h := hll.out; rw [e] at h; simp at h; omega); rw [hll.out] at hO; rw [hll.out]; replace rS := hid (rS.out.callOwn hb hO); clear hO hb))
      go_loopw [7, 19] (fun o i wr => ∃ j : Nat, j ≤ M ∧ i = .int .i64 j ∧ St w.heap.size w [Asn.own w.heap.size 2 o (ints (byP d F k j)), Asn.own w.heap.size 9 (.slice (some ⟨g, 0, none⟩) M cap) (lvl d k M)] wr) (fun _ i _ => M - (intOf i).toNat)
      case atStart => exact ⟨0, Nat.zero_le _, rfl, by rw [byP_zero]; exact rS.out.f1⟩
      case round =>
        obtain ⟨j, hj, rfl, rS⟩ := hrel
        have ck := fun (h : j < M) => rS.o1.cellAt j _ (hget.out j h)
        replace rS := hid rS
        by_cases hlj : j < M
        · have dj : decide ((j : Int) < (M : Int)) = true := decide_eq_true (by omega)
          replace ck := ck hlj
          have hfj := hid (hf.out _ rS.out.bel (wrd d k j) (by rw [hwl.out]; exact hlk) (hwm.out k j))
          have hsn := hid (byP_snoc d F k j)
          have hil := hid (ints_length (byP d F k j))
          have hbl := hid (byP_length d F k j)
          generalize wrd d k j = u at *
          generalize F u = fu at *
          go_wp2_with (first
            | (go_at_call 210; (with_reducible refine (hfj.out).mono ?_); rintro e w2 ⟨rfl, hb⟩; replace rS := hid (rS.out.call hb); clear hb ck hfj)
            | ((with_reducible refine gate (N := 28) rfl ?_); refine St.app 29 2 (.int .i64 0) 8 Try.underlying29 info_i64 rfl (by omega) rfl _ _ rfl _ _ rfl rS.out _ rfl rfl (start d k + j) (by rw [hil.out, hbl.out]) (by omega) ?_; intro gn cn w5 rS'; replace rS := hid rS'; clear rS'))
          rw [← ints_snoc, ← hsn.out] at rS
          go_roundw
          case rel => exact ⟨j + 1, by omega, by go_num, rS.out⟩
          case measure => simp [intOf]; omega
        · obtain rfl : j = M := by omega
          clear ck
          rw [hend.out] at rS
          go_wp2
          go_roundw
          case rel => exact ⟨k + 1, by omega, by go_num, rS.out.f1.drop⟩
          case measure => simp [intOf]; omega
    · obtain rfl : k = n := by omega
      go_wp2
      go_ret
      exact ⟨_, rfl, rS.out.o0, rS.out.bel⟩
set_option maxHeartbeats 4000000 in
set_option maxRecDepth 100000 in
theorem portraitFrom_any (w : World) (d n : Nat) (hd : d = 2 ∨ d = 3) (hn1 : 1 ≤ n) (hn : n ≤ 4) (F : List Nat → List Nat) (hF : Aut d F n) (b0 : Nat) (v : Value) (hO : Own w b0 2 v (nats (pmF d F n))) :
    Calls Try.prog 114 #[.int .i64 d, .int .i64 n, v] w fun e w' => ∃ v', e = .returned (.tuple #[v', .bool true]) ∧ Own w' w.heap.size 2 v' (ints (prtF d F n)) ∧ Below w.heap.size w w' := by
  have hN := pw5 (n := n) hd (by omega)
  have hnl := nats_length (pmF d F n)
  rw [pmF_length] at hnl
  have hgP := prtF_isP hd hF
  obtain ⟨A, ca, rfl, _, _⟩ := hO.form
  rw [hnl] at hO ⊢
  have hS := (((St.arg w hO).newBlk #[.int .i64 d] 2).newBlk #[.int .i64 n] 2).newBlk #[.slice A (pw d n) ca] 29
  simp only [heap_alloc_size] at hS
  replace hS := hid hS
  have hmf : ∀ (fn : Fn) (first cap : Array Value) (w : World), (Instr.makeFunc fn first cap).run Try.prog w = .ok (.func fn first cap) w := fun _ _ _ _ => rfl
  have hT := hid (fun W L (h : St w.heap.size w (Asn.blk (w.heap.size + 1 + 1) #[.slice A (pw d n) ca] 29 :: Asn.blk (w.heap.size + 1) #[.int .i64 n] 2 :: Asn.blk w.heap.size #[.int .i64 d] 2 :: L) W) => (show W.cell? ⟨w.heap.size, 0, none⟩ = some (.int .i64 d) ∧ W.cell? ⟨w.heap.size + 1, 0, none⟩ = some (.int .i64 n) ∧ W.cell? ⟨w.heap.size + 1 + 1, 0, none⟩ = some (.slice A (pw d n) ca) from ⟨blkc h.k2, blkc h.k1, blkc h.k0⟩))
  have hpw := hid (fun W => power_any d n (by omega) (by omega) (by omega) W)
  have hcf := hid (fun W (h : St w.heap.size w [Asn.blk (w.heap.size + 1 + 1) #[.slice A (pw d n) ca] 29, Asn.blk (w.heap.size + 1) #[.int .i64 n] 2, Asn.blk w.heap.size #[.int .i64 d] 2, Asn.own 0 2 (.slice A (pw d n) ca) (nats (pmF d F n))] W) => (by
    have hl : ((pmF d F n).map Int.ofNat).length < 2000000 := by rw [List.length_map, pmF_length]; omega
    have hO2 := h.o3
    rw [nats_ints] at hO2
    have h1 := containsFuncI_pfr w.heap.size (w.heap.size + 1) W 0 (.slice A (pw d n) ca) ((pmF d F n).map Int.ofNat) hO2 hl (fun _ => false) (fun W' hW' x hx => by
      obtain ⟨y, hy, rfl⟩ := List.mem_map.1 hx
      obtain ⟨j, hj, rfl⟩ := List.mem_map.1 hy
      have hj := List.mem_range.1 hj
      have h2 := h.call hW'
      have h3 := num_lt d n (F (wrd d n j)) (by rw [hF.len _ (wrd_lt d (by omega) n j) (by rw [wrd_length]; exact Nat.le_refl _), wrd_length]) (hF.lt _ (wrd_lt d (by omega) n j) (by rw [wrd_length]; exact Nat.le_refl _))
      exact pfr1_any w.heap.size (w.heap.size + 1) W' d n hd (by omega) (blkc h2.k2) (blkc h2.k1) _ ⟨Int.natCast_nonneg _, by show ((num d (F (wrd d n j)) : Nat) : Int) < _; omega⟩)
    rw [show ((pmF d F n).map Int.ofNat).any (fun _ => false) = false from by simp] at h1
    exact h1 : Calls Try.prog 122 #[.slice A (pw d n) ca, .func (.func 208) #[] #[.pointer (some ⟨w.heap.size, 0, none⟩), .pointer (some ⟨w.heap.size + 1, 0, none⟩)]] W fun e w' => e = .returned (.bool false) ∧ Below W.heap.size W w'))
  have hby := hid (fun W (h : St w.heap.size w [Asn.blk (w.heap.size + 1 + 1) #[.slice A (pw d n) ca] 29, Asn.blk (w.heap.size + 1) #[.int .i64 n] 2, Asn.blk w.heap.size #[.int .i64 d] 2, Asn.own 0 2 (.slice A (pw d n) ca) (nats (pmF d F n))] W) =>
    portraitBy_pfr (w.heap.size + 1 + 1) (w.heap.size + 1) w.heap.size d n hd (by omega) W (fun u => pnm (lrow d F u)) (fun W' hW' u hl hu => pfr2_any w.heap.size w W' _ _ _ d n hd hn F hF 0 _ (h.call hW') u hu hl))
  have hpF := hid (show byL d (fun u => pnm (lrow d F u)) n = prtF d F n from rfl)
  have hof := hid (fun W b v (h : Own W b 2 v (ints (prtF d F n))) => ofPortrait_any W d n hd hn b v _ h hgP)
  have hre := hid (show prtP d (prtF d F n) n = pmF d F n from pmF_congr (by omega) fun u hu hx => act_prtF hd hF n u hu (Nat.le_refl _) hx)
  have hgl := hid (show (prtF d F n).length ≤ 40 from by rw [hgP.1]; exact (start_le hd hn).1)
  have hct := hid (fun W b v (h : Own W b 2 v (ints (prtF d F n))) => slContains_any W b v (prtF d F n) (-1) h (by have := hgl.out; omega) false (iff_of_false (by decide) (fun hm => by have := (hgP.2 _ hm).1; omega)))
  have hsq := hid (fun W b1 b2 v1 v2 (h1 : Own W b1 2 v1 (nats (pmF d F n))) (h2 : Own W b2 2 v2 (nats (pmF d F n))) => (by
    rw [nats_ints] at h1 h2
    exact slEqual_any W b1 b2 v1 v2 _ _ h1 h2 (by rw [List.length_map, pmF_length]; omega) (by rw [List.length_map, pmF_length]; omega) true (iff_of_true rfl rfl) : Calls Try.prog 192 #[v1, v2] W fun e w' => e = .returned (.bool true) ∧ ∃ k, w' = W.drewN k))
  rw [hpF.out] at hby
  rw [hre.out] at hof
  replace hO := hid hO
  clear hgP hre hpF
  generalize hgl2 : (prtF d F n).length = gl at *
  have hgl3 := hid (show (ints (prtF d F n)).length = gl from by rw [ints_length]; exact hgl2)
  replace hgl2 := hid hgl2
  generalize hp : pmF d F n = P at *
  replace hp := hid hp
  generalize hN' : pw d n = N at *
  replace hN' := hid hN'
  generalize prtF d F n = G at *
  have qN : ((N : Int) != (N : Int)) = false := by simp
  go_enter Try.func114, Try.ntmps114
  go_upto_region 1 with (fail)
  generalize hb2' : w.heap.size + 1 + 1 = b2 at *
  generalize hb1' : w.heap.size + 1 = b1 at *
  obtain ⟨b0', hb0'⟩ : ∃ b0', b0' = w.heap.size := ⟨_, rfl⟩
  replace hb2' := hid hb2'
  replace hb1' := hid hb1'
  replace hS := hid hS.out.drew
  have T0 := hT.out _ _ hS.out
  rw [← hb0'] at T0
  refine wp_region_heldL (L := [(9, (fun w' : World => w'.cell? ⟨b0', 0, none⟩ = some (.int .i64 d) ∧ w'.cell? ⟨b1, 0, none⟩ = some (.int .i64 n) ∧ w'.cell? ⟨b2, 0, none⟩ = some (.slice A N ca)))]) (by kernel_rfl) (HeldL.cons (fun _ => T0) HeldL.nil) (fun hHeld => ?_)
  generalize World.drew _ = wa at *
  refine wpAnyL_takeP (i := 0) 9 [6, 5, 1] (v := (.slice A N ca)) (fun w' : World => w'.cell? ⟨b0', 0, none⟩ = some (.int .i64 d) ∧ w'.cell? ⟨b1, 0, none⟩ = some (.int .i64 n) ∧ w'.cell? ⟨b2, 0, none⟩ = some (.slice A N ca)) rfl (by kernel_rfl) (by kernel_rfl) (by kernel_rfl) (by rfl) (by kernel_rfl) (by simp) (fun _ _ _ h => h) (Or.inl ⟨by rfl, ?_⟩) (by assumption) ?_
  · (intro W hW; (replace hW := hW.2.2); go_simp)
  intro hHeld'
  clear hHeld; have hHeld := hHeld'; clear hHeld'
  try simp only [Act.put, List.getElem_toArray, List.getElem_cons_succ, List.getElem_cons_zero, List.setIfInBounds_toArray, List.set_cons_zero, List.set_cons_succ]
  refine wpAnyL_take0 (i := 1) (v := ?_) rfl (by kernel_rfl) (by kernel_rfl) (by kernel_rfl) (by rfl) (fun _ _ _ h => h) (Or.inl ⟨by rfl, ?_⟩) (by assumption) ?_
  rotate_left
  · (intro W _; go_simp; (with_reducible rfl))
  intro hHeld'
  clear hHeld; have hHeld := hHeld'; clear hHeld'
  try simp only [Act.put, List.getElem_toArray, List.getElem_cons_succ, List.getElem_cons_zero, List.setIfInBounds_toArray, List.set_cons_zero, List.set_cons_succ]
  refine wpAnyL_takeP (i := 2) 9 [6, 4] (v := (.int .i64 d)) (fun w' : World => w'.cell? ⟨b0', 0, none⟩ = some (.int .i64 d) ∧ w'.cell? ⟨b1, 0, none⟩ = some (.int .i64 n) ∧ w'.cell? ⟨b2, 0, none⟩ = some (.slice A N ca)) rfl (by kernel_rfl) (by kernel_rfl) (by kernel_rfl) (by rfl) (by kernel_rfl) (by simp) (fun _ _ _ h => h) (Or.inl ⟨by rfl, ?_⟩) (by assumption) ?_
  · (intro W hW; (replace hW := hW.1; rw [hb0'] at hW); go_simp)
  intro hHeld'
  clear hHeld; have hHeld := hHeld'; clear hHeld'
  try simp only [Act.put, List.getElem_toArray, List.getElem_cons_succ, List.getElem_cons_zero, List.setIfInBounds_toArray, List.set_cons_zero, List.set_cons_succ]
  refine wpAnyL_takeP (i := 3) 9 [6, 4] (v := (.int .i64 n)) (fun w' : World => w'.cell? ⟨b0', 0, none⟩ = some (.int .i64 d) ∧ w'.cell? ⟨b1, 0, none⟩ = some (.int .i64 n) ∧ w'.cell? ⟨b2, 0, none⟩ = some (.slice A N ca)) rfl (by kernel_rfl) (by kernel_rfl) (by kernel_rfl) (by rfl) (by kernel_rfl) (by simp) (fun _ _ _ h => h) (Or.inl ⟨by rfl, ?_⟩) (by assumption) ?_
  · (intro W hW; (replace hW := hW.2.1); go_simp)
  intro hHeld'
  clear hHeld; have hHeld := hHeld'; clear hHeld'
  try simp only [Act.put, List.getElem_toArray, List.getElem_cons_succ, List.getElem_cons_zero, List.setIfInBounds_toArray, List.set_cons_zero, List.set_cons_succ]
  refine wpAnyL_ready (rs := [4]) (by kernel_rfl) (by simp) ?_
  refine AllReadyL.cons rfl (fun K hK => ?_) AllReadyL.nil
  go_simp
  (with_reducible refine (hpw.out _).mono ?_)
  rintro e w5 ⟨rfl, rfl⟩
  go_simp
  refine hK.out _ _ (HeldL.cons (fun _ => T0) HeldL.nil) (fun hHeld' => ?_)
  clear hK K hHeld; have hHeld := hHeld'; clear hHeld'
  try simp only [Act.put, List.getElem_toArray, List.getElem_cons_succ, List.getElem_cons_zero, List.setIfInBounds_toArray, List.set_cons_zero, List.set_cons_succ]
  refine wpAnyL_take0 (i := 5) (v := ?_) rfl (by kernel_rfl) (by kernel_rfl) (by kernel_rfl) (by rfl) (fun _ _ _ h => h) (Or.inl ⟨by rfl, ?_⟩) (by assumption) ?_
  rotate_left
  · (intro W _; go_simp; (with_reducible rfl))
  intro hHeld'
  clear hHeld; have hHeld := hHeld'; clear hHeld'
  try simp only [Act.put, List.getElem_toArray, List.getElem_cons_succ, List.getElem_cons_zero, List.setIfInBounds_toArray, List.set_cons_zero, List.set_cons_succ]
  refine wpAnyL_take0 (i := 6) (v := ?_) rfl (by kernel_rfl) (by kernel_rfl) (by kernel_rfl) (by rfl) (fun _ _ _ h => h) (Or.inl ⟨by rfl, ?_⟩) (by assumption) ?_
  rotate_left
  · (intro W _; go_simp; (with_reducible rfl))
  intro hHeld'
  clear hHeld; have hHeld := hHeld'; clear hHeld'
  try simp only [Act.put, List.getElem_toArray, List.getElem_cons_succ, List.getElem_cons_zero, List.setIfInBounds_toArray, List.set_cons_zero, List.set_cons_succ]
  refine wpAnyL_takeP (i := 7) 9 [] (v := (.slice A N ca)) (fun w' : World => w'.cell? ⟨b0', 0, none⟩ = some (.int .i64 d) ∧ w'.cell? ⟨b1, 0, none⟩ = some (.int .i64 n) ∧ w'.cell? ⟨b2, 0, none⟩ = some (.slice A N ca)) rfl (by kernel_rfl) (by kernel_rfl) (by kernel_rfl) (by rfl) (by kernel_rfl) (by simp) (fun _ _ _ h => h) (Or.inl ⟨by rfl, ?_⟩) (by assumption) ?_
  · (intro W hW; (replace hW := hW.2.2); go_simp)
  intro hHeld'
  clear hHeld; have hHeld := hHeld'; clear hHeld'
  try simp only [Act.put, List.getElem_toArray, List.getElem_cons_succ, List.getElem_cons_zero, List.setIfInBounds_toArray, List.set_cons_zero, List.set_cons_succ]
  refine wpAnyL_take0 (i := 8) (v := ?_) rfl (by kernel_rfl) (by kernel_rfl) (by kernel_rfl) (by rfl) (fun _ _ _ h => h) (Or.inl ⟨by rfl, ?_⟩) (by assumption) ?_
  rotate_left
  · (intro W _; go_simp; (with_reducible rfl))
  intro hHeld'
  clear hHeld; have hHeld := hHeld'; clear hHeld'
  try simp only [Act.put, List.getElem_toArray, List.getElem_cons_succ, List.getElem_cons_zero, List.setIfInBounds_toArray, List.set_cons_zero, List.set_cons_succ]
  refine wpAnyL_ready (rs := [9]) (by kernel_rfl) (by simp) ?_
  refine AllReadyL.cons rfl (fun K hK => ?_) AllReadyL.nil
  go_simp
  (with_reducible refine (hcf.out _ hS.out).mono ?_)
  rintro e w6 ⟨rfl, hb⟩
  replace hS := hid (hS.out.call hb)
  clear hb T0
  go_simp
  refine hK.out _ _ (HeldL.cons (fun h => absurd h (by decide +kernel)) HeldL.nil) (fun hHeld' => ?_)
  clear hK K hHeld; have hHeld := hHeld'; clear hHeld'
  try simp only [Act.put, List.getElem_toArray, List.getElem_cons_succ, List.getElem_cons_zero, List.setIfInBounds_toArray, List.set_cons_zero, List.set_cons_succ]
  refine wpAnyL_take0 (i := 10) (v := ?_) rfl (by kernel_rfl) (by kernel_rfl) (by kernel_rfl) (by rfl) (fun _ _ _ h => h) (Or.inl ⟨by rfl, ?_⟩) (by assumption) ?_
  rotate_left
  · (intro W _; go_simp; (with_reducible rfl))
  intro hHeld'
  clear hHeld; have hHeld := hHeld'; clear hHeld'
  try simp only [Act.put, List.getElem_toArray, List.getElem_cons_succ, List.getElem_cons_zero, List.setIfInBounds_toArray, List.set_cons_zero, List.set_cons_succ]
  refine wpAnyL_done (by kernel_rfl) ?_ _
  have c1 := (hT.out _ _ hS.out).1
  have c2 := (hT.out _ _ hS.out).2.1
  have c3 := (hT.out _ _ hS.out).2.2
  go_upto_region 4 with (
    (go_at_call 209; (with_reducible refine (hby.out _ hS.out).mono ?_); rintro e w7 ⟨vo, rfl, hO2, hb⟩; obtain ⟨Ao, co, rfl, _, _⟩ := hO2.form; replace hS := hid (hS.out.callOwn hb hO2); clear hb hO2 c1 c2 c3))
  rw [hgl3.out] at hS ⊢
  replace hS := hid hS.out.drew
  have T0 : w7.drew.cell? ⟨b0', 0, none⟩ = some (.int .i64 d) ∧ w7.drew.cell? ⟨b1, 0, none⟩ = some (.int .i64 n) ∧ w7.drew.cell? ⟨b2, 0, none⟩ = some (.slice A N ca) := by rw [hb0']; exact ⟨blkc hS.out.k3, blkc hS.out.k2, blkc hS.out.k1⟩
  refine wp_region_heldL (L := [(8, (fun w' : World => w'.cell? ⟨b0', 0, none⟩ = some (.int .i64 d) ∧ w'.cell? ⟨b1, 0, none⟩ = some (.int .i64 n) ∧ w'.cell? ⟨b2, 0, none⟩ = some (.slice A N ca)))]) (by kernel_rfl) (HeldL.cons (fun _ => T0) HeldL.nil) (fun hHeld => ?_)
  generalize w7.drew = wb at *
  refine wpAnyL_take0 (i := 0) (v := ?_) rfl (by kernel_rfl) (by kernel_rfl) (by kernel_rfl) (by rfl) (fun _ _ _ h => h) (Or.inl ⟨by rfl, ?_⟩) (by assumption) ?_
  rotate_left
  · (intro W _; go_simp; (with_reducible rfl))
  intro hHeld'
  clear hHeld; have hHeld := hHeld'; clear hHeld'
  try simp only [Act.put, List.getElem_toArray, List.getElem_cons_succ, List.getElem_cons_zero, List.setIfInBounds_toArray, List.set_cons_zero, List.set_cons_succ]
  refine wpAnyL_ready (rs := [1]) (by kernel_rfl) (by simp) ?_
  refine AllReadyL.cons rfl (fun K hK => ?_) AllReadyL.nil
  go_simp
  (with_reducible refine (hct.out _ _ _ hS.out.o0).mono ?_)
  rintro e w5 ⟨rfl, rfl⟩
  go_simp
  refine hK.out _ _ (HeldL.cons (fun _ => T0) HeldL.nil) (fun hHeld' => ?_)
  clear hK K hHeld; have hHeld := hHeld'; clear hHeld'
  try simp only [Act.put, List.getElem_toArray, List.getElem_cons_succ, List.getElem_cons_zero, List.setIfInBounds_toArray, List.set_cons_zero, List.set_cons_succ]
  refine wpAnyL_take0 (i := 2) (v := ?_) rfl (by kernel_rfl) (by kernel_rfl) (by kernel_rfl) (by rfl) (fun _ _ _ h => h) (Or.inl ⟨by rfl, ?_⟩) (by assumption) ?_
  rotate_left
  · (intro W _; go_simp; (with_reducible rfl))
  intro hHeld'
  clear hHeld; have hHeld := hHeld'; clear hHeld'
  try simp only [Act.put, List.getElem_toArray, List.getElem_cons_succ, List.getElem_cons_zero, List.setIfInBounds_toArray, List.set_cons_zero, List.set_cons_succ]
  refine wpAnyL_takeP (i := 3) 8 [6] (v := (.int .i64 d)) (fun w' : World => w'.cell? ⟨b0', 0, none⟩ = some (.int .i64 d) ∧ w'.cell? ⟨b1, 0, none⟩ = some (.int .i64 n) ∧ w'.cell? ⟨b2, 0, none⟩ = some (.slice A N ca)) rfl (by kernel_rfl) (by kernel_rfl) (by kernel_rfl) (by rfl) (by kernel_rfl) (by simp) (fun _ _ _ h => h) (Or.inl ⟨by rfl, ?_⟩) (by assumption) ?_
  · (intro W hW; (replace hW := hW.1; rw [hb0'] at hW); go_simp)
  intro hHeld'
  clear hHeld; have hHeld := hHeld'; clear hHeld'
  try simp only [Act.put, List.getElem_toArray, List.getElem_cons_succ, List.getElem_cons_zero, List.setIfInBounds_toArray, List.set_cons_zero, List.set_cons_succ]
  refine wpAnyL_takeP (i := 4) 8 [6] (v := (.int .i64 n)) (fun w' : World => w'.cell? ⟨b0', 0, none⟩ = some (.int .i64 d) ∧ w'.cell? ⟨b1, 0, none⟩ = some (.int .i64 n) ∧ w'.cell? ⟨b2, 0, none⟩ = some (.slice A N ca)) rfl (by kernel_rfl) (by kernel_rfl) (by kernel_rfl) (by rfl) (by kernel_rfl) (by simp) (fun _ _ _ h => h) (Or.inl ⟨by rfl, ?_⟩) (by assumption) ?_
  · (intro W hW; (replace hW := hW.2.1); go_simp)
  intro hHeld'
  clear hHeld; have hHeld := hHeld'; clear hHeld'
  try simp only [Act.put, List.getElem_toArray, List.getElem_cons_succ, List.getElem_cons_zero, List.setIfInBounds_toArray, List.set_cons_zero, List.set_cons_succ]
  refine wpAnyL_take0 (i := 5) (v := ?_) rfl (by kernel_rfl) (by kernel_rfl) (by kernel_rfl) (by rfl) (fun _ _ _ h => h) (Or.inl ⟨by rfl, ?_⟩) (by assumption) ?_
  rotate_left
  · (intro W _; go_simp; (with_reducible rfl))
  intro hHeld'
  clear hHeld; have hHeld := hHeld'; clear hHeld'
  try simp only [Act.put, List.getElem_toArray, List.getElem_cons_succ, List.getElem_cons_zero, List.setIfInBounds_toArray, List.set_cons_zero, List.set_cons_succ]
  refine wpAnyL_takeP (i := 7) 8 [] (v := (.slice A N ca)) (fun w' : World => w'.cell? ⟨b0', 0, none⟩ = some (.int .i64 d) ∧ w'.cell? ⟨b1, 0, none⟩ = some (.int .i64 n) ∧ w'.cell? ⟨b2, 0, none⟩ = some (.slice A N ca)) rfl (by kernel_rfl) (by kernel_rfl) (by kernel_rfl) (by rfl) (by kernel_rfl) (by simp) (fun _ _ _ h => h) (Or.inl ⟨by rfl, ?_⟩) (by assumption) ?_
  · (intro W hW; (replace hW := hW.2.2); go_simp)
  intro hHeld'
  clear hHeld; have hHeld := hHeld'; clear hHeld'
  try simp only [Act.put, List.getElem_toArray, List.getElem_cons_succ, List.getElem_cons_zero, List.setIfInBounds_toArray, List.set_cons_zero, List.set_cons_succ]
  refine wpAnyL_ready (rs := [6]) (by kernel_rfl) (by simp) ?_
  refine AllReadyL.cons rfl (fun K hK => ?_) AllReadyL.nil
  go_simp
  (with_reducible refine (hof.out _ _ _ hS.out.o0).mono ?_)
  rintro e w8 ⟨v3, rfl, hO3, hb⟩
  obtain ⟨A3, c3, rfl, _, _⟩ := hO3.form
  replace hS := hid (hS.out.callOwn hb hO3)
  clear hb hO3
  rw [hnl] at hS
  go_simp
  refine hK.out _ _ (HeldL.cons (fun _ => by rw [hb0']; exact ⟨blkc hS.out.k4, blkc hS.out.k3, blkc hS.out.k2⟩) HeldL.nil) (fun hHeld' => ?_)
  clear hK K hHeld; have hHeld := hHeld'; clear hHeld'
  try simp only [Act.put, List.getElem_toArray, List.getElem_cons_succ, List.getElem_cons_zero, List.setIfInBounds_toArray, List.set_cons_zero, List.set_cons_succ]
  refine wpAnyL_ready (rs := [8]) (by kernel_rfl) (by simp) ?_
  refine AllReadyL.cons rfl (fun K hK => ?_) AllReadyL.nil
  go_simp
  (with_reducible refine (hsq.out _ _ _ _ _ hS.out.o0 hS.out.o5).mono ?_)
  rintro e w9 ⟨rfl, k9, rfl⟩
  replace hS := hid (hS.out.drewN k9)
  clear T0
  go_simp
  refine hK.out _ _ (HeldL.cons (fun h => absurd h (by decide +kernel)) HeldL.nil) (fun hHeld' => ?_)
  clear hK K hHeld; have hHeld := hHeld'; clear hHeld'
  try simp only [Act.put, List.getElem_toArray, List.getElem_cons_succ, List.getElem_cons_zero, List.setIfInBounds_toArray, List.set_cons_zero, List.set_cons_succ]
  refine wpAnyL_take0 (i := 9) (v := ?_) rfl (by kernel_rfl) (by kernel_rfl) (by kernel_rfl) (by rfl) (fun _ _ _ h => h) (Or.inl ⟨by rfl, ?_⟩) (by assumption) ?_
  rotate_left
  · (intro W _; go_simp; (with_reducible rfl))
  intro hHeld'
  clear hHeld; have hHeld := hHeld'; clear hHeld'
  try simp only [Act.put, List.getElem_toArray, List.getElem_cons_succ, List.getElem_cons_zero, List.setIfInBounds_toArray, List.set_cons_zero, List.set_cons_succ]
  refine wpAnyL_take0 (i := 10) (v := ?_) rfl (by kernel_rfl) (by kernel_rfl) (by kernel_rfl) (by rfl) (fun _ _ _ h => h) (Or.inl ⟨by rfl, ?_⟩) (by assumption) ?_
  rotate_left
  · (intro W _; go_simp; (with_reducible rfl))
  intro hHeld'
  clear hHeld; have hHeld := hHeld'; clear hHeld'
  try simp only [Act.put, List.getElem_toArray, List.getElem_cons_succ, List.getElem_cons_zero, List.setIfInBounds_toArray, List.set_cons_zero, List.set_cons_succ]
  refine wpAnyL_done (by kernel_rfl) ?_ _
  go_wp2
  go_ret2
  exact ⟨_, rfl, hS.out.o1, hS.out.bel⟩
end Go.Proofs.Ytbmkkaecfogmoaa
