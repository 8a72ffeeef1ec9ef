/- What the proof of FnMinimal leans on, part 16 of 21. -/
import Derived.Test.YtbmkkaecfogmoaaZFnMinimalO
import Derived.Deep.Cut
import Derived.Deep.CutRange
/- The machine of a state of a large machine: the reference's search. -/
namespace Go.Proofs.Ytbmkkaecfogmoaa
open Go.RowKit
set_option linter.unusedVariables false
set_option linter.unusedSimpArgs false

/-- The numbers of what has been met. -/
def nmL (st : List Nat) (n : Nat) : List Int := (List.range n).map fun c => if c ∈ st then ((st.idxOf c : Nat) : Int) else -1
theorem nmL_length (st : List Nat) (n : Nat) : (nmL st n).length = n := by simp [nmL]
theorem nmL_get (st : List Nat) (n c : Nat) (h : c < n) : (ints (nmL st n))[c]? = some (.int .i64 (if c ∈ st then ((st.idxOf c : Nat) : Int) else -1)) := by simp [ints, nmL, h]
theorem nmL_add (st : List Nat) (n c : Nat) (hc : c ∉ st) : (ints (nmL st n)).set c (.int .i64 (st.length : Nat)) = ints (nmL (st ++ [c]) n) := by
  apply List.ext_getElem?
  intro i
  rw [List.getElem?_set]
  by_cases h : i < n
  · rw [nmL_get _ _ _ h, nmL_get _ _ _ h]
    by_cases e : c = i
    · subst e
      rw [if_pos rfl, if_pos (by rw [ints_length, nmL_length]; exact h), if_pos (by simp), List.idxOf_append, if_neg hc]
      simp
    · rw [if_neg e]
      by_cases hm : i ∈ st
      · rw [if_pos hm, if_pos (by simp [hm]), List.idxOf_append, if_pos hm]
      · rw [if_neg hm, if_neg (by simp [hm]; exact fun e' => e e'.symm)]
  · have h1 : ∀ l, (ints (nmL l n))[i]? = none := fun l => List.getElem?_eq_none (by rw [ints_length, nmL_length]; omega)
    rw [h1, h1]
    by_cases e : c = i
    · rw [if_pos e, if_neg (by rw [ints_length, nmL_length]; omega)]
    · rw [if_neg e]
/-- A list that is filled with -1. -/
def filM (q n : Nat) : List Int := (List.range n).map fun j => if j < q then -1 else 0
theorem filM_length (q n : Nat) : (filM q n).length = n := by simp [filM]
theorem filM_zero (n : Nat) : List.replicate n (Value.int .i64 0) = ints (filM 0 n) := by
  apply List.ext_getElem?
  intro i
  by_cases h : i < n
  · simp [ints, filM, h]
  · simp [ints, filM, h]
theorem filM_set (q n : Nat) : (ints (filM q n)).set q (.int .i64 (-1)) = ints (filM (q + 1) n) := by
  apply List.ext_getElem?
  intro i
  rw [List.getElem?_set]
  by_cases hi : q = i
  · subst hi
    by_cases h : q < n
    · rw [if_pos rfl, if_pos (by simp [ints, filM]; exact h)]
      simp [ints, filM, h]
    · rw [if_pos rfl, if_neg (by simp [ints, filM]; omega)]
      simp [ints, filM, h]
  · rw [if_neg hi]
    by_cases h : i < n
    · simp only [ints, filM, List.getElem?_map, List.getElem?_range h, Option.map_some]
      by_cases hl : i < q
      · rw [if_pos hl, if_pos (by omega)]
      · rw [if_neg hl, if_neg (by omega)]
    · simp [ints, filM, h]
theorem filM_all (n : Nat) : filM n n = nmL [] n := by
  unfold filM nmL
  apply List.map_congr_left
  intro j hj
  rw [if_pos (List.mem_range.1 hj)]
  simp

/-- The reference's machine as far as it is written: the row i has its outputs already. -/
def gthS (T : Tab) (c : Nat → Nat) (st : List Nat) (i x : Nat) : Mach := ⟨T.L, st.length, (gthP T c st i x).nx, (gthP T c st (i + 1) 0).ot⟩
theorem gthS_row (T : Tab) (c : Nat → Nat) (st : List Nat) (i : Nat) (hL : T.L ≤ 3) : gthS T c st i T.L = gthP T c st (i + 1) 0 := by
  have h := gthP_row T c st i hL
  unfold gthS
  rw [h]
  rfl
theorem gthS_step (T : Tab) (c : Nat → Nat) (st : List Nat) (i x s : Nat) (hx : x < T.L) (hL : T.L ≤ 3) (hs : st[i]? = some s) :
    gthS T c st i (x + 1) = { (gthS T c st i x) with nx := upd (gthS T c st i x).nx (i * 3 + x) (st.idxOf (c (T.nx s x))) } := by
  have h := gthP_step T c st i x s hx hL hs
  unfold gthS
  rw [h]
theorem gthS_out (T : Tab) (c : Nat → Nat) (st : List Nat) (i s a0 a1 a2 : Nat) (hs : st[i]? = some s) (h0 : a0 = if 0 < T.L then T.ot s 0 else 0) (h1 : a1 = if 1 < T.L then T.ot s 1 else 0) (h2 : a2 = if 2 < T.L then T.ot s 2 else 0) :
    gthS T c st i 0 = { (gthP T c st i 0) with ot := upd (upd (upd (gthP T c st i 0).ot (i * 3 + 0) a0) (i * 3 + 1) a1) (i * 3 + 2) a2 } := by
  have hg : st.getD i 0 = s := by rw [List.getD_eq_getElem?_getD, hs]; rfl
  unfold gthS gthP upd
  dsimp only
  congr 1
  funext p
  by_cases e : p / 3 = i
  · have hp : p = i * 3 + 0 ∨ p = i * 3 + 1 ∨ p = i * 3 + 2 := by omega
    rcases hp with rfl | rfl | rfl
    · rw [if_neg (show ¬ i * 3 + 0 = i * 3 + 2 by omega), if_neg (show ¬ i * 3 + 0 = i * 3 + 1 by omega), if_pos rfl, h0, show (i * 3 + 0) / 3 = i by omega, show (i * 3 + 0) % 3 = 0 by omega, hg]
      by_cases hl : 0 < T.L
      · rw [if_pos hl, if_pos ⟨.inl (by omega), hl⟩]
      · rw [if_neg hl, if_neg (fun h => hl h.2)]
    · rw [if_neg (show ¬ i * 3 + 1 = i * 3 + 2 by omega), if_pos rfl, h1, show (i * 3 + 1) / 3 = i by omega, show (i * 3 + 1) % 3 = 1 by omega, hg]
      by_cases hl : 1 < T.L
      · rw [if_pos hl, if_pos ⟨.inl (by omega), hl⟩]
      · rw [if_neg hl, if_neg (fun h => hl h.2)]
    · rw [if_pos rfl, h2, show (i * 3 + 2) / 3 = i by omega, show (i * 3 + 2) % 3 = 2 by omega, hg]
      by_cases hl : 2 < T.L
      · rw [if_pos hl, if_pos ⟨.inl (by omega), hl⟩]
      · rw [if_neg hl, if_neg (fun h => hl h.2)]
  · rw [if_neg (show ¬ p = i * 3 + 2 by omega), if_neg (show ¬ p = i * 3 + 1 by omega), if_neg (show ¬ p = i * 3 + 0 by omega)]
    by_cases h : (p / 3 < i + 1 ∨ p / 3 = i + 1 ∧ p % 3 < 0) ∧ p % 3 < T.L
    · rw [if_pos h, if_pos ⟨by omega, h.2⟩]
    · rw [if_neg h, if_neg (fun h' => h ⟨by omega, h'.2⟩)]
def fromB (T : Tab) (q : Nat) : Bool := decide ((fin T (fix T) q).length ≤ 16)
theorem ret_mach_v {fn : Func} {R : Ending → World → Prop} {a : Act} {w : World} {p q : Nat} (h : fn.results = #[.cell p 27, .tmp q]) {g t : Nat} {m : Mach} {v : Value}
    (hp : a.tmps.getD p undef = .pointer (some ⟨g, 0, none⟩)) (hq : a.tmps.getD q undef = v) (hm : MB w t g m) (hdf : a.defers = []) (hR : R (.returned (.tuple #[.agg (mcells m), v])) w) : bodyPost Try.prog fn R .ret a w := by
  refine bodyPost_ret (v := .tuple #[.agg (mcells m), v]) ?_ hdf hR
  have hp' : a.tmps[p]?.getD undef = .pointer (some ⟨g, 0, none⟩) := by simpa using hp
  have hq' : a.tmps[q]?.getD undef = v := by simpa using hq
  have := run_loadVar_row (P := Try.prog) w g t 27 (mcells m) (0, 0) _ hm.heap Try.underlying27 rfl (by rw [size_mcells]; exact sz_mach)
  simp [results, h, hp', hq', asAddr, this]

set_option maxHeartbeats 8000000 in
set_option maxRecDepth 100000 in
theorem l07Start_any (w : World) (base q : Nat) (vN vO : Value) (T : Tab) (hT : T.Ok) (hL : T.L ≤ 3) (hL0 : 0 < T.L) (hn : T.n < 100000) (hot : ∀ q x, q < T.n → x < T.L → T.ot q x < 256) (hG : LG w base vN vO T) (hq : q < T.n) :
    Calls Try.prog 237 #[.agg #[.int .i64 T.L, vN, vO], .int .i64 q] w fun e w' => e = .returned (.tuple #[.agg (mcells (fromM T q)), .bool (fromB T q)]) ∧ Below w.heap.size w w' := by
  have hz := zero_mach
  have hpos := hT.pos
  have hcl := hid (fun W hW => l07Classes_any W base vN vO T hT hL hL0 hn hot hW)
  obtain ⟨gN, cN, rfl⟩ := hG.1.blk hpos
  obtain ⟨gO, cO, rfl⟩ := hG.2.blk hpos
  have hGW := hid (fun W (hb : Below w.heap.size w W) => hG.below hb)
  have hcN := hid (fun W (hb : Below w.heap.size w W) q x (hq : q < T.n) (hx : x < T.L) => (hG.below hb).1.cellAt (q * 3 + x) _ (rcs_in .i64 T.nx T.L T.n q x hq hx hL))
  have hrO := hid (fun W (hb : Below w.heap.size w W) q (hq : q < T.n) => (hG.below hb).2.range (q * 3) (rc1 .u8 T.ot T.L q) (rcs_row .u8 T.ot T.L T.n q hq))
  have hS := hid (((St.start w).newBlk #[.int .i64 T.L, .slice (some ⟨gN, 0, none⟩) T.n cN, .slice (some ⟨gO, 0, none⟩) T.n cO] 232).newMB ⟨0, 0, fun _ => 0, fun _ => 0⟩ 27)
  rw [heap_alloc_size] at hS
  have hNew := hid (fun L W (h : St w.heap.size w L W) => h.newMB ⟨0, 0, fun _ => 0, fun _ => 0⟩ 27)
  have hmk := fun W : World => run_make_row' (P := Try.prog) 29 2 (.int .i64 0) 8 Try.underlying29 info_i64 rfl .i64 .i64 T.n (by omega) (by omega) W
  have hmc := hid (toList_madeCells_one (.int .i64 0) T.n)
  generalize madeCells #[.int .i64 0] T.n = mc at *
  have hmcs := hid (show mc.size = T.n by rw [← Array.length_toList, hmc.out, List.length_replicate])
  have hfl := hid (fun j (hj : j < T.n) => (show (nats ((List.range T.n).map (fix T)))[j]? = some (.int .i64 (fix T j : Nat)) by simp [nats, hj]))
  have hfn := hid (show (nats ((List.range T.n).map (fix T))).length = T.n by simp [nats])
  have hflt := hid (fun j (hj : j < T.n) => fix_lt (T := T) j hj)
  have huq := hid (bfs_uniq hT (fun q hq => fix_lt q hq) q hq)
  have hum := hid (fun s hs st (h : Uniq T.n st) x hx => Uniq.meets (T := T) (c := fix T) hT (fun q hq => fix_lt q hq) (s := s) hs h x hx)
  have hfin := hid (fun i hi => fin_of hT (c := fix T) (fun q hq => fix_lt q hq) (q := q) (i := i) hq hi)
  have hclo := hid (fin_closed hT (c := fix T) (fun q hq => fix_lt q hq) hq)
  have hsm := hid (fun i s hi => bfs_some T (fix T) (q := q) (i := i) (s := s) hi)
  have hnx := hid (fun q x (hq : q < T.n) (hx : x < T.L) => hT.nx q x hq hx)
  have hlit := hid (fun q (hq : q < T.n) => rc1_lit256 T.ot T.L q (fun x hx => hot q x hq hx))
  have hstp := hid (fun st i x s hx hs => gthS_step T (fix T) st i x s hx hL hs)
  have hrow := hid (fun st i => gthS_row T (fix T) st i hL)
  have hgo := hid (fun st i s a0 a1 a2 hs h0 h1 h2 => gthS_out T (fix T) st i s a0 a1 a2 hs h0 h1 h2)
  have hgz := hid (fun st => gthP_zero T (fix T) st)
  replace hT := hid hT
  clear hG
  generalize hFL : nats ((List.range T.n).map (fix T)) = FL at *
  replace hFL := hid hFL
  generalize hLL : T.L = L at *
  replace hLL := hid hLL
  generalize hnn : T.n = n at *
  replace hnn := hid hnn
  generalize hzs : mcells ⟨0, 0, fun _ => 0, fun _ => 0⟩ = zs at *
  replace hzs := hid hzs
  go_enter Try.func237, Try.ntmps237
  go_upto_region 1 with (fail)
  generalize (w.alloc (.cells #[.int .i64 L, .slice (some ⟨gN, 0, none⟩) n cN, .slice (some ⟨gO, 0, none⟩) n cO] 232)).alloc (.cells zs 27) = wa at *
  go_cut [6, 7] from 16 to 21 (fun c d wr => ∃ gC cC gM, c = .slice (some ⟨gC, 0, none⟩) n cC ∧ d = .slice (some ⟨gM, 0, none⟩) n n ∧ St w.heap.size w [Asn.own w.heap.size 2 (.slice (some ⟨gM, 0, none⟩) n n) (ints (filM 0 n)), Asn.own w.heap.size 2 (.slice (some ⟨gC, 0, none⟩) n cC) FL, Asn.mb 27 (w.heap.size + 1) ⟨0, 0, fun _ => 0, fun _ => 0⟩, Asn.blk w.heap.size #[.int .i64 L, .slice (some ⟨gN, 0, none⟩) n cN, .slice (some ⟨gO, 0, none⟩) n cO] 232] wr)
  case first =>
    have hrg := hid (fun (W : World) (h : W.heap[w.heap.size]? = some (.cells #[.int .i64 L, .slice (some ⟨gN, 0, none⟩) n cN, .slice (some ⟨gO, 0, none⟩) n cO] 232 (0, 0))) => (show W.rangeAt w.heap.size 0 [.int .i64 L, .slice (some ⟨gN, 0, none⟩) n cN, .slice (some ⟨gO, 0, none⟩) n cO] from fun j u hu => by rw [Nat.zero_add, cell_of_row _ _ j _ _ _ h]; simpa using hu))
    replace hS := hid hS.out.drew
    have hT0 := hrg.out _ hS.out.k1
    refine wp_region_heldL (L := [(1, (fun w' : World => w'.rangeAt w.heap.size 0 [.int .i64 L, .slice (some ⟨gN, 0, none⟩) n cN, .slice (some ⟨gO, 0, none⟩) n cO])), (5, (fun w' : World => w'.rangeAt w.heap.size 0 [.int .i64 L, .slice (some ⟨gN, 0, none⟩) n cN, .slice (some ⟨gO, 0, none⟩) n cO]))]) (by kernel_rfl) (HeldL.cons (fun _ => hT0) (HeldL.cons (fun _ => hT0) HeldL.nil)) (fun hHeld => ?_)
    clear hT0
    generalize wa.drew = wb at *
    refine wpAnyL_takeP (i := 0) 1 [] (v := (.agg #[.int .i64 L, .slice (some ⟨gN, 0, none⟩) n cN, .slice (some ⟨gO, 0, none⟩) n cO])) (fun w' : World => w'.rangeAt w.heap.size 0 [.int .i64 L, .slice (some ⟨gN, 0, none⟩) n cN, .slice (some ⟨gO, 0, none⟩) n cO]) rfl (by kernel_rfl) (by kernel_rfl) (by kernel_rfl) (by rfl) (by kernel_rfl) (by simp) (fun _ _ _ h => h) (Or.inl ⟨by rfl, ?_⟩) (by assumption) ?_
    · (intro W hW; exact exec_load _ rfl rfl (run_loadVar_mid _ _ _ _ _ _ hW Try.underlying232 rfl sz_large))
    intro hHeld'
    clear hHeld; have hHeld := hHeld'; clear hHeld'
    try simp only [Act.put, List.setIfInBounds_toArray, List.set_cons_zero, List.set_cons_succ]
    refine wpAnyL_take0 (i := 2) (v := ?_) rfl (by kernel_rfl) (by kernel_rfl) (by kernel_rfl) (by rfl) (fun _ _ _ h => h) (Or.inl ⟨by rfl, ?_⟩) (by assumption) ?_
    rotate_left
    · (intro W _; go_simp; (with_reducible rfl))
    intro hHeld'
    clear hHeld; have hHeld := hHeld'; clear hHeld'
    try simp only [Act.put, List.setIfInBounds_toArray, List.set_cons_zero, List.set_cons_succ]
    refine wpAnyL_takeP (i := 3) 5 [4] (v := ?_) (fun w' : World => w'.rangeAt w.heap.size 0 [.int .i64 L, .slice (some ⟨gN, 0, none⟩) n cN, .slice (some ⟨gO, 0, none⟩) n cO]) rfl (by kernel_rfl) (by kernel_rfl) (by kernel_rfl) (by rfl) (by kernel_rfl) (by simp) (fun _ _ _ h => h) (Or.inl ⟨by rfl, ?_⟩) (by assumption) ?_
    rotate_left
    · (intro W hW; (have h1 : W.cell? ⟨w.heap.size, 1, none⟩ = some (.slice (some ⟨gN, 0, none⟩) n cN) := hW 1 _ rfl); go_simp; (with_reducible rfl))
    intro hHeld'
    clear hHeld; have hHeld := hHeld'; clear hHeld'
    try simp only [Act.put, List.setIfInBounds_toArray, List.set_cons_zero, List.set_cons_succ]
    refine wpAnyL_take0 (i := 4) (v := ?_) rfl (by kernel_rfl) (by kernel_rfl) (by kernel_rfl) (by rfl) (fun _ _ _ h => h) (Or.inl ⟨by rfl, ?_⟩) (by assumption) ?_
    rotate_left
    · (intro W _; go_simp; (with_reducible rfl))
    intro hHeld'
    clear hHeld; have hHeld := hHeld'; clear hHeld'
    try simp only [Act.put, List.setIfInBounds_toArray, List.set_cons_zero, List.set_cons_succ]
    refine wpAnyL_ready (rs := [1, 5]) (by kernel_rfl) (by simp) ?_
    refine AllReadyL.cons rfl (fun K hK => ?_) ?_
    · go_simp
      go_at_call 246
      (with_reducible refine (hcl.out _ (hGW.out _ hS.out.bel)).mono ?_)
      rintro e w1 ⟨vC, rfl, hO, hb⟩
      obtain ⟨gC, cC, rfl, _, _⟩ := hO.blk (fun e => by have h1 := congrArg List.length e; rw [hfn.out, List.length_nil] at h1; omega)
      rw [hfn.out] at hO
      rw [hfn.out]
      replace hS := hid (hS.out.callOwn hb hO)
      clear hO hb
      go_simp
      refine hK.out _ _ (HeldL.cons (fun _ => hrg.out _ hS.out.k2) (HeldL.cons (fun _ => hrg.out _ hS.out.k2) HeldL.nil)) (fun hHeld' => ?_)
      clear hK K hHeld; have hHeld := hHeld'; clear hHeld'
      try simp only [Act.put, List.setIfInBounds_toArray, List.set_cons_zero, List.set_cons_succ]
      refine wpAnyL_take0 (i := 6) (v := ?_) rfl (by kernel_rfl) (by kernel_rfl) (by kernel_rfl) (by rfl) (fun _ _ _ h => h) (Or.inl ⟨by rfl, ?_⟩) (by assumption) ?_
      rotate_left
      · (intro W _; go_simp; (with_reducible rfl))
      intro hHeld'
      clear hHeld; have hHeld := hHeld'; clear hHeld'
      try simp only [Act.put, List.setIfInBounds_toArray, List.set_cons_zero, List.set_cons_succ]
      refine wpAnyL_ready (rs := [5]) (by kernel_rfl) (by simp) ?_
      refine AllReadyL.cons rfl (fun K hK => ?_) AllReadyL.nil
      go_simp
      replace hS := hid (hS.out.newArr mc n hmcs.out 2 (by omega))
      rw [hmc.out, filM_zero] at hS
      refine hK.out _ _ (HeldL.cons (fun h => absurd h (by decide +kernel)) (HeldL.cons (fun h => absurd h (by decide +kernel)) HeldL.nil)) (fun hHeld' => ?_)
      clear hK K hHeld; have hHeld := hHeld'; clear hHeld'
      try simp only [Act.put, List.setIfInBounds_toArray, List.set_cons_zero, List.set_cons_succ]
      refine wpAnyL_take0 (i := 7) (v := ?_) rfl (by kernel_rfl) (by kernel_rfl) (by kernel_rfl) (by rfl) (fun _ _ _ h => h) (Or.inl ⟨by rfl, ?_⟩) (by assumption) ?_
      rotate_left
      · (intro W _; go_simp; (with_reducible rfl))
      intro hHeld'
      clear hHeld; have hHeld := hHeld'; clear hHeld'
      try simp only [Act.put, List.setIfInBounds_toArray, List.set_cons_zero, List.set_cons_succ]
      refine wpAnyL_done (by kernel_rfl) ?_ _
      go_wp2
      go_meet
      case rel => exact ⟨gC, cC, _, rfl, rfl, hS.out⟩
    refine AllReadyL.cons rfl (fun K hK => ?_) AllReadyL.nil
    go_simp
    replace hS := hid (hS.out.newArr mc n hmcs.out 2 (by omega))
    rw [hmc.out, filM_zero] at hS
    generalize wb.heap.size = gM at *
    generalize wb.alloc (.cells mc 2) = wc at *
    refine hK.out _ _ (HeldL.cons (fun _ => hrg.out _ hS.out.k2) (HeldL.cons (fun _ => hrg.out _ hS.out.k2) HeldL.nil)) (fun hHeld' => ?_)
    clear hK K hHeld; have hHeld := hHeld'; clear hHeld'
    try simp only [Act.put, List.setIfInBounds_toArray, List.set_cons_zero, List.set_cons_succ]
    refine wpAnyL_ready (rs := [1]) (by kernel_rfl) (by simp) ?_
    refine AllReadyL.cons rfl (fun K hK => ?_) AllReadyL.nil
    go_simp
    go_at_call 246
    (with_reducible refine (hcl.out _ (hGW.out _ hS.out.bel)).mono ?_)
    rintro e w1 ⟨vC, rfl, hO, hb⟩
    obtain ⟨gC, cC, rfl, _, _⟩ := hO.blk (fun e => by have h1 := congrArg List.length e; rw [hfn.out, List.length_nil] at h1; omega)
    rw [hfn.out] at hO
    rw [hfn.out]
    replace hS := hid (hS.out.callOwn hb hO)
    clear hO hb
    go_simp
    refine hK.out _ _ (HeldL.cons (fun _ => hrg.out _ hS.out.k3) (HeldL.cons (fun _ => hrg.out _ hS.out.k3) HeldL.nil)) (fun hHeld' => ?_)
    clear hK K hHeld; have hHeld := hHeld'; clear hHeld'
    try simp only [Act.put, List.setIfInBounds_toArray, List.set_cons_zero, List.set_cons_succ]
    refine wpAnyL_take0 (i := 6) (v := ?_) rfl (by kernel_rfl) (by kernel_rfl) (by kernel_rfl) (by rfl) (fun _ _ _ h => h) (Or.inl ⟨by rfl, ?_⟩) (by assumption) ?_
    rotate_left
    · (intro W _; go_simp; (with_reducible rfl))
    intro hHeld'
    clear hHeld; have hHeld := hHeld'; clear hHeld'
    try simp only [Act.put, List.setIfInBounds_toArray, List.set_cons_zero, List.set_cons_succ]
    refine wpAnyL_take0 (i := 7) (v := ?_) rfl (by kernel_rfl) (by kernel_rfl) (by kernel_rfl) (by rfl) (fun _ _ _ h => h) (Or.inl ⟨by rfl, ?_⟩) (by assumption) ?_
    rotate_left
    · (intro W _; go_simp; (with_reducible rfl))
    intro hHeld'
    clear hHeld; have hHeld := hHeld'; clear hHeld'
    try simp only [Act.put, List.setIfInBounds_toArray, List.set_cons_zero, List.set_cons_succ]
    refine wpAnyL_done (by kernel_rfl) ?_ _
    go_wp2
    go_meet
    case rel => exact ⟨gC, cC, gM, rfl, rfl, hS.out.f1⟩
  case rest =>
    obtain ⟨gC, cC, gM, rfl, rfl, rS⟩ := hcut
    clear hcl hS
    replace rS := hid rS
    go_wp2
    go_loopw [8] (fun i wr => ∃ j : Nat, j ≤ n ∧ i = .int .i64 j ∧ St w.heap.size w [Asn.own w.heap.size 2 (.slice (some ⟨gM, 0, none⟩) n n) (ints (filM j n)), Asn.own w.heap.size 2 (.slice (some ⟨gC, 0, none⟩) n cC) FL, Asn.mb 27 (w.heap.size + 1) ⟨0, 0, fun _ => 0, fun _ => 0⟩, Asn.blk w.heap.size #[.int .i64 L, .slice (some ⟨gN, 0, none⟩) n cN, .slice (some ⟨gO, 0, none⟩) n cO] 232] wr) (fun i _ => n - (intOf i).toNat)
    case atStart => exact ⟨0, Nat.zero_le _, rfl, rS.out⟩
    case round =>
      obtain ⟨j, hj, rfl, rS⟩ := hrel
      replace rS := hid rS
      by_cases hjn : j < n
      · have dj : decide ((j : Int) < (n : Int)) = true := decide_eq_true (by omega)
        obtain ⟨u, hu⟩ : ∃ u, (ints (filM j n))[j]? = some u := ⟨_, List.getElem?_eq_getElem (by rw [ints_length, filM_length]; exact hjn)⟩
        have co := Own.cellAt rS.out.o0 j u hu
        have fo := Own.frozenAt rS.out.o0 (by rw [ints_length, filM_length]) j
        have hset := hid (filM_set j n)
        have rS2 := hid (rS.out.setOwn (by rw [ints_length, filM_length]) j (.int .i64 (-1)) hjn)
        rw [hset.out] at rS2
        clear hu
        go_wp2
        go_roundw
        case rel => exact ⟨j + 1, by omega, by go_num, rS2.out⟩
        case measure => simp [intOf]; omega
      · obtain rfl : n = j := by omega
        have dj : decide ((n : Int) < (n : Int)) = false := decide_eq_false (by omega)
        have yS := rS.out
        rw [filM_all] at yS
        replace yS := hid yS
        clear rS
        have hfq := hflt.out q hq
        have cq := Own.cellAt yS.out.o1 q _ (hfl.out q hq)
        go_upto_region 7 with (fail)
        clear cq
        have zS := hid (yS.out.newOwn [.int .i64 (fix T q : Nat)] 2 (by simp))
        clear yS
        have hFE : (Array.mk [Value.int .i64 (fix T q : Nat)]) = #[Value.int .i64 (fix T q : Nat)] := rfl
        generalize wr.heap.size = gQ at *
        generalize wr.alloc (.cells #[.int .i64 (fix T q : Nat)] 2) = wa at *
        clear hFE
        have cq := Own.cellAt zS.out.o2 q _ (hfl.out q hq)
        have co := Own.cellAt zS.out.o1 (fix T q) _ (nmL_get [] n _ hfq)
        have fo := Own.frozenAt zS.out.o1 (by rw [ints_length, nmL_length]) (fix T q)
        have hset := hid (show (ints (nmL [] n)).set (fix T q) (.int .i64 0) = ints (nmL [fix T q] n) from nmL_add [] n (fix T q) (by simp))
        have tS := hid (zS.out.f1.setOwn (by rw [ints_length, nmL_length]) (fix T q) (.int .i64 0) hfq)
        rw [hset.out] at tS
        clear zS
        have h0 : bfs T (fix T) q 0 = [fix T q] := rfl
        replace tS := hid (show St w.heap.size w [Asn.own w.heap.size 2 (.slice (some ⟨gQ, 0, none⟩) 1 1) (nats (bfs T (fix T) q 0)), Asn.own w.heap.size 2 (.slice (some ⟨gM, 0, none⟩) n n) (ints (nmL (bfs T (fix T) q 0) n)), Asn.own w.heap.size 2 (.slice (some ⟨gC, 0, none⟩) n cC) FL, Asn.mb 27 (w.heap.size + 1) ⟨0, 0, fun _ => 0, fun _ => 0⟩, Asn.blk w.heap.size #[.int .i64 L, .slice (some ⟨gN, 0, none⟩) n cN, .slice (some ⟨gO, 0, none⟩) n cO] 232] _ from tS.out.f1)
        clear h0
        generalize fix T q = fq at *
        go_wp2
        clear cq co fo
        go_loopw [9, 10] (fun v i wr => ∃ i' N g1 c1, i = .int .i64 (i' : Nat) ∧ v = .slice (some ⟨g1, 0, none⟩) N c1 ∧ i' ≤ N ∧ (bfs T (fix T) q i').length = N ∧ St w.heap.size w [Asn.own w.heap.size 2 (.slice (some ⟨g1, 0, none⟩) N c1) (nats (bfs T (fix T) q i')), Asn.own w.heap.size 2 (.slice (some ⟨gM, 0, none⟩) n n) (ints (nmL (bfs T (fix T) q i') n)), Asn.own w.heap.size 2 (.slice (some ⟨gC, 0, none⟩) n cC) FL, Asn.mb 27 (w.heap.size + 1) ⟨0, 0, fun _ => 0, fun _ => 0⟩, Asn.blk w.heap.size #[.int .i64 L, .slice (some ⟨gN, 0, none⟩) n cN, .slice (some ⟨gO, 0, none⟩) n cO] 232] wr) (fun _ i _ => n - (intOf i).toNat)
        case atStart => exact ⟨0, 1, gQ, 1, rfl, rfl, by omega, rfl, tS.out⟩
        case round =>
          obtain ⟨i, N, g1, c1, rfl, rfl, hiN, hN, rS⟩ := hrel
          clear tS
          have hNn := (huq.out i).len
          rw [hN] at hNn
          replace hN := hid hN
          replace rS := hid rS
          by_cases hlt : i < N
          · have dlt : decide ((i : Int) < (N : Int)) = true := decide_eq_true (by omega)
            obtain ⟨s, hs⟩ : ∃ s, (bfs T (fix T) q i)[i]? = some s := ⟨_, List.getElem?_eq_getElem (by rw [hN.out]; exact hlt)⟩
            have hsn := (huq.out i).2 s (List.mem_of_getElem? hs)
            have hms := hid (hsm.out i s hs)
            have huqm := hid (fun x hx => hum.out s hsn _ (huq.out i) x hx)
            have hpre := hid (fun x => (show (meets T (fix T) s (bfs T (fix T) q i) x)[i]? = some s from by
              obtain ⟨r, hr⟩ := meets_pre T (fix T) s (bfs T (fix T) q i) x
              rw [hr, List.getElem?_append_left (by rw [hN.out]; exact hlt)]
              exact hs))
            clear hs
            go_wp2
            go_loopw [9, 11] (fun v j wr => ∃ x N g1 c1, j = .int .i64 (x : Nat) ∧ v = .slice (some ⟨g1, 0, none⟩) N c1 ∧ x ≤ L ∧ i < N ∧ (meets T (fix T) s (bfs T (fix T) q i) x).length = N ∧ St w.heap.size w [Asn.own w.heap.size 2 (.slice (some ⟨g1, 0, none⟩) N c1) (nats (meets T (fix T) s (bfs T (fix T) q i) x)), Asn.own w.heap.size 2 (.slice (some ⟨gM, 0, none⟩) n n) (ints (nmL (meets T (fix T) s (bfs T (fix T) q i) x) n)), Asn.own w.heap.size 2 (.slice (some ⟨gC, 0, none⟩) n cC) FL, Asn.mb 27 (w.heap.size + 1) ⟨0, 0, fun _ => 0, fun _ => 0⟩, Asn.blk w.heap.size #[.int .i64 L, .slice (some ⟨gN, 0, none⟩) n cN, .slice (some ⟨gO, 0, none⟩) n cO] 232] wr) (fun _ j _ => L - (intOf j).toNat)
            case atStart => exact ⟨0, N, g1, c1, rfl, rfl, Nat.zero_le _, hlt, hN.out, rS.out⟩
            case round =>
              obtain ⟨x, N2, g2, c2, rfl, rfl, hx, hiN2, hN2, yS⟩ := hrel
              clear rS
              have e0 : wr.cell? ⟨w.heap.size, 0, none⟩ = some (.int .i64 (L : Int)) := cell_of_row _ _ 0 _ _ _ yS.k4
              replace yS := hid yS
              by_cases hxL : x < L
              · have dx : decide ((x : Int) < (L : Int)) = true := decide_eq_true (by omega)
                have e1 : wr.cell? ⟨w.heap.size, 1, none⟩ = some (.slice (some ⟨gN, 0, none⟩) n cN) := cell_of_row _ _ 1 _ _ _ yS.out.k4
                have e2 := yS.out.o0.cellAt i (.int .i64 (s : Nat)) (by simp [nats, hpre.out x])
                have e3 := hcN.out wr yS.out.bel s x hsn hxL
                have hrn := hnx.out s x hsn hxL
                have hsucc := hid (show meets T (fix T) s (bfs T (fix T) q i) (x + 1) = meet (meets T (fix T) s (bfs T (fix T) q i) x) (fix T (T.nx s x)) from rfl)
                have e4 := yS.out.o2.cellAt _ _ (hfl.out _ hrn)
                have hfr := hflt.out _ hrn
                have hN2n := (huqm.out x hx).len
                rw [hN2] at hN2n
                generalize T.nx s x = r at *
                generalize hmx : meets T (fix T) s (bfs T (fix T) q i) x = ms at *
                replace hmx := hid hmx
                generalize fix T r = fr at *
                have e5 := yS.out.o1.cellAt _ _ (nmL_get ms n fr hfr)
                have x3 : (x : Int) < 3 := by omega
                have x0 : (0 : Int) ≤ (x : Int) := Int.natCast_nonneg _
                have hN2' := hid hN2
                clear hN2
                by_cases hmem : fr ∈ ms
                · rw [if_pos hmem] at e5
                  have hsame := hid (show meet ms fr = ms from if_pos hmem)
                  have hix := List.idxOf_lt_length_of_mem hmem
                  rw [hN2'.out] at hix
                  clear hmem
                  generalize ms.idxOf fr = ix at *
                  have dn : decide ((ix : Int) < 0) = false := decide_eq_false (by omega)
                  go_upto_region 14 with (fail)
                  go_quiet (fail)
                  go_wp2
                  go_roundw
                  case rel => exact ⟨x + 1, N2, g2, c2, by go_num, rfl, by omega, hiN2, by rw [hsucc.out, hsame.out]; exact hN2'.out, by rw [hsucc.out, hsame.out]; exact yS.out.drewN _⟩
                  case measure => simp [intOf]; omega
                · rw [if_neg hmem] at e5
                  have hsame := hid (show meet ms fr = ms ++ [fr] from if_neg hmem)
                  have hadd := hid (nmL_add ms n fr hmem)
                  rw [hN2'.out] at hadd
                  have hlnat := hid (show (nats ms).length = N2 by rw [nats_length]; exact hN2'.out)
                  have hsnoc := hid (show nats (ms ++ [fr]) = nats ms ++ [.int .i64 (fr : Int)] by simp [nats])
                  clear hmem
                  go_upto_region 14 with (fail)
                  go_quiet (fail)
                  clear e0 e1 e2 e3 e4
                  replace yS := hid (yS.out.drewN nq)
                  have e6 : (wr.drewN nq).cell? ⟨gM, fr, none⟩ = some (.int .i64 (-1)) := e5
                  clear e5
                  generalize wr.drewN nq = wb at *
                  have fo := yS.out.o1.frozenAt (by rw [ints_length, nmL_length]) fr
                  have zS := hid (yS.out.f1.setOwn (by rw [ints_length, nmL_length]) fr (.int .i64 (N2 : Int)) hfr)
                  rw [hadd.out] at zS
                  clear yS
                  go_upto_region 17 with (fail)
                  clear e6 fo
                  generalize wb.setCell ⟨gM, fr, none⟩ (.int .i64 (N2 : Int)) = wc at *
                  go_wp2_with (first
                    | ((with_reducible refine gate (N := 80) rfl ?_); refine St.app 29 2 (.int .i64 0) 8 Try.underlying29 info_i64 rfl (by omega) rfl _ _ rfl _ _ rfl zS.out.f1 _ rfl rfl N2 hlnat.out (by omega) ?_; intro gn cn w4 zS'; replace zS := hid zS'; clear zS'))
                  go_roundw
                  case rel => exact ⟨x + 1, N2 + 1, gn, cn, by go_num, rfl, by omega, by omega, by rw [hsucc.out, hsame.out, List.length_append, hN2'.out]; rfl, by rw [hsucc.out, hsame.out, hsnoc.out]; exact zS.out⟩
                  case measure => simp [intOf]; omega
              · obtain rfl : L = x := by omega
                have dx : decide ((L : Int) < (L : Int)) = false := decide_eq_false (by omega)
                go_wp2
                go_roundw
                case rel => exact ⟨i + 1, N2, g2, c2, by go_num, rfl, by omega, by rw [hms.out]; exact hN2, by rw [hms.out]; exact yS.out⟩
                case measure => simp [intOf]; omega
          · obtain rfl : N = i := by omega
            have dlt : decide ((N : Int) < (N : Int)) = false := decide_eq_false (by omega)
            have hf := hid (hfin.out N hN.out)
            have hA := hid (show fromM T q = if (bfs T (fix T) q N).length ≤ 16 then gth T (fix T) (bfs T (fix T) q N) else ⟨0, 0, fun _ => 0, fun _ => 0⟩ by unfold fromM; rw [hf.out])
            have hC := hid (show fromB T q = decide ((bfs T (fix T) q N).length ≤ 16) by unfold fromB; rw [hf.out])
            rw [hN.out] at hA hC
            by_cases h16 : N ≤ 16
            · rw [if_pos h16] at hA
              rw [decide_eq_true h16] at hC
              have hclo2 := hid (fun s hs x hx => (by have h := hclo.out; rw [hf.out] at h; exact h s hs x hx : fix T (T.nx s x) ∈ bfs T (fix T) q N))
              have huqN := hid (huq.out N)
              generalize hst : bfs T (fix T) q N = st at *
              replace hst := hid hst
              have d16 : decide ((N : Int) > 16) = false := decide_eq_false (by omega)
              have e0 : wr.cell? ⟨w.heap.size, 0, none⟩ = some (.int .i64 (L : Int)) := cell_of_row _ _ 0 _ _ _ rS.out.k4
              have hle := hid rS.out.le
              clear hf
              go_upto_region 21 with (first
                | ((with_reducible refine gate (N := 89) rfl ?_); refine build_mach rfl _ _ rfl (L : Int) (N : Int) rfl rfl ?_)
                | ((with_reducible refine gateOp (op := .store 27 (.tmp 13) (.tmp 89)) rfl ?_); have zS := hid (hNew.out _ _ rS.out); refine store_mach rfl _ _ rfl wr.heap.size rfl ⟨(L : Int), (N : Int), fun _ => 0, fun _ => 0⟩ rfl 27 _ zS.out.m0 ?_; intro W1 p3 ho hsz hbl; replace zS := hid (zS.out.setM hle.out p3 ho hbl); clear p3 ho hsz hbl))
              clear rS e0
              have hz0 := hid (show gthP T (fix T) st 0 0 = ⟨(L : Int), (N : Int), fun _ => 0, fun _ => 0⟩ by rw [hgz.out st, hN.out])
              rw [← hz0.out] at zS
              generalize wr.heap.size = bM at *
              go_wp2
              go_loopw [14] (fun i wr => ∃ i' : Nat, i' ≤ N ∧ i = .int .i64 i' ∧ St w.heap.size w [Asn.mb 27 bM (gthP T (fix T) st i' 0), Asn.own w.heap.size 2 (.slice (some ⟨g1, 0, none⟩) N c1) (nats st), Asn.own w.heap.size 2 (.slice (some ⟨gM, 0, none⟩) n n) (ints (nmL st n)), Asn.own w.heap.size 2 (.slice (some ⟨gC, 0, none⟩) n cC) FL, Asn.mb 27 (w.heap.size + 1) ⟨0, 0, fun _ => 0, fun _ => 0⟩, Asn.blk w.heap.size #[.int .i64 L, .slice (some ⟨gN, 0, none⟩) n cN, .slice (some ⟨gO, 0, none⟩) n cO] 232] wr) (fun i _ => N - (intOf i).toNat)
              case atStart => exact ⟨0, Nat.zero_le _, rfl, zS.out⟩
              case round =>
                obtain ⟨i, hi, rfl, rS⟩ := hrel
                clear zS
                replace rS := hid rS
                by_cases hiN : i < N
                · have di : decide ((i : Int) < (N : Int)) = true := decide_eq_true (by omega)
                  obtain ⟨s, hs⟩ : ∃ s, st[i]? = some s := ⟨_, List.getElem?_eq_getElem (by rw [hN.out]; exact hiN)⟩
                  have hsm2 : s ∈ st := List.mem_of_getElem? hs
                  have hsn := huqN.out.2 s hsm2
                  have hcs := hid (fun x hx => hclo2.out s hsm2 x hx)
                  obtain ⟨b0, b1, b2, hrb, hb⟩ := hlit.out s hsn
                  have hgo2 := hid (hgo.out st i s b0 b1 b2 hs (by
                    have h := rc1_get .u8 T.ot L s 0 (by omega); rw [hrb] at h; simp at h; omega) (by
                    have h := rc1_get .u8 T.ot L s 1 (by omega); rw [hrb] at h; simp at h; omega) (by
                    have h := rc1_get .u8 T.ot L s 2 (by omega); rw [hrb] at h; simp at h; omega))
                  have hstp2 := hid (fun x hx => hstp.out st i x s hx hs)
                  have hsq := hid hs
                  clear hs hsm2 hb
                  have e1 : wr.cell? ⟨w.heap.size, 2, none⟩ = some (.slice (some ⟨gO, 0, none⟩) n cO) := cell_of_row _ _ 2 _ _ _ rS.out.k5
                  have e2 := rS.out.o1.cellAt i (.int .i64 (s : Nat)) (by simp [nats, hsq.out])
                  have rg := hid (hrO.out wr rS.out.bel s hsn)
                  rw [hrb] at rg
                  have hi0 : (0 : Int) ≤ (i : Int) := Int.natCast_nonneg _
                  have hi1 : (i : Int) < 16 := by omega
                  go_upto_region 24 with (fail)
                  refine wp_region_still_tail 11 (by kernel_rfl) (by kernel_rfl) ?_
                  simp only [List.take_succ_cons, List.take_zero, List.drop_succ_cons, List.drop_zero]
                  repeat (first
                    | ((with_reducible refine still_gate 104 rfl ?_); refine still_row rfl 24 _ rfl gO (s * 3) rfl _ _ rg.out Try.underlying24 rfl sz_b3 ?_)
                    | still_step)
                  try refine wpStill_nil ?_
                  change wpList _ _ _ _ _ wr.drew
                  replace rS := hid rS.out.drew
                  clear e1 e2 rg hrb
                  generalize wr.drew = wa at *
                  have hth := hid (rowIs_there (show wa.rowIs bM 27 98 _ from rS.out.m0) (50 + i * 3) 3 (by omega))
                  have hbM := hid (show w.heap.size ≤ bM from hle.out)
                  refine wpList_store_mid rfl 24 _ _ rfl bM (50 + i * 3) #[.int .u8 (b0 : Int), .int .u8 (b1 : Int), .int .u8 (b2 : Int)] rfl rfl hth.out sz_b3 (by simp [Value.oneCell']) ?_
                  have yS := hid (show St w.heap.size w (Asn.mb 27 bM (gthS T (fix T) st i 0) :: _) (wa.setCells bM (50 + i * 3) [.int .u8 (b0 : Int), .int .u8 (b1 : Int), .int .u8 (b2 : Int)]) from by rw [hgo2.out]; exact ((rS.out.setOt hbM.out i 0 b0 (by omega) (by omega)).setOt hbM.out i 1 b1 (by omega) (by omega)).setOt hbM.out i 2 b2 (by omega) (by omega))
                  clear rS hth
                  generalize wa.setCells bM (50 + i * 3) [.int .u8 (b0 : Int), .int .u8 (b1 : Int), .int .u8 (b2 : Int)] = wb at *
                  go_wp2
                  go_loopw [15] (fun j wr => ∃ x : Nat, x ≤ L ∧ j = .int .i64 x ∧ St w.heap.size w [Asn.mb 27 bM (gthS T (fix T) st i x), Asn.own w.heap.size 2 (.slice (some ⟨g1, 0, none⟩) N c1) (nats st), Asn.own w.heap.size 2 (.slice (some ⟨gM, 0, none⟩) n n) (ints (nmL st n)), Asn.own w.heap.size 2 (.slice (some ⟨gC, 0, none⟩) n cC) FL, Asn.mb 27 (w.heap.size + 1) ⟨0, 0, fun _ => 0, fun _ => 0⟩, Asn.blk w.heap.size #[.int .i64 L, .slice (some ⟨gN, 0, none⟩) n cN, .slice (some ⟨gO, 0, none⟩) n cO] 232] wr) (fun j _ => L - (intOf j).toNat)
                  case atStart => exact ⟨0, Nat.zero_le _, rfl, yS.out⟩
                  case round =>
                    obtain ⟨x, hx, rfl, zS⟩ := hrel
                    clear yS
                    have e0 : wr.cell? ⟨w.heap.size, 0, none⟩ = some (.int .i64 (L : Int)) := cell_of_row _ _ 0 _ _ _ zS.k5
                    replace zS := hid zS
                    by_cases hxL : x < L
                    · have dx : decide ((x : Int) < (L : Int)) = true := decide_eq_true (by omega)
                      have e1 : wr.cell? ⟨w.heap.size, 1, none⟩ = some (.slice (some ⟨gN, 0, none⟩) n cN) := cell_of_row _ _ 1 _ _ _ zS.out.k5
                      have e2 := zS.out.o1.cellAt i (.int .i64 (s : Nat)) (by simp [nats, hsq.out])
                      have e3 := hcN.out wr zS.out.bel s x hsn hxL
                      have hrn := hnx.out s x hsn hxL
                      have e4 := zS.out.o3.cellAt _ _ (hfl.out _ hrn)
                      have hfr := hflt.out _ hrn
                      have e5 := zS.out.o2.cellAt _ _ (nmL_get st n _ hfr)
                      rw [if_pos (hcs.out x hxL)] at e5
                      have hix := List.idxOf_lt_length_of_mem (hcs.out x hxL)
                      rw [hN.out] at hix
                      have hst3 := hid (hstp2.out x hxL)
                      generalize T.nx s x = r at *
                      generalize fix T r = fr at *
                      generalize st.idxOf fr = ix at *
                      have xm : ((ix : Int) % 256) = ix := by omega
                      have xm2 : IntKind.u8.wrap (ix : Int) = (ix : Int) := u8_in ix (by omega)
                      have x3 : (x : Int) < 3 := by omega
                      have x0 : (0 : Int) ≤ (x : Int) := Int.natCast_nonneg _
                      go_upto_region 28 with (fail)
                      refine wp_region_still_tail 22 (by kernel_rfl) (by kernel_rfl) ?_
                      simp only [List.take_succ_cons, List.take_zero, List.drop_succ_cons, List.drop_zero]
                      repeat still_step
                      try refine wpStill_nil ?_
                      change wpList _ _ _ _ _ wr.drew
                      replace zS := hid zS.out.drew
                      clear e0 e1 e2 e3 e4 e5
                      generalize wr.drew = wc at *
                      obtain ⟨vn, cn⟩ : ∃ u, wc.cell? ⟨bM, 2 + i * 3 + x, none⟩ = some u := ⟨_, zS.out.m0.cnx i x (by omega) (by omega)⟩
                      have fn : wc.frozen? ⟨bM, 2 + i * 3 + x, none⟩ = false := World.rowIs.frozen zS.out.m0 _
                      have tS := hid (zS.out.setNx hbM.out i x ix (by omega) (by omega))
                      rw [← hst3.out] at tS
                      clear zS
                      go_wp2
                      go_roundw
                      case rel => exact ⟨x + 1, by omega, by go_num, tS.out⟩
                      case measure => simp [intOf]; omega
                    · obtain rfl : L = x := by omega
                      have dx : decide ((L : Int) < (L : Int)) = false := decide_eq_false (by omega)
                      have hrw := hid (hrow.out st i)
                      go_wp2
                      go_roundw
                      case rel => exact ⟨i + 1, by omega, by go_num, by rw [← hrw.out]; exact zS.out⟩
                      case measure => simp [intOf]; omega
                · obtain rfl : N = i := by omega
                  have di : decide ((N : Int) < (N : Int)) = false := decide_eq_false (by omega)
                  have hgm := hid (show gthP T (fix T) st N 0 = gth T (fix T) st by unfold gth; rw [hN.out])
                  rw [hgm.out] at rS
                  generalize gth T (fix T) st = gm at *
                  go_wp2_with (first
                    | ((with_reducible refine gate (N := 135) rfl ?_); refine load_mach rfl _ rfl bM rfl gm rS.out.m0 ?_)
                    | ((with_reducible refine gateOp (op := .store 27 (.tmp 4) (.tmp 135)) rfl ?_); refine store_mach rfl _ _ rfl (w.heap.size + 1) rfl gm rfl 27 _ rS.out.m4 ?_; intro W3 p2 ho hsz hbl; have pB := hid (hbl _ _ (Nat.le_succ _) rS.out.bel); replace p2 := hid p2; clear ho hsz hbl))
                  exact ret_mach_v (v := .bool true) rfl rfl rfl p2.out rfl ⟨by rw [hA.out, hC.out], pB.out⟩
            · rw [if_neg h16] at hA
              rw [decide_eq_false h16] at hC
              have d16 : decide ((N : Int) > 16) = true := decide_eq_true (by omega)
              replace rS := hid rS.out.f3
              clear hf hN
              go_wp2_with (first
                | ((with_reducible refine gate (N := 84) rfl ?_); refine build_zero rfl rfl ?_)
                | ((with_reducible refine gateOp (op := .store 27 (.tmp 4) (.tmp 84)) rfl ?_); refine store_mach rfl _ _ rfl (w.heap.size + 1) rfl ⟨0, 0, fun _ => 0, fun _ => 0⟩ rfl 27 _ rS.out.m0 ?_; intro W3 p2 ho hsz hbl; have pB := hid (hbl _ _ (Nat.le_succ _) rS.out.bel); replace p2 := hid p2; clear ho hsz hbl))
              exact ret_mach_v (v := .bool false) rfl rfl rfl p2.out rfl ⟨by rw [hA.out, hC.out], pB.out⟩
end Go.Proofs.Ytbmkkaecfogmoaa

/- MachineOfState: what the program and the reference answer. -/
namespace Go.Proofs.Ytbmkkaecfogmoaa
open Go.RowKit
set_option linter.unusedVariables false
set_option linter.unusedSimpArgs false


open Classical in
/-- What MachineOfState answers. -/
noncomputable def mosAns (m : Mach) (q : Int) : Mach × Int := if codeI m { data := #[] } [q] = 0 then (fromM (tabOf m m.L.toNat m.S.toNat) q.toNat, 0) else (⟨0, 0, fun _ => 0, fun _ => 0⟩, codeI m { data := #[] } [q])
theorem mosAns_0 {m : Mach} {l s q : Nat} (g : Good m l s) (hq : q < s) : mosAns m q = (fromM (tabOf m l s) q, 0) := by
  unfold mosAns; rw [if_pos (codeI_one g ⟨by omega, by omega⟩), g.L, g.S]; rfl
theorem mosAns_2 {m : Mach} {l s : Nat} {q : Int} (g : Good m l s) (hq : ¬ (0 ≤ q ∧ q < (s : Int))) : mosAns m q = (⟨0, 0, fun _ => 0, fun _ => 0⟩, 2) := by
  unfold mosAns; rw [codeI_bad g hq, if_neg (by decide)]
theorem mosAns_1 {m : Mach} {q : Int} (hm : ¬ IsM m) : mosAns m q = (⟨0, 0, fun _ => 0, fun _ => 0⟩, 1) := by
  unfold mosAns; rw [codeI_1 hm, if_neg (by decide)]

set_option maxHeartbeats 1000000 in
theorem l07State_any (w : World) (m : Mach) (hk : m.Ok) (q : Int) :
    Calls Try.prog 171 #[.agg (mcells m), .int .i64 q] w fun e w' => e = .returned (.int .i64 (codeI m { data := #[] } [q])) ∧ Below w.heap.size w w' := by
  have hS := hid ((St.start w).newMB m 27)
  by_cases hm : IsM m
  · obtain ⟨l, s, g⟩ := hm.good
    have hi := hid (show Tells true (IsM m) from ⟨fun _ => hm, fun _ => rfl⟩)
    have gS := hid g.S
    have s1 := g.s1
    have s16 := g.s16
    by_cases hq : 0 ≤ q ∧ q < (s : Int)
    · rw [codeI_one g hq]
      have hin := hid (fun W => l01In_any q 0 ((s : Int) - 1) true (decide_eq_true (by omega)).symm W)
      replace hk := hid hk; clear hm hq g
      go_enter Try.func171, Try.ntmps171
      go_wp2_with (first
        | ((with_reducible refine gate (N := 6) rfl ?_); refine load_mach rfl _ rfl w.heap.size rfl m hS.out.m0 ?_)
        | (go_at_call 80; (with_reducible refine (l01Is_any _ m hk.out true hi.out.out).mono ?_); rintro e w1 ⟨rfl, hb⟩; replace hS := hid (hS.out.call hb); have cS := hS.out.m0.cS; rw [gS.out] at cS; clear hb hi)
        | (go_at_call 91; (with_reducible refine (hin.out _).mono ?_); rintro e w3 ⟨rfl, rfl⟩))
      go_ret
      exact ⟨rfl, hS.out.bel⟩
    · rw [codeI_bad g hq]
      have hin := hid (fun W => l01In_any q 0 ((s : Int) - 1) false (decide_eq_false (fun h => hq (by omega))).symm W)
      replace hk := hid hk; clear hm hq g
      go_enter Try.func171, Try.ntmps171
      go_wp2_with (first
        | ((with_reducible refine gate (N := 6) rfl ?_); refine load_mach rfl _ rfl w.heap.size rfl m hS.out.m0 ?_)
        | (go_at_call 80; (with_reducible refine (l01Is_any _ m hk.out true hi.out.out).mono ?_); rintro e w1 ⟨rfl, hb⟩; replace hS := hid (hS.out.call hb); have cS := hS.out.m0.cS; rw [gS.out] at cS; clear hb hi)
        | (go_at_call 91; (with_reducible refine (hin.out _).mono ?_); rintro e w3 ⟨rfl, rfl⟩))
      go_ret
      exact ⟨rfl, hS.out.bel⟩
  · rw [codeI_1 hm]
    have hi := hid (show Tells false (IsM m) from ⟨fun h => (by cases h), fun h => absurd h hm⟩)
    replace hk := hid hk; clear hm
    go_enter Try.func171, Try.ntmps171
    go_wp2_with (first
      | ((with_reducible refine gate (N := 6) rfl ?_); refine load_mach rfl _ rfl w.heap.size rfl m hS.out.m0 ?_)
      | (go_at_call 80; (with_reducible refine (l01Is_any _ m hk.out false hi.out.out).mono ?_); rintro e w1 ⟨rfl, hb⟩; replace hS := hid (hS.out.call hb); clear hb hi))
    go_ret
    exact ⟨rfl, hS.out.bel⟩
theorem codeI_cases (m : Mach) (q : Int) : codeI m { data := #[] } [q] = 1 ∨ codeI m { data := #[] } [q] = 2 ∨ ∃ l s q', Good m l s ∧ q = ((q' : Nat) : Int) ∧ q' < s ∧ codeI m { data := #[] } [q] = 0 := by
  by_cases hm : IsM m
  · obtain ⟨l, s, g⟩ := hm.good
    by_cases hq : 0 ≤ q ∧ q < (s : Int)
    · obtain ⟨q', rfl⟩ := Int.eq_ofNat_of_zero_le hq.1
      exact .inr (.inr ⟨l, s, q', g, rfl, by omega, codeI_one g hq⟩)
    · exact .inr (.inl (codeI_bad g hq))
  · exact .inl (codeI_1 hm)


end Go.Proofs.Ytbmkkaecfogmoaa
