/- What the proof of FnDuals leans on, part 21 of 26. -/
import Derived.Test.YtbmkkaecfogmoaaZFnDualsT
import Derived.Deep.Cut
import Derived.Deep.CutRange
/- The machine of a state of a large machine: the reference's search. -/
namespace Go.Proofs.Ytbmkkaecfogmoaa
open Go.RowKit
set_option linter.unusedVariables false
set_option linter.unusedSimpArgs false

/-- The numbers of what has been met. -/
def nmL (st : List Nat) (n : Nat) : List Int := (List.range n).map fun c => if c ∈ st then ((st.idxOf c : Nat) : Int) else -1
theorem nmL_length (st : List Nat) (n : Nat) : (nmL st n).length = n := by simp [nmL]
theorem nmL_get (st : List Nat) (n c : Nat) (h : c < n) : (ints (nmL st n))[c]? = some (.int .i64 (if c ∈ st then ((st.idxOf c : Nat) : Int) else -1)) := by simp [ints, nmL, h]
theorem nmL_add (st : List Nat) (n c : Nat) (hc : c ∉ st) : (ints (nmL st n)).set c (.int .i64 (st.length : Nat)) = ints (nmL (st ++ [c]) n) := by
  apply List.ext_getElem?
  intro i
  rw [List.getElem?_set]
  by_cases h : i < n
  · rw [nmL_get _ _ _ h, nmL_get _ _ _ h]
    by_cases e : c = i
    · subst e
      rw [if_pos rfl, if_pos (by rw [ints_length, nmL_length]; exact h), if_pos (by simp), List.idxOf_append, if_neg hc]
      simp
    · rw [if_neg e]
      by_cases hm : i ∈ st
      · rw [if_pos hm, if_pos (by simp [hm]), List.idxOf_append, if_pos hm]
      · rw [if_neg hm, if_neg (by simp [hm]; exact fun e' => e e'.symm)]
  · have h1 : ∀ l, (ints (nmL l n))[i]? = none := fun l => List.getElem?_eq_none (by rw [ints_length, nmL_length]; omega)
    rw [h1, h1]
    by_cases e : c = i
    · rw [if_pos e, if_neg (by rw [ints_length, nmL_length]; omega)]
    · rw [if_neg e]
/-- A list that is filled with -1. -/
def filM (q n : Nat) : List Int := (List.range n).map fun j => if j < q then -1 else 0
theorem filM_length (q n : Nat) : (filM q n).length = n := by simp [filM]
theorem filM_zero (n : Nat) : List.replicate n (Value.int .i64 0) = ints (filM 0 n) := by
  apply List.ext_getElem?
  intro i
  by_cases h : i < n
  · simp [ints, filM, h]
  · simp [ints, filM, h]
theorem filM_set (q n : Nat) : (ints (filM q n)).set q (.int .i64 (-1)) = ints (filM (q + 1) n) := by
  apply List.ext_getElem?
  intro i
  rw [List.getElem?_set]
  by_cases hi : q = i
  · subst hi
    by_cases h : q < n
    · rw [if_pos rfl, if_pos (by simp [ints, filM]; exact h)]
      simp [ints, filM, h]
    · rw [if_pos rfl, if_neg (by simp [ints, filM]; omega)]
      simp [ints, filM, h]
  · rw [if_neg hi]
    by_cases h : i < n
    · simp only [ints, filM, List.getElem?_map, List.getElem?_range h, Option.map_some]
      by_cases hl : i < q
      · rw [if_pos hl, if_pos (by omega)]
      · rw [if_neg hl, if_neg (by omega)]
    · simp [ints, filM, h]
theorem filM_all (n : Nat) : filM n n = nmL [] n := by
  unfold filM nmL
  apply List.map_congr_left
  intro j hj
  rw [if_pos (List.mem_range.1 hj)]
  simp

/-- The reference's machine as far as it is written: the row i has its outputs already. -/
def gthS (T : Tab) (c : Nat → Nat) (st : List Nat) (i x : Nat) : Mach := ⟨T.L, st.length, (gthP T c st i x).nx, (gthP T c st (i + 1) 0).ot⟩
theorem gthS_row (T : Tab) (c : Nat → Nat) (st : List Nat) (i : Nat) (hL : T.L ≤ 3) : gthS T c st i T.L = gthP T c st (i + 1) 0 := by
  have h := gthP_row T c st i hL
  unfold gthS
  rw [h]
  rfl
theorem gthS_step (T : Tab) (c : Nat → Nat) (st : List Nat) (i x s : Nat) (hx : x < T.L) (hL : T.L ≤ 3) (hs : st[i]? = some s) :
    gthS T c st i (x + 1) = { (gthS T c st i x) with nx := upd (gthS T c st i x).nx (i * 3 + x) (st.idxOf (c (T.nx s x))) } := by
  have h := gthP_step T c st i x s hx hL hs
  unfold gthS
  rw [h]
theorem gthS_out (T : Tab) (c : Nat → Nat) (st : List Nat) (i s a0 a1 a2 : Nat) (hs : st[i]? = some s) (h0 : a0 = if 0 < T.L then T.ot s 0 else 0) (h1 : a1 = if 1 < T.L then T.ot s 1 else 0) (h2 : a2 = if 2 < T.L then T.ot s 2 else 0) :
    gthS T c st i 0 = { (gthP T c st i 0) with ot := upd (upd (upd (gthP T c st i 0).ot (i * 3 + 0) a0) (i * 3 + 1) a1) (i * 3 + 2) a2 } := by
  have hg : st.getD i 0 = s := by rw [List.getD_eq_getElem?_getD, hs]; rfl
  unfold gthS gthP upd
  dsimp only
  congr 1
  funext p
  by_cases e : p / 3 = i
  · have hp : p = i * 3 + 0 ∨ p = i * 3 + 1 ∨ p = i * 3 + 2 := by omega
    rcases hp with rfl | rfl | rfl
    · rw [if_neg (show ¬ i * 3 + 0 = i * 3 + 2 by omega), if_neg (show ¬ i * 3 + 0 = i * 3 + 1 by omega), if_pos rfl, h0, show (i * 3 + 0) / 3 = i by omega, show (i * 3 + 0) % 3 = 0 by omega, hg]
      by_cases hl : 0 < T.L
      · rw [if_pos hl, if_pos ⟨.inl (by omega), hl⟩]
      · rw [if_neg hl, if_neg (fun h => hl h.2)]
    · rw [if_neg (show ¬ i * 3 + 1 = i * 3 + 2 by omega), if_pos rfl, h1, show (i * 3 + 1) / 3 = i by omega, show (i * 3 + 1) % 3 = 1 by omega, hg]
      by_cases hl : 1 < T.L
      · rw [if_pos hl, if_pos ⟨.inl (by omega), hl⟩]
      · rw [if_neg hl, if_neg (fun h => hl h.2)]
    · rw [if_pos rfl, h2, show (i * 3 + 2) / 3 = i by omega, show (i * 3 + 2) % 3 = 2 by omega, hg]
      by_cases hl : 2 < T.L
      · rw [if_pos hl, if_pos ⟨.inl (by omega), hl⟩]
      · rw [if_neg hl, if_neg (fun h => hl h.2)]
  · rw [if_neg (show ¬ p = i * 3 + 2 by omega), if_neg (show ¬ p = i * 3 + 1 by omega), if_neg (show ¬ p = i * 3 + 0 by omega)]
    by_cases h : (p / 3 < i + 1 ∨ p / 3 = i + 1 ∧ p % 3 < 0) ∧ p % 3 < T.L
    · rw [if_pos h, if_pos ⟨by omega, h.2⟩]
    · rw [if_neg h, if_neg (fun h' => h ⟨by omega, h'.2⟩)]
def fromB (T : Tab) (q : Nat) : Bool := decide ((fin T (fix T) q).length ≤ 16)
theorem ret_mach_v {fn : Func} {R : Ending → World → Prop} {a : Act} {w : World} {p q : Nat} (h : fn.results = #[.cell p 27, .tmp q]) {g t : Nat} {m : Mach} {v : Value}
    (hp : a.tmps.getD p undef = .pointer (some ⟨g, 0, none⟩)) (hq : a.tmps.getD q undef = v) (hm : MB w t g m) (hdf : a.defers = []) (hR : R (.returned (.tuple #[.agg (mcells m), v])) w) : bodyPost Try.prog fn R .ret a w := by
  refine bodyPost_ret (v := .tuple #[.agg (mcells m), v]) ?_ hdf hR
  have hp' : a.tmps[p]?.getD undef = .pointer (some ⟨g, 0, none⟩) := by simpa using hp
  have hq' : a.tmps[q]?.getD undef = v := by simpa using hq
  have := run_loadVar_row (P := Try.prog) w g t 27 (mcells m) (0, 0) _ hm.heap Try.underlying27 rfl (by rw [size_mcells]; exact sz_mach)
  simp [results, h, hp', hq', asAddr, this]

set_option maxHeartbeats 8000000 in
set_option maxRecDepth 100000 in
theorem l07Start_any (w : World) (base q : Nat) (vN vO : Value) (T : Tab) (hT : T.Ok) (hL : T.L ≤ 3) (hL0 : 0 < T.L) (hn : T.n < 100000) (hot : ∀ q x, q < T.n → x < T.L → T.ot q x < 256) (hG : LG w base vN vO T) (hq : q < T.n) :
    Calls Try.prog 237 #[.agg #[.int .i64 T.L, vN, vO], .int .i64 q] w fun e w' => e = .returned (.tuple #[.agg (mcells (fromM T q)), .bool (fromB T q)]) ∧ Below w.heap.size w w' := by
  have hz := zero_mach
  have hpos := hT.pos
  have hcl := hid (fun W hW => l07Classes_any W base vN vO T hT hL hL0 hn hot hW)
  obtain ⟨gN, cN, rfl⟩ := hG.1.blk hpos
  obtain ⟨gO, cO, rfl⟩ := hG.2.blk hpos
  have hGW := hid (fun W (hb : Below w.heap.size w W) => hG.below hb)
  have hcN := hid (fun W (hb : Below w.heap.size w W) q x (hq : q < T.n) (hx : x < T.L) => (hG.below hb).1.cellAt (q * 3 + x) _ (rcs_in .i64 T.nx T.L T.n q x hq hx hL))
  have hrO := hid (fun W (hb : Below w.heap.size w W) q (hq : q < T.n) => (hG.below hb).2.range (q * 3) (rc1 .u8 T.ot T.L q) (rcs_row .u8 T.ot T.L T.n q hq))
  have hS := hid (((St.start w).newBlk #[.int .i64 T.L, .slice (some ⟨gN, 0, none⟩) T.n cN, .slice (some ⟨gO, 0, none⟩) T.n cO] 232).newMB ⟨0, 0, fun _ => 0, fun _ => 0⟩ 27)
  rw [heap_alloc_size] at hS
  have hNew := hid (fun L W (h : St w.heap.size w L W) => h.newMB ⟨0, 0, fun _ => 0, fun _ => 0⟩ 27)
  have hmk := fun W : World => run_make_row' (P := Try.prog) 29 2 (.int .i64 0) 8 Try.underlying29 info_i64 rfl .i64 .i64 T.n (by omega) (by omega) W
  have hmc := hid (toList_madeCells_one (.int .i64 0) T.n)
  generalize madeCells #[.int .i64 0] T.n = mc at *
  have hmcs := hid (show mc.size = T.n by rw [← Array.length_toList, hmc.out, List.length_replicate])
  have hfl := hid (fun j (hj : j < T.n) => (show (nats ((List.range T.n).map (fix T)))[j]? = some (.int .i64 (fix T j : Nat)) by simp [nats, hj]))
  have hfn := hid (show (nats ((List.range T.n).map (fix T))).length = T.n by simp [nats])
  have hflt := hid (fun j (hj : j < T.n) => fix_lt (T := T) j hj)
  have huq := hid (bfs_uniq hT (fun q hq => fix_lt q hq) q hq)
  have hum := hid (fun s hs st (h : Uniq T.n st) x hx => Uniq.meets (T := T) (c := fix T) hT (fun q hq => fix_lt q hq) (s := s) hs h x hx)
  have hfin := hid (fun i hi => fin_of hT (c := fix T) (fun q hq => fix_lt q hq) (q := q) (i := i) hq hi)
  have hclo := hid (fin_closed hT (c := fix T) (fun q hq => fix_lt q hq) hq)
  have hsm := hid (fun i s hi => bfs_some T (fix T) (q := q) (i := i) (s := s) hi)
  have hnx := hid (fun q x (hq : q < T.n) (hx : x < T.L) => hT.nx q x hq hx)
  have hlit := hid (fun q (hq : q < T.n) => rc1_lit256 T.ot T.L q (fun x hx => hot q x hq hx))
  have hstp := hid (fun st i x s hx hs => gthS_step T (fix T) st i x s hx hL hs)
  have hrow := hid (fun st i => gthS_row T (fix T) st i hL)
  have hgo := hid (fun st i s a0 a1 a2 hs h0 h1 h2 => gthS_out T (fix T) st i s a0 a1 a2 hs h0 h1 h2)
  have hgz := hid (fun st => gthP_zero T (fix T) st)
  replace hT := hid hT
  clear hG
  generalize hFL : nats ((List.range T.n).map (fix T)) = FL at *
  replace hFL := hid hFL
  generalize hLL : T.L = L at *
  replace hLL := hid hLL
  generalize hnn : T.n = n at *
  replace hnn := hid hnn
  generalize hzs : mcells ⟨0, 0, fun _ => 0, fun _ => 0⟩ = zs at *
  replace hzs := hid hzs
  go_enter Try.func237, Try.ntmps237
  go_upto_region 1 with (fail)
  generalize (w.alloc (.cells #[.int .i64 L, .slice (some ⟨gN, 0, none⟩) n cN, .slice (some ⟨gO, 0, none⟩) n cO] 232)).alloc (.cells zs 27) = wa at *
  go_cut [6, 7] from 16 to 21 (fun c d wr => ∃ gC cC gM, c = .slice (some ⟨gC, 0, none⟩) n cC ∧ d = .slice (some ⟨gM, 0, none⟩) n n ∧ St w.heap.size w [Asn.own w.heap.size 2 (.slice (some ⟨gM, 0, none⟩) n n) (ints (filM 0 n)), Asn.own w.heap.size 2 (.slice (some ⟨gC, 0, none⟩) n cC) FL, Asn.mb 27 (w.heap.size + 1) ⟨0, 0, fun _ => 0, fun _ => 0⟩, Asn.blk w.heap.size #[.int .i64 L, .slice (some ⟨gN, 0, none⟩) n cN, .slice (some ⟨gO, 0, none⟩) n cO] 232] wr)
  case first =>
    have hrg := hid (fun (W : World) (h : W.heap[w.heap.size]? = some (.cells #[.int .i64 L, .slice (some ⟨gN, 0, none⟩) n cN, .slice (some ⟨gO, 0, none⟩) n cO] 232 (0, 0))) => (show W.rangeAt w.heap.size 0 [.int .i64 L, .slice (some ⟨gN, 0, none⟩) n cN, .slice (some ⟨gO, 0, none⟩) n cO] from fun j u hu => by rw [Nat.zero_add, cell_of_row _ _ j _ _ _ h]; simpa using hu))
    replace hS := hid hS.out.drew
    have hT0 := hrg.out _ hS.out.k1
    refine wp_region_heldL (L := [(1, (fun w' : World => w'.rangeAt w.heap.size 0 [.int .i64 L, .slice (some ⟨gN, 0, none⟩) n cN, .slice (some ⟨gO, 0, none⟩) n cO])), (5, (fun w' : World => w'.rangeAt w.heap.size 0 [.int .i64 L, .slice (some ⟨gN, 0, none⟩) n cN, .slice (some ⟨gO, 0, none⟩) n cO]))]) (by kernel_rfl) (HeldL.cons (fun _ => hT0) (HeldL.cons (fun _ => hT0) HeldL.nil)) (fun hHeld => ?_)
    clear hT0
    generalize wa.drew = wb at *
    refine wpAnyL_takeP (i := 0) 1 [] (v := (.agg #[.int .i64 L, .slice (some ⟨gN, 0, none⟩) n cN, .slice (some ⟨gO, 0, none⟩) n cO])) (fun w' : World => w'.rangeAt w.heap.size 0 [.int .i64 L, .slice (some ⟨gN, 0, none⟩) n cN, .slice (some ⟨gO, 0, none⟩) n cO]) rfl (by kernel_rfl) (by kernel_rfl) (by kernel_rfl) (by rfl) (by kernel_rfl) (by simp) (fun _ _ _ h => h) (Or.inl ⟨by rfl, ?_⟩) (by assumption) ?_
    · (intro W hW; exact exec_load _ rfl rfl (run_loadVar_mid _ _ _ _ _ _ hW Try.underlying232 rfl sz_large))
    intro hHeld'
    clear hHeld; have hHeld := hHeld'; clear hHeld'
    try simp only [Act.put, List.setIfInBounds_toArray, List.set_cons_zero, List.set_cons_succ]
    refine wpAnyL_take0 (i := 2) (v := ?_) rfl (by kernel_rfl) (by kernel_rfl) (by kernel_rfl) (by rfl) (fun _ _ _ h => h) (Or.inl ⟨by rfl, ?_⟩) (by assumption) ?_
    rotate_left
    · (intro W _; go_simp; (with_reducible rfl))
    intro hHeld'
    clear hHeld; have hHeld := hHeld'; clear hHeld'
    try simp only [Act.put, List.setIfInBounds_toArray, List.set_cons_zero, List.set_cons_succ]
    refine wpAnyL_takeP (i := 3) 5 [4] (v := ?_) (fun w' : World => w'.rangeAt w.heap.size 0 [.int .i64 L, .slice (some ⟨gN, 0, none⟩) n cN, .slice (some ⟨gO, 0, none⟩) n cO]) rfl (by kernel_rfl) (by kernel_rfl) (by kernel_rfl) (by rfl) (by kernel_rfl) (by simp) (fun _ _ _ h => h) (Or.inl ⟨by rfl, ?_⟩) (by assumption) ?_
    rotate_left
    · (intro W hW; (have h1 : W.cell? ⟨w.heap.size, 1, none⟩ = some (.slice (some ⟨gN, 0, none⟩) n cN) := hW 1 _ rfl); go_simp; (with_reducible rfl))
    intro hHeld'
    clear hHeld; have hHeld := hHeld'; clear hHeld'
    try simp only [Act.put, List.setIfInBounds_toArray, List.set_cons_zero, List.set_cons_succ]
    refine wpAnyL_take0 (i := 4) (v := ?_) rfl (by kernel_rfl) (by kernel_rfl) (by kernel_rfl) (by rfl) (fun _ _ _ h => h) (Or.inl ⟨by rfl, ?_⟩) (by assumption) ?_
    rotate_left
    · (intro W _; go_simp; (with_reducible rfl))
    intro hHeld'
    clear hHeld; have hHeld := hHeld'; clear hHeld'
    try simp only [Act.put, List.setIfInBounds_toArray, List.set_cons_zero, List.set_cons_succ]
    refine wpAnyL_ready (rs := [1, 5]) (by kernel_rfl) (by simp) ?_
    refine AllReadyL.cons rfl (fun K hK => ?_) ?_
    · go_simp
      go_at_call 246
      (with_reducible refine (hcl.out _ (hGW.out _ hS.out.bel)).mono ?_)
      rintro e w1 ⟨vC, rfl, hO, hb⟩
      obtain ⟨gC, cC, rfl, _, _⟩ := hO.blk (fun e => by have h1 := congrArg List.length e; rw [hfn.out, List.length_nil] at h1; omega)
      rw [hfn.out] at hO
      rw [hfn.out]
      replace hS := hid (hS.out.callOwn hb hO)
      clear hO hb
      go_simp
      refine hK.out _ _ (HeldL.cons (fun _ => hrg.out _ hS.out.k2) (HeldL.cons (fun _ => hrg.out _ hS.out.k2) HeldL.nil)) (fun hHeld' => ?_)
      clear hK K hHeld; have hHeld := hHeld'; clear hHeld'
      try simp only [Act.put, List.setIfInBounds_toArray, List.set_cons_zero, List.set_cons_succ]
      refine wpAnyL_take0 (i := 6) (v := ?_) rfl (by kernel_rfl) (by kernel_rfl) (by kernel_rfl) (by rfl) (fun _ _ _ h => h) (Or.inl ⟨by rfl, ?_⟩) (by assumption) ?_
      rotate_left
      · (intro W _; go_simp; (with_reducible rfl))
      intro hHeld'
      clear hHeld; have hHeld := hHeld'; clear hHeld'
      try simp only [Act.put, List.setIfInBounds_toArray, List.set_cons_zero, List.set_cons_succ]
      refine wpAnyL_ready (rs := [5]) (by kernel_rfl) (by simp) ?_
      refine AllReadyL.cons rfl (fun K hK => ?_) AllReadyL.nil
      go_simp
      replace hS := hid (hS.out.newArr mc n hmcs.out 2 (by omega))
      rw [hmc.out, filM_zero] at hS
      refine hK.out _ _ (HeldL.cons (fun h => absurd h (by decide +kernel)) (HeldL.cons (fun h => absurd h (by decide +kernel)) HeldL.nil)) (fun hHeld' => ?_)
      clear hK K hHeld; have hHeld := hHeld'; clear hHeld'
      try simp only [Act.put, List.setIfInBounds_toArray, List.set_cons_zero, List.set_cons_succ]
      refine wpAnyL_take0 (i := 7) (v := ?_) rfl (by kernel_rfl) (by kernel_rfl) (by kernel_rfl) (by rfl) (fun _ _ _ h => h) (Or.inl ⟨by rfl, ?_⟩) (by assumption) ?_
      rotate_left
      · (intro W _; go_simp; (with_reducible rfl))
      intro hHeld'
      clear hHeld; have hHeld := hHeld'; clear hHeld'
      try simp only [Act.put, List.setIfInBounds_toArray, List.set_cons_zero, List.set_cons_succ]
      refine wpAnyL_done (by kernel_rfl) ?_ _
      go_wp2
      go_meet
      case rel => exact ⟨gC, cC, _, rfl, rfl, hS.out⟩
    refine AllReadyL.cons rfl (fun K hK => ?_) AllReadyL.nil
    go_simp
    replace hS := hid (hS.out.newArr mc n hmcs.out 2 (by omega))
    rw [hmc.out, filM_zero] at hS
    generalize wb.heap.size = gM at *
    generalize wb.alloc (.cells mc 2) = wc at *
    refine hK.out _ _ (HeldL.cons (fun _ => hrg.out _ hS.out.k2) (HeldL.cons (fun _ => hrg.out _ hS.out.k2) HeldL.nil)) (fun hHeld' => ?_)
    clear hK K hHeld; have hHeld := hHeld'; clear hHeld'
    try simp only [Act.put, List.setIfInBounds_toArray, List.set_cons_zero, List.set_cons_succ]
    refine wpAnyL_ready (rs := [1]) (by kernel_rfl) (by simp) ?_
    refine AllReadyL.cons rfl (fun K hK => ?_) AllReadyL.nil
    go_simp
    go_at_call 246
    (with_reducible refine (hcl.out _ (hGW.out _ hS.out.bel)).mono ?_)
    rintro e w1 ⟨vC, rfl, hO, hb⟩
    obtain ⟨gC, cC, rfl, _, _⟩ := hO.blk (fun e => by have h1 := congrArg List.length e; rw [hfn.out, List.length_nil] at h1; omega)
    rw [hfn.out] at hO
    rw [hfn.out]
    replace hS := hid (hS.out.callOwn hb hO)
    clear hO hb
    go_simp
    refine hK.out _ _ (HeldL.cons (fun _ => hrg.out _ hS.out.k3) (HeldL.cons (fun _ => hrg.out _ hS.out.k3) HeldL.nil)) (fun hHeld' => ?_)
    clear hK K hHeld; have hHeld := hHeld'; clear hHeld'
    try simp only [Act.put, List.setIfInBounds_toArray, List.set_cons_zero, List.set_cons_succ]
    refine wpAnyL_take0 (i := 6) (v := ?_) rfl (by kernel_rfl) (by kernel_rfl) (by kernel_rfl) (by rfl) (fun _ _ _ h => h) (Or.inl ⟨by rfl, ?_⟩) (by assumption) ?_
    rotate_left
    · (intro W _; go_simp; (with_reducible rfl))
    intro hHeld'
    clear hHeld; have hHeld := hHeld'; clear hHeld'
    try simp only [Act.put, List.setIfInBounds_toArray, List.set_cons_zero, List.set_cons_succ]
    refine wpAnyL_take0 (i := 7) (v := ?_) rfl (by kernel_rfl) (by kernel_rfl) (by kernel_rfl) (by rfl) (fun _ _ _ h => h) (Or.inl ⟨by rfl, ?_⟩) (by assumption) ?_
    rotate_left
    · (intro W _; go_simp; (with_reducible rfl))
    intro hHeld'
    clear hHeld; have hHeld := hHeld'; clear hHeld'
    try simp only [Act.put, List.setIfInBounds_toArray, List.set_cons_zero, List.set_cons_succ]
    refine wpAnyL_done (by kernel_rfl) ?_ _
    go_wp2
    go_meet
    case rel => exact ⟨gC, cC, gM, rfl, rfl, hS.out.f1⟩
  case rest =>
    obtain ⟨gC, cC, gM, rfl, rfl, rS⟩ := hcut
    clear hcl hS
    replace rS := hid rS
    go_wp2
    go_loopw [8] (fun i wr => ∃ j : Nat, j ≤ n ∧ i = .int .i64 j ∧ St w.heap.size w [Asn.own w.heap.size 2 (.slice (some ⟨gM, 0, none⟩) n n) (ints (filM j n)), Asn.own w.heap.size 2 (.slice (some ⟨gC, 0, none⟩) n cC) FL, Asn.mb 27 (w.heap.size + 1) ⟨0, 0, fun _ => 0, fun _ => 0⟩, Asn.blk w.heap.size #[.int .i64 L, .slice (some ⟨gN, 0, none⟩) n cN, .slice (some ⟨gO, 0, none⟩) n cO] 232] wr) (fun i _ => n - (intOf i).toNat)
    case atStart => exact ⟨0, Nat.zero_le _, rfl, rS.out⟩
    case round =>
      obtain ⟨j, hj, rfl, rS⟩ := hrel
      replace rS := hid rS
      by_cases hjn : j < n
      · have dj : decide ((j : Int) < (n : Int)) = true := decide_eq_true (by omega)
        obtain ⟨u, hu⟩ : ∃ u, (ints (filM j n))[j]? = some u := ⟨_, List.getElem?_eq_getElem (by rw [ints_length, filM_length]; exact hjn)⟩
        have co := Own.cellAt rS.out.o0 j u hu
        have fo := Own.frozenAt rS.out.o0 (by rw [ints_length, filM_length]) j
        have hset := hid (filM_set j n)
        have rS2 := hid (rS.out.setOwn (by rw [ints_length, filM_length]) j (.int .i64 (-1)) hjn)
        rw [hset.out] at rS2
        clear hu
        go_wp2
        go_roundw
        case rel => exact ⟨j + 1, by omega, by go_num, rS2.out⟩
        case measure => simp [intOf]; omega
      · obtain rfl : n = j := by omega
        have dj : decide ((n : Int) < (n : Int)) = false := decide_eq_false (by omega)
        have yS := rS.out
        rw [filM_all] at yS
        replace yS := hid yS
        clear rS
        have hfq := hflt.out q hq
        have cq := Own.cellAt yS.out.o1 q _ (hfl.out q hq)
        go_upto_region 7 with (fail)
        clear cq
        have zS := hid (yS.out.newOwn [.int .i64 (fix T q : Nat)] 2 (by simp))
        clear yS
        have hFE : (Array.mk [Value.int .i64 (fix T q : Nat)]) = #[Value.int .i64 (fix T q : Nat)] := rfl
        generalize wr.heap.size = gQ at *
        generalize wr.alloc (.cells #[.int .i64 (fix T q : Nat)] 2) = wa at *
        clear hFE
        have cq := Own.cellAt zS.out.o2 q _ (hfl.out q hq)
        have co := Own.cellAt zS.out.o1 (fix T q) _ (nmL_get [] n _ hfq)
        have fo := Own.frozenAt zS.out.o1 (by rw [ints_length, nmL_length]) (fix T q)
        have hset := hid (show (ints (nmL [] n)).set (fix T q) (.int .i64 0) = ints (nmL [fix T q] n) from nmL_add [] n (fix T q) (by simp))
        have tS := hid (zS.out.f1.setOwn (by rw [ints_length, nmL_length]) (fix T q) (.int .i64 0) hfq)
        rw [hset.out] at tS
        clear zS
        have h0 : bfs T (fix T) q 0 = [fix T q] := rfl
        replace tS := hid (show St w.heap.size w [Asn.own w.heap.size 2 (.slice (some ⟨gQ, 0, none⟩) 1 1) (nats (bfs T (fix T) q 0)), Asn.own w.heap.size 2 (.slice (some ⟨gM, 0, none⟩) n n) (ints (nmL (bfs T (fix T) q 0) n)), Asn.own w.heap.size 2 (.slice (some ⟨gC, 0, none⟩) n cC) FL, Asn.mb 27 (w.heap.size + 1) ⟨0, 0, fun _ => 0, fun _ => 0⟩, Asn.blk w.heap.size #[.int .i64 L, .slice (some ⟨gN, 0, none⟩) n cN, .slice (some ⟨gO, 0, none⟩) n cO] 232] _ from tS.out.f1)
        clear h0
        generalize fix T q = fq at *
        go_wp2
        clear cq co fo
        go_loopw [9, 10] (fun v i wr => ∃ i' N g1 c1, i = .int .i64 (i' : Nat) ∧ v = .slice (some ⟨g1, 0, none⟩) N c1 ∧ i' ≤ N ∧ (bfs T (fix T) q i').length = N ∧ St w.heap.size w [Asn.own w.heap.size 2 (.slice (some ⟨g1, 0, none⟩) N c1) (nats (bfs T (fix T) q i')), Asn.own w.heap.size 2 (.slice (some ⟨gM, 0, none⟩) n n) (ints (nmL (bfs T (fix T) q i') n)), Asn.own w.heap.size 2 (.slice (some ⟨gC, 0, none⟩) n cC) FL, Asn.mb 27 (w.heap.size + 1) ⟨0, 0, fun _ => 0, fun _ => 0⟩, Asn.blk w.heap.size #[.int .i64 L, .slice (some ⟨gN, 0, none⟩) n cN, .slice (some ⟨gO, 0, none⟩) n cO] 232] wr) (fun _ i _ => n - (intOf i).toNat)
        case atStart => exact ⟨0, 1, gQ, 1, rfl, rfl, by omega, rfl, tS.out⟩
        case round =>
          obtain ⟨i, N, g1, c1, rfl, rfl, hiN, hN, rS⟩ := hrel
          clear tS
          have hNn := (huq.out i).len
          rw [hN] at hNn
          replace hN := hid hN
          replace rS := hid rS
          by_cases hlt : i < N
          · have dlt : decide ((i : Int) < (N : Int)) = true := decide_eq_true (by omega)
            obtain ⟨s, hs⟩ : ∃ s, (bfs T (fix T) q i)[i]? = some s := ⟨_, List.getElem?_eq_getElem (by rw [hN.out]; exact hlt)⟩
            have hsn := (huq.out i).2 s (List.mem_of_getElem? hs)
            have hms := hid (hsm.out i s hs)
            have huqm := hid (fun x hx => hum.out s hsn _ (huq.out i) x hx)
            have hpre := hid (fun x => (show (meets T (fix T) s (bfs T (fix T) q i) x)[i]? = some s from by
              obtain ⟨r, hr⟩ := meets_pre T (fix T) s (bfs T (fix T) q i) x
              rw [hr, List.getElem?_append_left (by rw [hN.out]; exact hlt)]
              exact hs))
            clear hs
            go_wp2
            go_loopw [9, 11] (fun v j wr => ∃ x N g1 c1, j = .int .i64 (x : Nat) ∧ v = .slice (some ⟨g1, 0, none⟩) N c1 ∧ x ≤ L ∧ i < N ∧ (meets T (fix T) s (bfs T (fix T) q i) x).length = N ∧ St w.heap.size w [Asn.own w.heap.size 2 (.slice (some ⟨g1, 0, none⟩) N c1) (nats (meets T (fix T) s (bfs T (fix T) q i) x)), Asn.own w.heap.size 2 (.slice (some ⟨gM, 0, none⟩) n n) (ints (nmL (meets T (fix T) s (bfs T (fix T) q i) x) n)), Asn.own w.heap.size 2 (.slice (some ⟨gC, 0, none⟩) n cC) FL, Asn.mb 27 (w.heap.size + 1) ⟨0, 0, fun _ => 0, fun _ => 0⟩, Asn.blk w.heap.size #[.int .i64 L, .slice (some ⟨gN, 0, none⟩) n cN, .slice (some ⟨gO, 0, none⟩) n cO] 232] wr) (fun _ j _ => L - (intOf j).toNat)
            case atStart => exact ⟨0, N, g1, c1, rfl, rfl, Nat.zero_le _, hlt, hN.out, rS.out⟩
            case round =>
              obtain ⟨x, N2, g2, c2, rfl, rfl, hx, hiN2, hN2, yS⟩ := hrel
              clear rS
              have e0 : wr.cell? ⟨w.heap.size, 0, none⟩ = some (.int .i64 (L : Int)) := cell_of_row _ _ 0 _ _ _ yS.k4
              replace yS := hid yS
              by_cases hxL : x < L
              · have dx : decide ((x : Int) < (L : Int)) = true := decide_eq_true (by omega)
                have e1 : wr.cell? ⟨w.heap.size, 1, none⟩ = some (.slice (some ⟨gN, 0, none⟩) n cN) := cell_of_row _ _ 1 _ _ _ yS.out.k4
                have e2 := yS.out.o0.cellAt i (.int .i64 (s : Nat)) (by simp [nats, hpre.out x])
                have e3 := hcN.out wr yS.out.bel s x hsn hxL
                have hrn := hnx.out s x hsn hxL
                have hsucc := hid (show meets T (fix T) s (bfs T (fix T) q i) (x + 1) = meet (meets T (fix T) s (bfs T (fix T) q i) x) (fix T (T.nx s x)) from rfl)
                have e4 := yS.out.o2.cellAt _ _ (hfl.out _ hrn)
                have hfr := hflt.out _ hrn
                have hN2n := (huqm.out x hx).len
                rw [hN2] at hN2n
                generalize T.nx s x = r at *
                generalize hmx : meets T (fix T) s (bfs T (fix T) q i) x = ms at *
                replace hmx := hid hmx
                generalize fix T r = fr at *
                have e5 := yS.out.o1.cellAt _ _ (nmL_get ms n fr hfr)
                have x3 : (x : Int) < 3 := by omega
                have x0 : (0 : Int) ≤ (x : Int) := Int.natCast_nonneg _
                have hN2' := hid hN2
                clear hN2
                by_cases hmem : fr ∈ ms
                · rw [if_pos hmem] at e5
                  have hsame := hid (show meet ms fr = ms from if_pos hmem)
                  have hix := List.idxOf_lt_length_of_mem hmem
                  rw [hN2'.out] at hix
                  clear hmem
                  generalize ms.idxOf fr = ix at *
                  have dn : decide ((ix : Int) < 0) = false := decide_eq_false (by omega)
                  go_upto_region 14 with (fail)
                  go_quiet (fail)
                  go_wp2
                  go_roundw
                  case rel => exact ⟨x + 1, N2, g2, c2, by go_num, rfl, by omega, hiN2, by rw [hsucc.out, hsame.out]; exact hN2'.out, by rw [hsucc.out, hsame.out]; exact yS.out.drewN _⟩
                  case measure => simp [intOf]; omega
                · rw [if_neg hmem] at e5
                  have hsame := hid (show meet ms fr = ms ++ [fr] from if_neg hmem)
                  have hadd := hid (nmL_add ms n fr hmem)
                  rw [hN2'.out] at hadd
                  have hlnat := hid (show (nats ms).length = N2 by rw [nats_length]; exact hN2'.out)
                  have hsnoc := hid (show nats (ms ++ [fr]) = nats ms ++ [.int .i64 (fr : Int)] by simp [nats])
                  clear hmem
                  go_upto_region 14 with (fail)
                  go_quiet (fail)
                  clear e0 e1 e2 e3 e4
                  replace yS := hid (yS.out.drewN nq)
                  have e6 : (wr.drewN nq).cell? ⟨gM, fr, none⟩ = some (.int .i64 (-1)) := e5
                  clear e5
                  generalize wr.drewN nq = wb at *
                  have fo := yS.out.o1.frozenAt (by rw [ints_length, nmL_length]) fr
                  have zS := hid (yS.out.f1.setOwn (by rw [ints_length, nmL_length]) fr (.int .i64 (N2 : Int)) hfr)
                  rw [hadd.out] at zS
                  clear yS
                  go_upto_region 17 with (fail)
                  clear e6 fo
                  generalize wb.setCell ⟨gM, fr, none⟩ (.int .i64 (N2 : Int)) = wc at *
                  go_wp2_with (first
                    | ((with_reducible refine gate (N := 80) rfl ?_); refine St.app 29 2 (.int .i64 0) 8 Try.underlying29 info_i64 rfl (by omega) rfl _ _ rfl _ _ rfl zS.out.f1 _ rfl rfl N2 hlnat.out (by omega) ?_; intro gn cn w4 zS'; replace zS := hid zS'; clear zS'))
                  go_roundw
                  case rel => exact ⟨x + 1, N2 + 1, gn, cn, by go_num, rfl, by omega, by omega, by rw [hsucc.out, hsame.out, List.length_append, hN2'.out]; rfl, by rw [hsucc.out, hsame.out, hsnoc.out]; exact zS.out⟩
                  case measure => simp [intOf]; omega
              · obtain rfl : L = x := by omega
                have dx : decide ((L : Int) < (L : Int)) = false := decide_eq_false (by omega)
                go_wp2
                go_roundw
                case rel => exact ⟨i + 1, N2, g2, c2, by go_num, rfl, by omega, by rw [hms.out]; exact hN2, by rw [hms.out]; exact yS.out⟩
                case measure => simp [intOf]; omega
          · obtain rfl : N = i := by omega
            have dlt : decide ((N : Int) < (N : Int)) = false := decide_eq_false (by omega)
            have hf := hid (hfin.out N hN.out)
            have hA := hid (show fromM T q = if (bfs T (fix T) q N).length ≤ 16 then gth T (fix T) (bfs T (fix T) q N) else ⟨0, 0, fun _ => 0, fun _ => 0⟩ by unfold fromM; rw [hf.out])
            have hC := hid (show fromB T q = decide ((bfs T (fix T) q N).length ≤ 16) by unfold fromB; rw [hf.out])
            rw [hN.out] at hA hC
            by_cases h16 : N ≤ 16
            · rw [if_pos h16] at hA
              rw [decide_eq_true h16] at hC
              have hclo2 := hid (fun s hs x hx => (by have h := hclo.out; rw [hf.out] at h; exact h s hs x hx : fix T (T.nx s x) ∈ bfs T (fix T) q N))
              have huqN := hid (huq.out N)
              generalize hst : bfs T (fix T) q N = st at *
              replace hst := hid hst
              have d16 : decide ((N : Int) > 16) = false := decide_eq_false (by omega)
              have e0 : wr.cell? ⟨w.heap.size, 0, none⟩ = some (.int .i64 (L : Int)) := cell_of_row _ _ 0 _ _ _ rS.out.k4
              have hle := hid rS.out.le
              clear hf
              go_upto_region 21 with (first
                | ((with_reducible refine gate (N := 89) rfl ?_); refine build_mach rfl _ _ rfl (L : Int) (N : Int) rfl rfl ?_)
                | ((with_reducible refine gateOp (op := .store 27 (.tmp 13) (.tmp 89)) rfl ?_); have zS := hid (hNew.out _ _ rS.out); refine store_mach rfl _ _ rfl wr.heap.size rfl ⟨(L : Int), (N : Int), fun _ => 0, fun _ => 0⟩ rfl 27 _ zS.out.m0 ?_; intro W1 p3 ho hsz hbl; replace zS := hid (zS.out.setM hle.out p3 ho hbl); clear p3 ho hsz hbl))
              clear rS e0
              have hz0 := hid (show gthP T (fix T) st 0 0 = ⟨(L : Int), (N : Int), fun _ => 0, fun _ => 0⟩ by rw [hgz.out st, hN.out])
              rw [← hz0.out] at zS
              generalize wr.heap.size = bM at *
              go_wp2
              go_loopw [14] (fun i wr => ∃ i' : Nat, i' ≤ N ∧ i = .int .i64 i' ∧ St w.heap.size w [Asn.mb 27 bM (gthP T (fix T) st i' 0), Asn.own w.heap.size 2 (.slice (some ⟨g1, 0, none⟩) N c1) (nats st), Asn.own w.heap.size 2 (.slice (some ⟨gM, 0, none⟩) n n) (ints (nmL st n)), Asn.own w.heap.size 2 (.slice (some ⟨gC, 0, none⟩) n cC) FL, Asn.mb 27 (w.heap.size + 1) ⟨0, 0, fun _ => 0, fun _ => 0⟩, Asn.blk w.heap.size #[.int .i64 L, .slice (some ⟨gN, 0, none⟩) n cN, .slice (some ⟨gO, 0, none⟩) n cO] 232] wr) (fun i _ => N - (intOf i).toNat)
              case atStart => exact ⟨0, Nat.zero_le _, rfl, zS.out⟩
              case round =>
                obtain ⟨i, hi, rfl, rS⟩ := hrel
                clear zS
                replace rS := hid rS
                by_cases hiN : i < N
                · have di : decide ((i : Int) < (N : Int)) = true := decide_eq_true (by omega)
                  obtain ⟨s, hs⟩ : ∃ s, st[i]? = some s := ⟨_, List.getElem?_eq_getElem (by rw [hN.out]; exact hiN)⟩
                  have hsm2 : s ∈ st := List.mem_of_getElem? hs
                  have hsn := huqN.out.2 s hsm2
                  have hcs := hid (fun x hx => hclo2.out s hsm2 x hx)
                  obtain ⟨b0, b1, b2, hrb, hb⟩ := hlit.out s hsn
                  have hgo2 := hid (hgo.out st i s b0 b1 b2 hs (by
                    have h := rc1_get .u8 T.ot L s 0 (by omega); rw [hrb] at h; simp at h; omega) (by
                    have h := rc1_get .u8 T.ot L s 1 (by omega); rw [hrb] at h; simp at h; omega) (by
                    have h := rc1_get .u8 T.ot L s 2 (by omega); rw [hrb] at h; simp at h; omega))
                  have hstp2 := hid (fun x hx => hstp.out st i x s hx hs)
                  have hsq := hid hs
                  clear hs hsm2 hb
                  have e1 : wr.cell? ⟨w.heap.size, 2, none⟩ = some (.slice (some ⟨gO, 0, none⟩) n cO) := cell_of_row _ _ 2 _ _ _ rS.out.k5
                  have e2 := rS.out.o1.cellAt i (.int .i64 (s : Nat)) (by simp [nats, hsq.out])
                  have rg := hid (hrO.out wr rS.out.bel s hsn)
                  rw [hrb] at rg
                  have hi0 : (0 : Int) ≤ (i : Int) := Int.natCast_nonneg _
                  have hi1 : (i : Int) < 16 := by omega
                  go_upto_region 24 with (fail)
                  refine wp_region_still_tail 11 (by kernel_rfl) (by kernel_rfl) ?_
                  simp only [List.take_succ_cons, List.take_zero, List.drop_succ_cons, List.drop_zero]
                  repeat (first
                    | ((with_reducible refine still_gate 104 rfl ?_); refine still_row rfl 24 _ rfl gO (s * 3) rfl _ _ rg.out Try.underlying24 rfl sz_b3 ?_)
                    | still_step)
                  try refine wpStill_nil ?_
                  change wpList _ _ _ _ _ wr.drew
                  replace rS := hid rS.out.drew
                  clear e1 e2 rg hrb
                  generalize wr.drew = wa at *
                  have hth := hid (rowIs_there (show wa.rowIs bM 27 98 _ from rS.out.m0) (50 + i * 3) 3 (by omega))
                  have hbM := hid (show w.heap.size ≤ bM from hle.out)
                  refine wpList_store_mid rfl 24 _ _ rfl bM (50 + i * 3) #[.int .u8 (b0 : Int), .int .u8 (b1 : Int), .int .u8 (b2 : Int)] rfl rfl hth.out sz_b3 (by simp [Value.oneCell']) ?_
                  have yS := hid (show St w.heap.size w (Asn.mb 27 bM (gthS T (fix T) st i 0) :: _) (wa.setCells bM (50 + i * 3) [.int .u8 (b0 : Int), .int .u8 (b1 : Int), .int .u8 (b2 : Int)]) from by rw [hgo2.out]; exact ((rS.out.setOt hbM.out i 0 b0 (by omega) (by omega)).setOt hbM.out i 1 b1 (by omega) (by omega)).setOt hbM.out i 2 b2 (by omega) (by omega))
                  clear rS hth
                  generalize wa.setCells bM (50 + i * 3) [.int .u8 (b0 : Int), .int .u8 (b1 : Int), .int .u8 (b2 : Int)] = wb at *
                  go_wp2
                  go_loopw [15] (fun j wr => ∃ x : Nat, x ≤ L ∧ j = .int .i64 x ∧ St w.heap.size w [Asn.mb 27 bM (gthS T (fix T) st i x), Asn.own w.heap.size 2 (.slice (some ⟨g1, 0, none⟩) N c1) (nats st), Asn.own w.heap.size 2 (.slice (some ⟨gM, 0, none⟩) n n) (ints (nmL st n)), Asn.own w.heap.size 2 (.slice (some ⟨gC, 0, none⟩) n cC) FL, Asn.mb 27 (w.heap.size + 1) ⟨0, 0, fun _ => 0, fun _ => 0⟩, Asn.blk w.heap.size #[.int .i64 L, .slice (some ⟨gN, 0, none⟩) n cN, .slice (some ⟨gO, 0, none⟩) n cO] 232] wr) (fun j _ => L - (intOf j).toNat)
                  case atStart => exact ⟨0, Nat.zero_le _, rfl, yS.out⟩
                  case round =>
                    obtain ⟨x, hx, rfl, zS⟩ := hrel
                    clear yS
                    have e0 : wr.cell? ⟨w.heap.size, 0, none⟩ = some (.int .i64 (L : Int)) := cell_of_row _ _ 0 _ _ _ zS.k5
                    replace zS := hid zS
                    by_cases hxL : x < L
                    · have dx : decide ((x : Int) < (L : Int)) = true := decide_eq_true (by omega)
                      have e1 : wr.cell? ⟨w.heap.size, 1, none⟩ = some (.slice (some ⟨gN, 0, none⟩) n cN) := cell_of_row _ _ 1 _ _ _ zS.out.k5
                      have e2 := zS.out.o1.cellAt i (.int .i64 (s : Nat)) (by simp [nats, hsq.out])
                      have e3 := hcN.out wr zS.out.bel s x hsn hxL
                      have hrn := hnx.out s x hsn hxL
                      have e4 := zS.out.o3.cellAt _ _ (hfl.out _ hrn)
                      have hfr := hflt.out _ hrn
                      have e5 := zS.out.o2.cellAt _ _ (nmL_get st n _ hfr)
                      rw [if_pos (hcs.out x hxL)] at e5
                      have hix := List.idxOf_lt_length_of_mem (hcs.out x hxL)
                      rw [hN.out] at hix
                      have hst3 := hid (hstp2.out x hxL)
                      generalize T.nx s x = r at *
                      generalize fix T r = fr at *
                      generalize st.idxOf fr = ix at *
                      have xm : ((ix : Int) % 256) = ix := by omega
                      have xm2 : IntKind.u8.wrap (ix : Int) = (ix : Int) := u8_in ix (by omega)
                      have x3 : (x : Int) < 3 := by omega
                      have x0 : (0 : Int) ≤ (x : Int) := Int.natCast_nonneg _
                      go_upto_region 28 with (fail)
                      refine wp_region_still_tail 22 (by kernel_rfl) (by kernel_rfl) ?_
                      simp only [List.take_succ_cons, List.take_zero, List.drop_succ_cons, List.drop_zero]
                      repeat still_step
                      try refine wpStill_nil ?_
                      change wpList _ _ _ _ _ wr.drew
                      replace zS := hid zS.out.drew
                      clear e0 e1 e2 e3 e4 e5
                      generalize wr.drew = wc at *
                      obtain ⟨vn, cn⟩ : ∃ u, wc.cell? ⟨bM, 2 + i * 3 + x, none⟩ = some u := ⟨_, zS.out.m0.cnx i x (by omega) (by omega)⟩
                      have fn : wc.frozen? ⟨bM, 2 + i * 3 + x, none⟩ = false := World.rowIs.frozen zS.out.m0 _
                      have tS := hid (zS.out.setNx hbM.out i x ix (by omega) (by omega))
                      rw [← hst3.out] at tS
                      clear zS
                      go_wp2
                      go_roundw
                      case rel => exact ⟨x + 1, by omega, by go_num, tS.out⟩
                      case measure => simp [intOf]; omega
                    · obtain rfl : L = x := by omega
                      have dx : decide ((L : Int) < (L : Int)) = false := decide_eq_false (by omega)
                      have hrw := hid (hrow.out st i)
                      go_wp2
                      go_roundw
                      case rel => exact ⟨i + 1, by omega, by go_num, by rw [← hrw.out]; exact zS.out⟩
                      case measure => simp [intOf]; omega
                · obtain rfl : N = i := by omega
                  have di : decide ((N : Int) < (N : Int)) = false := decide_eq_false (by omega)
                  have hgm := hid (show gthP T (fix T) st N 0 = gth T (fix T) st by unfold gth; rw [hN.out])
                  rw [hgm.out] at rS
                  generalize gth T (fix T) st = gm at *
                  go_wp2_with (first
                    | ((with_reducible refine gate (N := 135) rfl ?_); refine load_mach rfl _ rfl bM rfl gm rS.out.m0 ?_)
                    | ((with_reducible refine gateOp (op := .store 27 (.tmp 4) (.tmp 135)) rfl ?_); refine store_mach rfl _ _ rfl (w.heap.size + 1) rfl gm rfl 27 _ rS.out.m4 ?_; intro W3 p2 ho hsz hbl; have pB := hid (hbl _ _ (Nat.le_succ _) rS.out.bel); replace p2 := hid p2; clear ho hsz hbl))
                  exact ret_mach_v (v := .bool true) rfl rfl rfl p2.out rfl ⟨by rw [hA.out, hC.out], pB.out⟩
            · rw [if_neg h16] at hA
              rw [decide_eq_false h16] at hC
              have d16 : decide ((N : Int) > 16) = true := decide_eq_true (by omega)
              replace rS := hid rS.out.f3
              clear hf hN
              go_wp2_with (first
                | ((with_reducible refine gate (N := 84) rfl ?_); refine build_zero rfl rfl ?_)
                | ((with_reducible refine gateOp (op := .store 27 (.tmp 4) (.tmp 84)) rfl ?_); refine store_mach rfl _ _ rfl (w.heap.size + 1) rfl ⟨0, 0, fun _ => 0, fun _ => 0⟩ rfl 27 _ rS.out.m0 ?_; intro W3 p2 ho hsz hbl; have pB := hid (hbl _ _ (Nat.le_succ _) rS.out.bel); replace p2 := hid p2; clear ho hsz hbl))
              exact ret_mach_v (v := .bool false) rfl rfl rfl p2.out rfl ⟨by rw [hA.out, hC.out], pB.out⟩
end Go.Proofs.Ytbmkkaecfogmoaa

/- MachineOfState: what the program and the reference answer. -/
namespace Go.Proofs.Ytbmkkaecfogmoaa
open Go.RowKit
set_option linter.unusedVariables false
set_option linter.unusedSimpArgs false


open Classical in
/-- What MachineOfState answers. -/
noncomputable def mosAns (m : Mach) (q : Int) : Mach × Int := if codeI m { data := #[] } [q] = 0 then (fromM (tabOf m m.L.toNat m.S.toNat) q.toNat, 0) else (⟨0, 0, fun _ => 0, fun _ => 0⟩, codeI m { data := #[] } [q])
theorem mosAns_0 {m : Mach} {l s q : Nat} (g : Good m l s) (hq : q < s) : mosAns m q = (fromM (tabOf m l s) q, 0) := by
  unfold mosAns; rw [if_pos (codeI_one g ⟨by omega, by omega⟩), g.L, g.S]; rfl
theorem mosAns_2 {m : Mach} {l s : Nat} {q : Int} (g : Good m l s) (hq : ¬ (0 ≤ q ∧ q < (s : Int))) : mosAns m q = (⟨0, 0, fun _ => 0, fun _ => 0⟩, 2) := by
  unfold mosAns; rw [codeI_bad g hq, if_neg (by decide)]
theorem mosAns_1 {m : Mach} {q : Int} (hm : ¬ IsM m) : mosAns m q = (⟨0, 0, fun _ => 0, fun _ => 0⟩, 1) := by
  unfold mosAns; rw [codeI_1 hm, if_neg (by decide)]

set_option maxHeartbeats 1000000 in
theorem l07State_any (w : World) (m : Mach) (hk : m.Ok) (q : Int) :
    Calls Try.prog 171 #[.agg (mcells m), .int .i64 q] w fun e w' => e = .returned (.int .i64 (codeI m { data := #[] } [q])) ∧ Below w.heap.size w w' := by
  have hS := hid ((St.start w).newMB m 27)
  by_cases hm : IsM m
  · obtain ⟨l, s, g⟩ := hm.good
    have hi := hid (show Tells true (IsM m) from ⟨fun _ => hm, fun _ => rfl⟩)
    have gS := hid g.S
    have s1 := g.s1
    have s16 := g.s16
    by_cases hq : 0 ≤ q ∧ q < (s : Int)
    · rw [codeI_one g hq]
      have hin := hid (fun W => l01In_any q 0 ((s : Int) - 1) true (decide_eq_true (by omega)).symm W)
      replace hk := hid hk; clear hm hq g
      go_enter Try.func171, Try.ntmps171
      go_wp2_with (first
        | ((with_reducible refine gate (N := 6) rfl ?_); refine load_mach rfl _ rfl w.heap.size rfl m hS.out.m0 ?_)
        | (go_at_call 80; (with_reducible refine (l01Is_any _ m hk.out true hi.out.out).mono ?_); rintro e w1 ⟨rfl, hb⟩; replace hS := hid (hS.out.call hb); have cS := hS.out.m0.cS; rw [gS.out] at cS; clear hb hi)
        | (go_at_call 91; (with_reducible refine (hin.out _).mono ?_); rintro e w3 ⟨rfl, rfl⟩))
      go_ret
      exact ⟨rfl, hS.out.bel⟩
    · rw [codeI_bad g hq]
      have hin := hid (fun W => l01In_any q 0 ((s : Int) - 1) false (decide_eq_false (fun h => hq (by omega))).symm W)
      replace hk := hid hk; clear hm hq g
      go_enter Try.func171, Try.ntmps171
      go_wp2_with (first
        | ((with_reducible refine gate (N := 6) rfl ?_); refine load_mach rfl _ rfl w.heap.size rfl m hS.out.m0 ?_)
        | (go_at_call 80; (with_reducible refine (l01Is_any _ m hk.out true hi.out.out).mono ?_); rintro e w1 ⟨rfl, hb⟩; replace hS := hid (hS.out.call hb); have cS := hS.out.m0.cS; rw [gS.out] at cS; clear hb hi)
        | (go_at_call 91; (with_reducible refine (hin.out _).mono ?_); rintro e w3 ⟨rfl, rfl⟩))
      go_ret
      exact ⟨rfl, hS.out.bel⟩
  · rw [codeI_1 hm]
    have hi := hid (show Tells false (IsM m) from ⟨fun h => (by cases h), fun h => absurd h hm⟩)
    replace hk := hid hk; clear hm
    go_enter Try.func171, Try.ntmps171
    go_wp2_with (first
      | ((with_reducible refine gate (N := 6) rfl ?_); refine load_mach rfl _ rfl w.heap.size rfl m hS.out.m0 ?_)
      | (go_at_call 80; (with_reducible refine (l01Is_any _ m hk.out false hi.out.out).mono ?_); rintro e w1 ⟨rfl, hb⟩; replace hS := hid (hS.out.call hb); clear hb hi))
    go_ret
    exact ⟨rfl, hS.out.bel⟩
theorem codeI_cases (m : Mach) (q : Int) : codeI m { data := #[] } [q] = 1 ∨ codeI m { data := #[] } [q] = 2 ∨ ∃ l s q', Good m l s ∧ q = ((q' : Nat) : Int) ∧ q' < s ∧ codeI m { data := #[] } [q] = 0 := by
  by_cases hm : IsM m
  · obtain ⟨l, s, g⟩ := hm.good
    by_cases hq : 0 ≤ q ∧ q < (s : Int)
    · obtain ⟨q', rfl⟩ := Int.eq_ofNat_of_zero_le hq.1
      exact .inr (.inr ⟨l, s, q', g, rfl, by omega, codeI_one g hq⟩)
    · exact .inr (.inl (codeI_bad g hq))
  · exact .inl (codeI_1 hm)


end Go.Proofs.Ytbmkkaecfogmoaa

/- The product of two states: the reference's side. -/
namespace Go.Proofs.Ytbmkkaecfogmoaa
open Go.RowKit
set_option linter.unusedVariables false
set_option linter.unusedSimpArgs false

/-- A row of bytes that is filled. -/
def fil3b (f : Nat → Nat → Nat) (q x : Nat) : Array Value := #[.int .u8 ((if 0 < x then f q 0 else 0 : Nat) : Int), .int .u8 ((if 1 < x then f q 1 else 0 : Nat) : Int), .int .u8 ((if 2 < x then f q 2 else 0 : Nat) : Int)]
theorem fil3b_set (f : Nat → Nat → Nat) (q x : Nat) (hx : x < 3) : (fil3b f q x).setIfInBounds x (.int .u8 (f q x : Nat)) = fil3b f q (x + 1) := by
  have : x = 0 ∨ x = 1 ∨ x = 2 := by omega
  rcases this with rfl | rfl | rfl <;> simp [fil3b, Array.setIfInBounds]
theorem fil3b_all (f : Nat → Nat → Nat) (q L : Nat) : fil3b f q L = (rc1 .u8 f L q).toArray := rfl
theorem fil3b_get (f : Nat → Nat → Nat) (q x j : Nat) (hj : j < 3) : ∃ u, (fil3b f q x)[j]? = some u := ⟨_, Array.getElem?_eq_getElem (by simpa [fil3b] using hj)⟩

set_option maxHeartbeats 8000000 in
set_option maxRecDepth 100000 in
theorem l07Product_any (w : World) (m k : Mach) (l s s' : Nat) (g : Good m l s) (g' : Good k l s') (q r : Nat) (hq : q < s) (hr : r < s') :
    Calls Try.prog 173 #[.agg (mcells m), .int .i64 q, .agg (mcells k), .int .i64 r] w fun e w' => e = .returned (.tuple #[.agg (mcells (fromM (prodT m k l s s') (q * s' + r))), .bool (fromB (prodT m k l s s') (q * s' + r))]) ∧ Below w.heap.size w w' := by
  have hz := zero_mach
  have gL := hid g.L
  have gS := hid g.S
  have gS' := hid g'.S
  have l2 := g.l2
  have l3 := g.l3
  have s16 := g.s16
  have s16' := g'.s16
  have hlt := hid (fun a b x (ha : a < s) (hb : b < s') (hx : x < l) => (show m.nx (a * 3 + x) < 16 ∧ m.ot (a * 3 + x) < 3 ∧ k.nx (b * 3 + m.ot (a * 3 + x)) < 16 ∧ k.ot (b * 3 + m.ot (a * 3 + x)) < 3 from by
    have h1 := g.nx a x ha hx; have h2 := g.ot a x ha hx; have h3 := g'.nx b _ hb h2; have h4 := g'.ot b _ hb h2
    exact ⟨by omega, by omega, by omega, by omega⟩))
  have hTn := hid (show (prodT m k l s s').n = s * s' from rfl)
  have hTL := hid (show (prodT m k l s s').L = l from rfl)
  have hst := hid (fun W vN vO hW => l07Start_any W w.heap.size (q * s' + r) vN vO (prodT m k l s s') (prod_ok g g') g.l3 (by show 0 < l; omega) (Nat.lt_of_le_of_lt (prod_n g g') (by omega)) (prod_o256 g g') hW (prod_in hq hr))
  rw [hTL.out] at hst
  have eN := hid (fun a b P x => prod_nx (a := a) (b := b) (P := P) (s' := s') m k l s x)
  have eO := hid (fun a b P x => prod_ot (a := a) (b := b) (P := P) (s' := s') m k l s x)
  have hN := hid (fun L W (h : St w.heap.size w L W) => h.newMB ⟨0, 0, fun _ => 0, fun _ => 0⟩ 27)
  have hS := hid ((((((St.start w).newMB m 27).newMB k 27).newMB ⟨0, 0, fun _ => 0, fun _ => 0⟩ 27).newBlk #[.int .i64 (l : Int), .slice none 0 0, .slice none 0 0] 232).nilN 24 3)
  replace hS := hid (hS.out.nilN 233 3)
  simp only [heap_alloc_size] at hS
  have cL := hid (((MB.new w m 27).alloc (.cells (mcells k) 27)).alloc (.cells (mcells ⟨0, 0, fun _ => 0, fun _ => 0⟩) 27))
  have cL2 := cL.out.cL
  rw [gL.out] at cL2
  clear cL
  have hqs := hid hq; have hrs := hid hr
  obtain ⟨V0, hV0⟩ : ∃ V, V = q * s' := ⟨_, rfl⟩
  have hVb0 : V0 ≤ 256 := by rw [hV0]; exact Nat.mul_le_mul (Nat.le_trans (Nat.le_of_lt hq) s16) s16'
  have hu1 : IntKind.i64.wrap ((q : Int) * (s' : Int)) = (V0 : Int) := by rw [show (q : Int) * (s' : Int) = (V0 : Int) by rw [hV0]; exact (Int.natCast_mul _ _).symm]; exact IntWalk.i64_in _ (by omega)
  rw [← hV0] at hst ⊢
  replace hV0 := hid hV0
  clear g g' hq hr
  generalize fromB (prodT m k l s s') (V0 + r) = fb at *
  generalize fromM (prodT m k l s s') (V0 + r) = fm at *
  generalize hgT : prodT m k l s s' = T at *
  clear hgT
  generalize mcells ⟨0, 0, fun _ => 0, fun _ => 0⟩ = zs at *
  generalize hmc : mcells m = mc at *
  generalize hkc : mcells k = kc at *
  replace hu1 := hid hu1
  go_enter Try.func173, Try.ntmps173
  go_wp2
  clear cL2
  go_loopw [11] (fun i wr => ∃ a P : Nat, a ≤ s ∧ Hid (P = a * s') ∧ i = .int .i64 a ∧ ∃ vN vO, St w.heap.size w [Asn.ownN w.heap.size 233 3 vN P (rcs .i64 T.nx l P), Asn.ownN w.heap.size 24 3 vO P (rcs .u8 T.ot l P), Asn.blk (w.heap.size + 1 + 1 + 1) #[.int .i64 (l : Int), vN, vO] 232, Asn.mb 27 (w.heap.size + 1 + 1) ⟨0, 0, fun _ => 0, fun _ => 0⟩, Asn.mb 27 (w.heap.size + 1) k, Asn.mb 27 w.heap.size m] wr) (fun i _ => s - (intOf i).toNat)
  case atStart => exact ⟨0, 0, Nat.zero_le _, hid (Nat.zero_mul _).symm, rfl, _, _, hS.out⟩
  case round =>
    obtain ⟨a, P, ha, hP, rfl, vN, vO, rS⟩ := hrel
    clear hS
    have cS := rS.m5.cS
    rw [gS.out] at cS
    replace rS := hid rS
    by_cases has : a < s
    · have dq : decide ((a : Int) < (s : Int)) = true := decide_eq_true (by omega)
      go_wp2
      clear cS
      go_loopw [12] (fun i wr => ∃ b : Nat, b ≤ s' ∧ i = .int .i64 b ∧ ∃ vN vO, St w.heap.size w [Asn.ownN w.heap.size 233 3 vN (P + b) (rcs .i64 T.nx l (P + b)), Asn.ownN w.heap.size 24 3 vO (P + b) (rcs .u8 T.ot l (P + b)), Asn.blk (w.heap.size + 1 + 1 + 1) #[.int .i64 (l : Int), vN, vO] 232, Asn.mb 27 (w.heap.size + 1 + 1) ⟨0, 0, fun _ => 0, fun _ => 0⟩, Asn.mb 27 (w.heap.size + 1) k, Asn.mb 27 w.heap.size m] wr) (fun i _ => s' - (intOf i).toNat)
      case atStart => exact ⟨0, Nat.zero_le _, rfl, _, _, rS.out⟩
      case round =>
        obtain ⟨b, hb, rfl, vN, vO, tS⟩ := hrel
        clear rS
        have cS := tS.m4.cS
        rw [gS'.out] at cS
        replace tS := hid tS
        by_cases hbs : b < s'
        · have db : decide ((b : Int) < (s' : Int)) = true := decide_eq_true (by omega)
          have hbn2 : w.heap.size ≤ wr.heap.size := tS.out.le
          go_wp2
          have yS := hid (show St w.heap.size w (Asn.blk wr.heap.size (fil3 T.nx (P + b) 0) 233 :: Asn.blk (wr.heap.size + 1) (fil3b T.ot (P + b) 0) 24 :: _) _ from (by have h := ((tS.out.newBlk #[.int .i64 0, .int .i64 0, .int .i64 0] 233).newBlk #[.int .u8 0, .int .u8 0, .int .u8 0] 24).f1; rw [heap_alloc_size] at h; exact h))
          clear tS cS
          generalize (wr.alloc (.cells #[.int .i64 0, .int .i64 0, .int .i64 0] 233)).alloc (.cells #[.int .u8 0, .int .u8 0, .int .u8 0] 24) = wa at *
          generalize wr.heap.size = bn at *
          go_loopw [15] (fun i wr => ∃ x : Nat, x ≤ l ∧ i = .int .i64 x ∧ St w.heap.size w [Asn.blk bn (fil3 T.nx (P + b) x) 233, Asn.blk (bn + 1) (fil3b T.ot (P + b) x) 24, Asn.ownN w.heap.size 233 3 vN (P + b) (rcs .i64 T.nx l (P + b)), Asn.ownN w.heap.size 24 3 vO (P + b) (rcs .u8 T.ot l (P + b)), Asn.blk (w.heap.size + 1 + 1 + 1) #[.int .i64 (l : Int), vN, vO] 232, Asn.mb 27 (w.heap.size + 1 + 1) ⟨0, 0, fun _ => 0, fun _ => 0⟩, Asn.mb 27 (w.heap.size + 1) k, Asn.mb 27 w.heap.size m] wr) (fun i _ => l - (intOf i).toNat)
          case atStart => exact ⟨0, Nat.zero_le _, rfl, yS.out⟩
          case round =>
            obtain ⟨x, hx, rfl, zS⟩ := hrel
            clear yS
            replace zS := hid zS
            have mM := hid (show MB wr 27 w.heap.size m from zS.out.drop.g6)
            have mK := hid (show MB wr 27 (w.heap.size + 1) k from zS.out.drop.g5)
            have cL := mM.out.cL
            rw [gL.out] at cL
            by_cases hxl : x < l
            · have dx : decide ((x : Int) < (l : Int)) = true := decide_eq_true (by omega)
              obtain ⟨t1, t2, t3, t4⟩ := hlt.out a b x has hbs hxl
              have c1 := mM.out.cnx a x (by omega) (by omega)
              have c2 := mM.out.cot a x (by omega) (by omega)
              have c3 := mK.out.cnx b (m.ot (a * 3 + x)) (by omega) (by omega)
              have c4 := mK.out.cot b (m.ot (a * 3 + x)) (by omega) (by omega)
              have cS := mK.out.cS
              rw [gS'.out] at cS
              have eF := eN.out a b P x hbs hP.out
              have eG := eO.out a b P x hbs hP.out
              obtain ⟨V, hV⟩ : ∃ V, V = m.nx (a * 3 + x) * s' := ⟨_, rfl⟩
              have hVb : V ≤ 256 := by rw [hV]; exact Nat.mul_le_mul (Nat.le_of_lt t1) s16'
              have hw1 : IntKind.i64.wrap ((m.nx (a * 3 + x) : Int) * (s' : Int)) = (V : Int) := by rw [show (m.nx (a * 3 + x) : Int) * (s' : Int) = (V : Int) by rw [hV]; exact (Int.natCast_mul _ _).symm]; exact IntWalk.i64_in _ (by omega)
              rw [← hV] at eF
              clear hV
              have hy3 : m.ot (a * 3 + x) < 3 := t2
              have hmk := hid (fun W (hW : MB W 27 (w.heap.size + 1) k) => hW.cot b (m.ot (a * 3 + x)) (by omega) (by omega))
              have hset1 := hid (fil3_set T.nx (P + b) x (by omega))
              have hset2 := hid (fil3b_set T.ot (P + b) x (by omega))
              rw [eF] at hset1
              rw [eG] at hset2
              clear c4
              clear eF eG
              generalize k.ot (b * 3 + m.ot (a * 3 + x)) = o2 at *
              generalize k.nx (b * 3 + m.ot (a * 3 + x)) = v2 at *
              generalize m.ot (a * 3 + x) = y at *
              generalize m.nx (a * 3 + x) = v1 at *
              have hw2 : IntKind.i64.wrap ((V : Int) + (v2 : Int)) = ((V + v2 : Nat) : Int) := by rw [show (V : Int) + (v2 : Int) = ((V + v2 : Nat) : Int) by omega]; exact IntWalk.i64_in _ (by omega)
              have hw3 := hid (show wrap64 ((v1 : Int) * (s' : Int)) = (V : Int) by rw [← IntWalk.i64_left]; exact hw1)
              have hw4 := hid (show (V : Int) + (v2 : Int) = ((V + v2 : Nat) : Int) by omega)
              generalize V + v2 = F at *
              have x3 : (x : Int) < 3 := by omega
              have x0 : (0 : Int) ≤ (x : Int) := Int.natCast_nonneg _
              have a0 : (0 : Int) ≤ (a : Int) := Int.natCast_nonneg _
              have a1 : (a : Int) < 16 := by omega
              have b0 : (0 : Int) ≤ (b : Int) := Int.natCast_nonneg _
              have b1 : (b : Int) < 16 := by omega
              have y0 : (0 : Int) ≤ (y : Int) := Int.natCast_nonneg _
              have y1 : (y : Int) < 3 := by omega
              go_upto_region 13 with (fail)
              refine wp_region_still_tail 19 (by kernel_rfl) (by kernel_rfl) ?_
              simp only [List.take_succ_cons, List.take_zero, List.drop_succ_cons, List.drop_zero]
              repeat still_step
              try refine wpStill_nil ?_
              change wpList _ _ _ _ _ wr.drew
              replace zS := hid zS.out.drew
              clear c1 c2 c3 cS cL mM mK
              generalize wr.drew = wc at *
              obtain ⟨u1, hu1'⟩ := fil3_get T.nx (P + b) x x (by omega)
              have co : wc.cell? ⟨bn, x, none⟩ = some u1 := (cell_of_row _ _ x _ _ _ zS.out.k0).trans hu1'
              have fo := frozen_of_row _ _ x _ _ zS.out.k0
              clear hu1'
              go_upto_region 14 with (fail)
              rw [hw3.out, hw4.out]
              replace zS := hid (zS.out.setBlk hbn2 x (.int .i64 (F : Int)))
              rw [hset1.out] at zS
              clear co fo
              generalize wc.setCell ⟨bn, x, none⟩ (.int .i64 (F : Int)) = we at *
              have c4 := hmk.out we zS.out.drop.g5
              obtain ⟨u2, hu2'⟩ := fil3b_get T.ot (P + b) x x (by omega)
              have co : we.cell? ⟨bn + 1, x, none⟩ = some u2 := (cell_of_row _ _ x _ _ _ zS.out.k1).trans hu2'
              have fo := frozen_of_row _ _ x _ _ zS.out.k1
              clear hu2'
              have zS2 := hid (zS.out.f1.setBlk (Nat.le_succ_of_le hbn2) x (.int .u8 (o2 : Int)))
              rw [hset2.out] at zS2
              go_wp2
              go_roundw
              case rel => exact ⟨x + 1, by omega, by go_num, zS2.out.f1⟩
              case measure => simp [intOf]; omega
            · obtain rfl : l = x := by omega
              rw [fil3_all, fil3b_all] at zS
              have cb1 : wr.cell? ⟨w.heap.size + 1 + 1 + 1, 1, none⟩ = some vN := cell_of_row _ _ 1 _ _ _ zS.out.k4
              have rg := hid (show wr.rangeAt bn 0 (rc1 .i64 T.nx l (P + b)) from fun j u hu => by rw [Nat.zero_add, cell_of_row _ _ j _ _ _ zS.out.k0]; simpa using hu)
              have hl1 := hid (show (rc1 .i64 T.nx l (P + b)).length = 3 by simp [rc1])
              have hl2 := hid (show (rc1 .u8 T.ot l (P + b)).length = 3 by simp [rc1])
              have ho1 := hid (rc1_one .i64 T.nx l (P + b))
              have ho2 := hid (rc1_one .u8 T.ot l (P + b))
              have hs1 := hid (show rcs .i64 T.nx l (P + (b + 1)) = _ from rcs_snoc .i64 T.nx l (P + b))
              have hs2 := hid (show rcs .u8 T.ot l (P + (b + 1)) = _ from rcs_snoc .u8 T.ot l (P + b))
              have hPb : P + b ≤ 256 := by have h1 := prod_in has hbs; have h2 : s * s' ≤ 256 := Nat.mul_le_mul s16 s16'; rw [hP.out]; omega
              obtain ⟨a0, a1, a2, hr1⟩ := rc1_lit .i64 T.nx l (P + b)
              obtain ⟨b0, b1, b2, hr2⟩ := rc1_lit .u8 T.ot l (P + b)
              rw [hr1] at hl1 ho1 hs1 rg zS
              rw [hr2] at hl2 ho2 hs2 zS
              replace hr1 := hid hr1; replace hr2 := hid hr2
              go_upto_region 16 with (first
                | ((with_reducible refine gate (N := 78) rfl ?_); refine wpList_load_mid rfl 233 _ rfl bn 0 rfl _ _ rg.out Try.underlying233 rfl (by rw [hl1.out]; exact sz_r3) ?_)
                | ((with_reducible refine gate (N := 80) rfl ?_); refine St.appNw 229 233 _ 3 24 Try.underlying229 info_r3 rfl (by omega) (by omega) rfl _ _ rfl vN (P + b) _ rfl zS.out.f2 [.int .i64 (a0 : Int), .int .i64 (a1 : Int), .int .i64 (a2 : Int)] hl1.out ho1.out rfl (by omega) ?_; intro gn cn w4 zS'; replace zS := hid zS'.f1.drop.f3; clear zS' cb1 rg; have cb2 := cell_of_row _ _ 1 _ _ _ zS.out.k0; have f2 := frozen_of_row _ _ 1 _ _ zS.out.k0))
              clear cb2 f2
              replace zS := hid (show St w.heap.size w (Asn.blk (w.heap.size + 1 + 1 + 1) #[.int .i64 (l : Int), .slice (some ⟨gn, 0, none⟩) (P + b + 1) cn, vO] 232 :: _) _ from zS.out.setBlk (by omega) 1 (.slice (some ⟨gn, 0, none⟩) (P + b + 1) cn))
              rw [← hs1.out] at zS
              generalize w4.setCell ⟨w.heap.size + 1 + 1 + 1, 1, none⟩ (.slice (some ⟨gn, 0, none⟩) (P + b + 1) cn) = w5 at *
              have cb1 : w5.cell? ⟨w.heap.size + 1 + 1 + 1, 2, none⟩ = some vO := cell_of_row _ _ 2 _ _ _ zS.out.k0
              have rg := hid (show w5.rangeAt (bn + 1) 0 [.int .u8 (b0 : Int), .int .u8 (b1 : Int), .int .u8 (b2 : Int)] from fun j u hu => by rw [Nat.zero_add, cell_of_row _ _ j _ _ _ zS.out.k2]; simpa using hu)
              go_wp2_with (first
                | ((with_reducible refine gate (N := 84) rfl ?_); refine wpList_load_mid rfl 24 _ rfl (bn + 1) 0 rfl _ _ rg.out Try.underlying24 rfl (by rw [hl2.out]; exact sz_b3) ?_)
                | ((with_reducible refine gate (N := 86) rfl ?_); refine St.appNw 230 24 _ 3 3 Try.underlying230 info_b3 rfl (by omega) (by omega) rfl _ _ rfl vO (P + b) _ rfl zS.out.f3 [.int .u8 (b0 : Int), .int .u8 (b1 : Int), .int .u8 (b2 : Int)] hl2.out ho2.out rfl (by omega) ?_; intro go co w6 zS'; replace zS := hid zS'.f1; clear zS' cb1 rg; have cb2 := cell_of_row _ _ 2 _ _ _ zS.out.k0; have f2 := frozen_of_row _ _ 2 _ _ zS.out.k0))
              clear cb2 f2
              replace zS := hid (show St w.heap.size w (Asn.blk (w.heap.size + 1 + 1 + 1) #[.int .i64 (l : Int), .slice (some ⟨gn, 0, none⟩) (P + b + 1) cn, .slice (some ⟨go, 0, none⟩) (P + b + 1) co] 232 :: _) _ from zS.out.setBlk (by omega) 2 (.slice (some ⟨go, 0, none⟩) (P + b + 1) co))
              rw [← hs2.out] at zS
              go_roundw
              case rel => exact ⟨b + 1, by omega, by go_num, _, _, zS.out.f3.drop.f2.s1⟩
              case measure => simp [intOf]; omega
        · obtain rfl : s' = b := by omega
          have hP' := hid (show P + s' = (a + 1) * s' by rw [hP.out]; exact (Nat.succ_mul a s').symm)
          go_wp2
          go_roundw
          case rel => exact ⟨a + 1, P + s', by omega, hP', by go_num, _, _, tS.out⟩
          case measure => simp [intOf]; omega
    · obtain rfl : s = a := by omega
      have hlg := hid (show LG wr w.heap.size vN vO T from ⟨by have h := rS.out.n0; rw [hP.out] at h; rw [hTn.out, hTL.out]; exact h, by have h := rS.out.n1; rw [hP.out] at h; rw [hTn.out, hTL.out]; exact h⟩)
      have rg := hid (show wr.rangeAt (w.heap.size + 1 + 1 + 1) 0 [.int .i64 (l : Int), vN, vO] from fun j u hu => by rw [Nat.zero_add, cell_of_row _ _ j _ _ _ rS.out.k2]; simpa using hu)
      have cK := rS.out.m4.cS
      rw [gS'.out] at cK
      have hU1 : IntKind.i64.wrap ((q : Int) * (s' : Int)) = (V0 : Int) := hu1.out
      have hr16 : r < 16 := by have := hrs.out; omega
      have hU2 : IntKind.i64.wrap ((V0 : Int) + (r : Int)) = ((V0 + r : Nat) : Int) := by rw [show (V0 : Int) + (r : Int) = ((V0 + r : Nat) : Int) by omega]; exact IntWalk.i64_in _ (by omega)
      generalize V0 + r = n0 at *
      go_wp2_with (first
        | ((with_reducible refine gate (N := 89) rfl ?_); refine wpList_load_mid rfl 232 _ rfl (w.heap.size + 1 + 1 + 1) 0 rfl [.int .i64 (l : Int), vN, vO] _ rg.out Try.underlying232 rfl sz_large ?_)
        | (go_at_call 237; (with_reducible refine (hst.out _ _ _ hlg.out).mono ?_); rintro e w2 ⟨rfl, hb⟩; have hle2 := hid (rS.out.call hb).le; replace rS := hid (hN.out _ _ (rS.out.call hb)); clear hb hlg hst rg cK)
        | ((with_reducible refine gateOp (op := .store 27 (.tmp 17) (.tmp 97)) rfl ?_); refine store_mach rfl _ _ rfl w2.heap.size rfl fm rfl 27 _ rS.out.m0 ?_; intro W1 p3 ho hsz hbl; replace rS := hid (rS.out.setM hle2.out p3 ho hbl); clear p3 ho hsz hbl)
        | ((with_reducible refine gate (N := 99) rfl ?_); refine load_mach rfl _ rfl w2.heap.size rfl fm rS.out.m0 ?_)
        | ((with_reducible refine gateOp (op := .store 27 (.tmp 8) (.tmp 99)) rfl ?_); refine store_mach rfl _ _ rfl (w.heap.size + 1 + 1) rfl fm rfl 27 _ rS.out.m4 ?_; intro W3 p2 ho hsz hbl; have pB := hid (hbl _ _ (by omega) rS.out.bel); replace p2 := hid p2; clear ho hsz hbl))
      exact ret_mach_v rfl rfl rfl p2.out rfl ⟨rfl, pB.out⟩
end Go.Proofs.Ytbmkkaecfogmoaa

/- Two machines and a state of each: their code, in the program and in the reference. -/
namespace Go.Proofs.Ytbmkkaecfogmoaa
open Go.RowKit
set_option linter.unusedVariables false
set_option linter.unusedSimpArgs false

open Classical in
/-- The code of states of two machines. -/
noncomputable def pairI (m : Mach) (q : Int) (k : Mach) (r : Int) : Int := if IsM m ∧ IsM k then if (0 ≤ q ∧ q < m.S) ∧ (0 ≤ r ∧ r < k.S) ∧ m.L = k.L then 0 else 2 else 1

theorem pairI_cases (m : Mach) (q : Int) (k : Mach) (r : Int) : (pairI m q k r = 1 ∧ ¬ (IsM m ∧ IsM k)) ∨ (pairI m q k r = 2) ∨ ∃ l s s' q' r', Good m l s ∧ Good k l s' ∧ q = ((q' : Nat) : Int) ∧ q' < s ∧ r = ((r' : Nat) : Int) ∧ r' < s' ∧ pairI m q k r = 0 := by
  unfold pairI
  by_cases h : IsM m ∧ IsM k
  · rw [if_pos h]
    by_cases hq : (0 ≤ q ∧ q < m.S) ∧ (0 ≤ r ∧ r < k.S) ∧ m.L = k.L
    · rw [if_pos hq]
      obtain ⟨l, s, g⟩ := h.1.good
      obtain ⟨l', s', g'⟩ := h.2.good
      obtain ⟨q', rfl⟩ := Int.eq_ofNat_of_zero_le hq.1.1
      obtain ⟨r', rfl⟩ := Int.eq_ofNat_of_zero_le hq.2.1.1
      have e := hq.2.2
      rw [g.L, g'.L] at e
      have e' : l' = l := by omega
      rw [e'] at g'
      have h1 := hq.1.2; have h2 := hq.2.1.2
      rw [g.S] at h1; rw [g'.S] at h2
      exact .inr (.inr ⟨l, s, s', q', r', g, g', rfl, by omega, rfl, by omega, rfl⟩)
    · rw [if_neg hq]; exact .inr (.inl rfl)
  · rw [if_neg h]; exact .inl ⟨rfl, h⟩

end Go.Proofs.Ytbmkkaecfogmoaa

/- ProductOfStates: what the program and the reference answer. -/
namespace Go.Proofs.Ytbmkkaecfogmoaa
open Go.RowKit
set_option linter.unusedVariables false
set_option linter.unusedSimpArgs false

open Classical in
/-- What ProductOfStates answers. -/
noncomputable def posAns (m : Mach) (q : Int) (k : Mach) (r : Int) : Mach × Int := if pairI m q k r = 0 then (fromM (prodT m k m.L.toNat m.S.toNat k.S.toNat) (q.toNat * k.S.toNat + r.toNat), fromC (prodT m k m.L.toNat m.S.toNat k.S.toNat) (q.toNat * k.S.toNat + r.toNat)) else (⟨0, 0, fun _ => 0, fun _ => 0⟩, pairI m q k r)
theorem posAns_0 {m k : Mach} {l s s' q r : Nat} (g : Good m l s) (g' : Good k l s') (h : pairI m q k r = 0) : posAns m q k r = (fromM (prodT m k l s s') (q * s' + r), fromC (prodT m k l s s') (q * s' + r)) := by
  unfold posAns; rw [if_pos h, g.L, g.S, g'.S]; rfl
theorem posAns_n {m : Mach} {q : Int} {k : Mach} {r c : Int} (h : pairI m q k r = c) (hc : c ≠ 0) : posAns m q k r = (⟨0, 0, fun _ => 0, fun _ => 0⟩, c) := by
  unfold posAns; rw [h, if_neg hc]
theorem from_cases (T : Tab) (q : Nat) : (fromB T q = true ∧ fromC T q = 0) ∨ (fromB T q = false ∧ fromC T q = 3 ∧ fromM T q = ⟨0, 0, fun _ => 0, fun _ => 0⟩) := by
  unfold fromB fromC fromM
  by_cases h : (fin T (fix T) q).length ≤ 16
  · exact .inl ⟨decide_eq_true h, if_pos h⟩
  · exact .inr ⟨decide_eq_false h, if_neg h, if_neg h⟩

end Go.Proofs.Ytbmkkaecfogmoaa
