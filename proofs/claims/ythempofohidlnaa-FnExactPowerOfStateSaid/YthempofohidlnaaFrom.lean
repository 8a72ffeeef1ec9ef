/- The machine of a state of a table, as the program makes it. -/
import Derived.Test.YthempofohidlnaaLeast2
import Derived.Test.YthempofohidlnaaInv
namespace Go.Proofs.Ythempofohidlnaa
open Go.RowKit
set_option linter.unusedVariables false
set_option linter.unusedSimpArgs false

theorem idxZ_nat {l : List Nat} {c : Nat} (h : c ∈ l) : idxZ (l.map Int.ofNat) ((c : Nat) : Int) = ((l.idxOf c : Nat) : Int) := by
  have hlt := List.idxOf_lt_length_of_mem h
  refine idxZ_at ?_ (fun j hj e => ?_)
  · rw [List.getElem?_map, List.getElem?_eq_getElem hlt, List.getElem_idxOf hlt]; rfl
  · rw [List.getElem?_map] at e
    have hj' : j < l.length := by omega
    rw [List.getElem?_eq_getElem hj'] at e
    have h1 : l[j] = c := by
      have h2 : ((l[j] : Nat) : Int) = (c : Int) := by simpa using e
      omega
    have := List.not_of_lt_findIdx (p := (· == c)) (xs := l) hj
    simp [h1] at this

set_option maxHeartbeats 1000000 in
theorem from1_any (w : World) (bs bo r base n : Nat) (vs vo : Value) (st F : List Nat) (c : Nat) (hbs : w.cell? ⟨bs, 0, none⟩ = some vs) (hbo : w.cell? ⟨bo, 0, none⟩ = some vo) (hs : Own w base 2 vs (nats st)) (ho : Own w base 2 vo (nats F))
    (hr : F[r]? = some c) (hc : c ∈ st) (hl : st.length < 1000000) (hF : F.length < 1000000) :
    Calls Try.prog 155 #[.int .i64 r, .pointer (some ⟨bs, 0, none⟩), .pointer (some ⟨bo, 0, none⟩)] w fun e w' => e = .returned (.int .i64 (st.idxOf c : Nat)) ∧ ∃ d, w' = w.drewN d := by
  have hrl := (List.getElem?_eq_some_iff.1 hr).1
  have hpos : 0 < st.length := List.length_pos_of_mem hc
  obtain ⟨go, co, rfl, _, _⟩ := ho.blk (fun e => by have h1 := congrArg List.length e; rw [nats_length, List.length_nil] at h1; first | omega | (rw [List.length_map, List.length_range] at h1; omega))
  obtain ⟨gs, cs, rfl, _, _⟩ := hs.blk (fun e => by have h1 := congrArg List.length e; rw [nats_length, List.length_nil] at h1; first | omega | (rw [List.length_map, List.length_range] at h1; omega))
  have cr := ho.cellAt r (.int .i64 (c : Nat)) (by simp [nats, hr])
  rw [nats_length] at hbo hbs hs
  have hi := hid (fun n => slIndex_any (w.drewN n) base (.slice (some ⟨gs, 0, none⟩) st.length cs) (st.map Int.ofNat) (c : Int) (by rw [← nats_ints]; exact hs.drewN n) (by simpa using hl))
  rw [idxZ_nat hc] at hi
  clear hs ho hr hc
  generalize F.length = nF at *
  go_enter Try.func155, Try.ntmps155
  go_wp2
  go_quiet ((go_at_call 143; exact quiet_same (hi.out _)))
  go_wp2
  go_ret
  exact ⟨rfl, _, rfl⟩

theorem u8_in (n : Nat) (h : n < 256) : IntKind.u8.wrap (n : Int) = (n : Int) := by
  have h1 : IntKind.u8.wrap (n : Int) = (n : Int) % 256 := by first | rfl | (unfold IntKind.wrap; simp)
  rw [h1]; omega
set_option maxHeartbeats 8000000 in
set_option maxRecDepth 100000 in
theorem gathered_any (w : World) (G bs bo base : Nat) (vN vO vs vo : Value) (T : Tab) (st : List Nat) (hT : T.Ok) (hL : T.L ≤ 3) (hL0 : 0 < T.L) (hn : T.n < 100000) (hTB : TB w G vN vO T) (hot : ∀ q x, q < T.n → x < T.L → T.ot q x < 256)
    (hbs : w.cell? ⟨bs, 0, none⟩ = some vs) (hbo : w.cell? ⟨bo, 0, none⟩ = some vo) (hbsl : bs < w.heap.size) (hbol : bo < w.heap.size) (hs : Own w base 2 vs (nats st)) (ho : Own w base 2 vo (nats ((List.range T.n).map (fix T))))
    (hlt : ∀ s ∈ st, s < T.n) (hcl : ∀ s ∈ st, ∀ x, x < T.L → fix T (T.nx s x) ∈ st) (hl : st.length ≤ 16) :
    Calls Try.prog 154 #[.pointer (some ⟨G, 0, none⟩), .int .i64 T.L, vs, .func (.func 155) #[] #[.pointer (some ⟨bs, 0, none⟩), .pointer (some ⟨bo, 0, none⟩)]] w fun e w' => e = .returned (.agg (mcells (gth T (fix T) st))) ∧ Below w.heap.size w w' := by
  have hz := zero_mach
  have hcall := hid (fun W (hb : Below w.heap.size w W) r c (hr : ((List.range T.n).map (fix T))[r]? = some c) (hc : c ∈ st) => from1_any W bs bo r base T.n vs vo st _ c ((hb.cell (p := ⟨bs, 0, none⟩) hbsl).trans hbs) ((hb.cell (p := ⟨bo, 0, none⟩) hbol).trans hbo) (hs.below hb) (ho.below hb) hr hc (by omega) (by simp; omega))
  obtain ⟨gN, cN, rfl, _, _⟩ := hTB.2.1.blk (fun e => by have h1 := congrArg List.length e; rw [tbL_length] at h1; simp at h1; have := hT.pos; omega)
  obtain ⟨gO, cO, rfl, _, _⟩ := hTB.2.2.blk (fun e => by have h1 := congrArg List.length e; rw [tbL_length] at h1; simp at h1; have := hT.pos; omega)
  rw [tbL_length, tbL_length] at hTB
  have hread := hid (fun W (hb : Below w.heap.size w W) => (show W.cell? ⟨G, 0, none⟩ = some (.slice (some ⟨gN, 0, none⟩) T.n cN) ∧ W.cell? ⟨G, 1, none⟩ = some (.slice (some ⟨gO, 0, none⟩) T.n cO) from ⟨(hTB.below hb).c0, (hTB.below hb).c1⟩))
  have hrowN := hid (fun q (hq : q < T.n) => (show ∃ g c, ∀ W, Below w.heap.size w W → W.cell? ⟨gN, q, none⟩ = some (.slice (some ⟨g, 0, none⟩) T.L c) ∧ ∀ x, x < T.L → W.cell? ⟨g, x, none⟩ = some (.int .i64 (T.nx q x : Nat)) from by
    obtain ⟨rows, hO, hlr, hall⟩ := hTB.2.1
    have hi : q < rows.length := by rw [hlr, tbL_length]; exact hq
    obtain ⟨r, hr⟩ : ∃ r, rows[q]? = some r := ⟨_, List.getElem?_eq_getElem hi⟩
    have hrow := hall q r _ hr (tbL_get T.nx T.n T.L q hq)
    obtain ⟨g, c, rfl, _, _⟩ := hrow.blk (fun e => by have h1 := congrArg List.length e; rw [ints_length, rwI_length] at h1; simp at h1; omega)
    rw [ints_length, rwI_length] at hr hrow
    exact ⟨g, c, fun W hb => ⟨(hO.below hb).cellAt q _ hr, fun x hx => (hrow.below hb).cellAt x _ (by simp [ints, rwI_get _ _ _ _ hx])⟩⟩))
  have hrowO := hid (fun q (hq : q < T.n) => (show ∃ g c, ∀ W, Below w.heap.size w W → W.cell? ⟨gO, q, none⟩ = some (.slice (some ⟨g, 0, none⟩) T.L c) ∧ ∀ x, x < T.L → W.cell? ⟨g, x, none⟩ = some (.int .i64 (T.ot q x : Nat)) from by
    obtain ⟨rows, hO, hlr, hall⟩ := hTB.2.2
    have hi : q < rows.length := by rw [hlr, tbL_length]; exact hq
    obtain ⟨r, hr⟩ : ∃ r, rows[q]? = some r := ⟨_, List.getElem?_eq_getElem hi⟩
    have hrow := hall q r _ hr (tbL_get T.ot T.n T.L q hq)
    obtain ⟨g, c, rfl, _, _⟩ := hrow.blk (fun e => by have h1 := congrArg List.length e; rw [ints_length, rwI_length] at h1; simp at h1; omega)
    rw [ints_length, rwI_length] at hr hrow
    exact ⟨g, c, fun W hb => ⟨(hO.below hb).cellAt q _ hr, fun x hx => (hrow.below hb).cellAt x _ (by simp [ints, rwI_get _ _ _ _ hx])⟩⟩))
  have hst := hid (fun W (hb : Below w.heap.size w W) i s (hi : st[i]? = some s) => (show ∃ g c, vs = .slice (some ⟨g, 0, none⟩) st.length c ∧ W.cell? ⟨g, i, none⟩ = some (.int .i64 (s : Nat)) from by
    have hpos : 0 < st.length := Nat.lt_of_le_of_lt (Nat.zero_le i) (List.getElem?_eq_some_iff.1 hi).1
    obtain ⟨g, c, rfl, _, _⟩ := (hs.below hb).blk (fun e => by have h1 := congrArg List.length e; rw [nats_length, List.length_nil] at h1; first | omega | (rw [List.length_map, List.length_range] at h1; omega))
    rw [nats_length] at *
    exact ⟨g, c, rfl, (hs.below hb).cellAt i _ (by simp [nats, hi])⟩))
  obtain ⟨As, cs, hvs, _, _⟩ := hs.form
  rw [nats_length] at hvs
  subst hvs
  have hnx := hid (fun q x (hq : q < T.n) (hx : x < T.L) => hT.nx q x hq hx)
  replace hot := hid hot; replace hlt := hid hlt; replace hcl := hid hcl
  have hstep := hid (fun i x s hx hs => gthP_step T (fix T) st i x s hx hL hs)
  have hrow := hid (fun i => gthP_row T (fix T) st i hL)
  have h00 := hid (gthP_zero T (fix T) st)
  have hS := hid (((St.start w).newMB ⟨0, 0, fun _ => 0, fun _ => 0⟩ 34).newMB ⟨0, 0, fun _ => 0, fun _ => 0⟩ 34)
  rw [heap_alloc_size] at hS
  clear hTB hs ho hbs hbo
  generalize hfin : gth T (fix T) st = gm at *
  have hfin' := hid (show gthP T (fix T) st st.length 0 = gm from hfin)
  clear hfin
  generalize hLL : T.L = L at *
  replace hLL := hid hLL
  generalize hlen : st.length = N at *
  replace hlen := hid hlen
  generalize mcells ⟨0, 0, fun _ => 0, fun _ => 0⟩ = zs at *
  go_enter Try.func154, Try.ntmps154
  go_wp2_with (first
    | ((with_reducible refine gate (N := 17) rfl ?_); refine build_mach rfl _ _ rfl (L : Int) (N : Int) rfl rfl ?_)
    | ((with_reducible refine gateOp (op := .store 34 (.tmp 9) (.tmp 17)) rfl ?_); refine store_mach rfl _ _ rfl (w.heap.size + 1) rfl ⟨(L : Int), (N : Int), fun _ => 0, fun _ => 0⟩ rfl 34 _ hS.out.m0 ?_; intro W1 p3 ho hsz hbl; replace hS := hid (hS.out.setM (Nat.le_succ _) p3 ho hbl); clear p3 ho hsz hbl))
  go_loopw [20] (fun i wr => ∃ i' : Nat, i' ≤ N ∧ i = .int .i64 i' ∧ St w.heap.size w [Asn.mb 34 (w.heap.size + 1) (gthP T (fix T) st i' 0), Asn.mb 34 w.heap.size ⟨0, 0, fun _ => 0, fun _ => 0⟩] wr) (fun i _ => N - (intOf i).toNat)
  case atStart => exact ⟨0, Nat.zero_le _, rfl, by rw [h00.out]; exact hS.out⟩
  case round =>
    obtain ⟨i, hi, rfl, rS⟩ := hrel
    clear hS
    by_cases hiN : i < N
    · obtain ⟨s, hs⟩ : ∃ s, st[i]? = some s := ⟨_, List.getElem?_eq_getElem (by rw [hlen.out]; exact hiN)⟩
      have hsm : s ∈ st := List.mem_of_getElem? hs
      have hsn := hlt.out s hsm
      obtain ⟨gs, cs2, hvs, cst⟩ := hst.out wr rS.bel i s hs
      injection hvs with hvs hnn hcc
      subst hvs
      subst hcc
      clear hnn
      obtain ⟨e0, _⟩ := hread.out wr rS.bel
      obtain ⟨g1, c1, hr1⟩ := hrowN.out s hsn
      obtain ⟨g2, c2, hr2⟩ := hrowO.out s hsn
      have e1 := (hr1 wr rS.bel).1
      replace hr1 := hid hr1; replace hr2 := hid hr2
      replace rS := hid rS
      replace hs := hid hs; replace hsm := hid hsm
      go_wp2
      clear cst e0 e1
      go_loopw [33] (fun j wr => ∃ x : Nat, x ≤ L ∧ j = .int .i64 x ∧ St w.heap.size w [Asn.mb 34 (w.heap.size + 1) (gthP T (fix T) st i x), Asn.mb 34 w.heap.size ⟨0, 0, fun _ => 0, fun _ => 0⟩] wr) (fun j _ => L - (intOf j).toNat)
      case atStart => exact ⟨0, Nat.zero_le _, rfl, rS.out⟩
      case round =>
        obtain ⟨x, hx, rfl, yS⟩ := hrel
        clear rS
        by_cases hxL : x < L
        · have e1 := (hr1.out wr yS.bel).2 x hxL
          have hnxn := hnx.out s x hsn hxL
          have hcm := hid (hcl.out s hsm.out x hxL)
          have hotx := hot.out s x hsn hxL
          have hidx := List.idxOf_lt_length_of_mem hcm.out
          rw [hlen.out] at hidx
          have hst2 := hid (hstep.out i x s hxL hs.out)
          go_upto_region 8 with (fail)
          clear e1
          replace yS := hid yS
          have zS := hid yS.out.drew
          clear yS
          have hT0 : wr.drew.cell? ⟨G, 1, none⟩ = some (.slice (some ⟨gO, 0, none⟩) T.n cO) ∧ wr.drew.cell? ⟨gO, s, none⟩ = some (.slice (some ⟨g2, 0, none⟩) L c2) ∧ wr.drew.cell? ⟨g2, x, none⟩ = some (.int .i64 (T.ot s x : Nat)) := ⟨(hread.out _ zS.out.bel).2, (hr2.out _ zS.out.bel).1, (hr2.out _ zS.out.bel).2 x hxL⟩
          refine wp_region_heldL (L := [(26, (fun w' : World => w'.cell? ⟨G, 1, none⟩ = some (.slice (some ⟨gO, 0, none⟩) T.n cO) ∧ w'.cell? ⟨gO, s, none⟩ = some (.slice (some ⟨g2, 0, none⟩) L c2) ∧ w'.cell? ⟨g2, x, none⟩ = some (.int .i64 (T.ot s x : Nat))))]) (by kernel_rfl) (HeldL.cons (fun _ => hT0) HeldL.nil) (fun hHeld => ?_)
          clear hT0
          generalize wr.drew = wa at *
          have hc := hid (fun W hb => hcall.out W hb (T.nx s x) (fix T (T.nx s x)) (by simp [hnxn]) hcm.out)
          generalize T.nx s x = r at *
          generalize hci : st.idxOf (fix T r) = ci at *
          replace hci := hid hci
          generalize hoe : T.ot s x = ot at *
          replace hoe := hid hoe
          have xm : ((ci : Int) % 256) = ci := by omega
          have xo : ((ot : Int) % 256) = ot := by omega
          have xm2 : IntKind.u8.wrap (ci : Int) = (ci : Int) := u8_in ci (by omega)
          have xo2 : IntKind.u8.wrap (ot : Int) = (ot : Int) := u8_in ot (by omega)
          have xi0 : (0 : Int) ≤ (i : Int) := Int.natCast_nonneg _
          have xi1 : (i : Int) < 16 := by omega
          have xx0 : (0 : Int) ≤ (x : Int) := Int.natCast_nonneg _
          have xx1 : (x : Int) < 3 := by omega
          refine wpAnyL_take0 (i := 0) (v := ?_) rfl (by kernel_rfl) (by kernel_rfl) (by kernel_rfl) (by rfl) (fun _ _ _ h => h) (Or.inl ⟨by rfl, ?_⟩) (by assumption) ?_
          rotate_left
          · (intro W _; go_simp; (with_reducible rfl))
          intro hHeld'
          clear hHeld; have hHeld := hHeld'; clear hHeld'
          try simp only [Act.put, List.setIfInBounds_toArray, List.set_cons_zero, List.set_cons_succ]
          refine wpAnyL_take0 (i := 1) (v := ?_) rfl (by kernel_rfl) (by kernel_rfl) (by kernel_rfl) (by rfl) (fun _ _ _ h => h) (Or.inl ⟨by rfl, ?_⟩) (by assumption) ?_
          rotate_left
          · (intro W _; go_simp; (with_reducible rfl))
          intro hHeld'
          clear hHeld; have hHeld := hHeld'; clear hHeld'
          try simp only [Act.put, List.setIfInBounds_toArray, List.set_cons_zero, List.set_cons_succ]
          refine wpAnyL_take0 (i := 2) (v := ?_) rfl (by kernel_rfl) (by kernel_rfl) (by kernel_rfl) (by rfl) (fun _ _ _ h => h) (Or.inl ⟨by rfl, ?_⟩) (by assumption) ?_
          rotate_left
          · (intro W _; go_simp; (with_reducible rfl))
          intro hHeld'
          clear hHeld; have hHeld := hHeld'; clear hHeld'
          try simp only [Act.put, List.setIfInBounds_toArray, List.set_cons_zero, List.set_cons_succ]
          refine wpAnyL_take0 (i := 3) (v := ?_) rfl (by kernel_rfl) (by kernel_rfl) (by kernel_rfl) (by rfl) (fun _ _ _ h => h) (Or.inl ⟨by rfl, ?_⟩) (by assumption) ?_
          rotate_left
          · (intro W _; go_simp; (with_reducible rfl))
          intro hHeld'
          clear hHeld; have hHeld := hHeld'; clear hHeld'
          try simp only [Act.put, List.setIfInBounds_toArray, List.set_cons_zero, List.set_cons_succ]
          refine wpAnyL_take0 (i := 4) (v := ?_) rfl (by kernel_rfl) (by kernel_rfl) (by kernel_rfl) (by rfl) (fun _ _ _ h => h) (Or.inl ⟨by rfl, ?_⟩) (by assumption) ?_
          rotate_left
          · (intro W _; go_simp; (with_reducible rfl))
          intro hHeld'
          clear hHeld; have hHeld := hHeld'; clear hHeld'
          try simp only [Act.put, List.setIfInBounds_toArray, List.set_cons_zero, List.set_cons_succ]
          refine wpAnyL_take0 (i := 5) (v := ?_) rfl (by kernel_rfl) (by kernel_rfl) (by kernel_rfl) (by rfl) (fun _ _ _ h => h) (Or.inl ⟨by rfl, ?_⟩) (by assumption) ?_
          rotate_left
          · (intro W _; go_simp; (with_reducible rfl))
          intro hHeld'
          clear hHeld; have hHeld := hHeld'; clear hHeld'
          try simp only [Act.put, List.setIfInBounds_toArray, List.set_cons_zero, List.set_cons_succ]
          refine wpAnyL_take0 (i := 8) (v := ?_) rfl (by kernel_rfl) (by kernel_rfl) (by kernel_rfl) (by rfl) (fun _ _ _ h => h) (Or.inl ⟨by rfl, ?_⟩) (by assumption) ?_
          rotate_left
          · (intro W _; go_simp; (with_reducible rfl))
          intro hHeld'
          clear hHeld; have hHeld := hHeld'; clear hHeld'
          try simp only [Act.put, List.setIfInBounds_toArray, List.set_cons_zero, List.set_cons_succ]
          refine wpAnyL_take0 (i := 9) (v := ?_) rfl (by kernel_rfl) (by kernel_rfl) (by kernel_rfl) (by rfl) (fun _ _ _ h => h) (Or.inl ⟨by rfl, ?_⟩) (by assumption) ?_
          rotate_left
          · (intro W _; go_simp; (with_reducible rfl))
          intro hHeld'
          clear hHeld; have hHeld := hHeld'; clear hHeld'
          try simp only [Act.put, List.setIfInBounds_toArray, List.set_cons_zero, List.set_cons_succ]
          refine wpAnyL_take0 (i := 10) (v := ?_) rfl (by kernel_rfl) (by kernel_rfl) (by kernel_rfl) (by rfl) (fun _ _ _ h => h) (Or.inl ⟨by rfl, ?_⟩) (by assumption) ?_
          rotate_left
          · (intro W _; go_simp; (with_reducible rfl))
          intro hHeld'
          clear hHeld; have hHeld := hHeld'; clear hHeld'
          try simp only [Act.put, List.setIfInBounds_toArray, List.set_cons_zero, List.set_cons_succ]
          refine wpAnyL_takeP (i := 11) 26 [] (v := ?_) (fun w' : World => w'.cell? ⟨G, 1, none⟩ = some (.slice (some ⟨gO, 0, none⟩) T.n cO) ∧ w'.cell? ⟨gO, s, none⟩ = some (.slice (some ⟨g2, 0, none⟩) L c2) ∧ w'.cell? ⟨g2, x, none⟩ = some (.int .i64 (ot : Nat))) rfl (by kernel_rfl) (by kernel_rfl) (by kernel_rfl) (by rfl) (by kernel_rfl) (by simp) (fun _ _ _ h => h) (Or.inl ⟨by rfl, ?_⟩) (by assumption) ?_
          rotate_left
          · (intro W hW; (obtain ⟨h1, h2, h3⟩ := hW); go_simp; (with_reducible rfl))
          intro hHeld'
          clear hHeld; have hHeld := hHeld'; clear hHeld'
          try simp only [Act.put, List.setIfInBounds_toArray, List.set_cons_zero, List.set_cons_succ]
          refine wpAnyL_take0 (i := 12) (v := ?_) rfl (by kernel_rfl) (by kernel_rfl) (by kernel_rfl) (by rfl) (fun _ _ _ h => h) (Or.inl ⟨by rfl, ?_⟩) (by assumption) ?_
          rotate_left
          · (intro W _; go_simp; (with_reducible rfl))
          intro hHeld'
          clear hHeld; have hHeld := hHeld'; clear hHeld'
          try simp only [Act.put, List.setIfInBounds_toArray, List.set_cons_zero, List.set_cons_succ]
          refine wpAnyL_take0 (i := 13) (v := ?_) rfl (by kernel_rfl) (by kernel_rfl) (by kernel_rfl) (by rfl) (fun _ _ _ h => h) (Or.inl ⟨by rfl, ?_⟩) (by assumption) ?_
          rotate_left
          · (intro W _; go_simp; (with_reducible rfl))
          intro hHeld'
          clear hHeld; have hHeld := hHeld'; clear hHeld'
          try simp only [Act.put, List.setIfInBounds_toArray, List.set_cons_zero, List.set_cons_succ]
          refine wpAnyL_takeP (i := 14) 26 [] (v := ?_) (fun w' : World => w'.cell? ⟨G, 1, none⟩ = some (.slice (some ⟨gO, 0, none⟩) T.n cO) ∧ w'.cell? ⟨gO, s, none⟩ = some (.slice (some ⟨g2, 0, none⟩) L c2) ∧ w'.cell? ⟨g2, x, none⟩ = some (.int .i64 (ot : Nat))) rfl (by kernel_rfl) (by kernel_rfl) (by kernel_rfl) (by rfl) (by kernel_rfl) (by simp) (fun _ _ _ h => h) (Or.inl ⟨by rfl, ?_⟩) (by assumption) ?_
          rotate_left
          · (intro W hW; (obtain ⟨h1, h2, h3⟩ := hW); go_simp; (with_reducible rfl))
          intro hHeld'
          clear hHeld; have hHeld := hHeld'; clear hHeld'
          try simp only [Act.put, List.setIfInBounds_toArray, List.set_cons_zero, List.set_cons_succ]
          refine wpAnyL_take0 (i := 15) (v := ?_) rfl (by kernel_rfl) (by kernel_rfl) (by kernel_rfl) (by rfl) (fun _ _ _ h => h) (Or.inl ⟨by rfl, ?_⟩) (by assumption) ?_
          rotate_left
          · (intro W _; go_simp; (with_reducible rfl))
          intro hHeld'
          clear hHeld; have hHeld := hHeld'; clear hHeld'
          try simp only [Act.put, List.setIfInBounds_toArray, List.set_cons_zero, List.set_cons_succ]
          refine wpAnyL_take0 (i := 16) (v := ?_) rfl (by kernel_rfl) (by kernel_rfl) (by kernel_rfl) (by rfl) (fun _ _ _ h => h) (Or.inl ⟨by rfl, ?_⟩) (by assumption) ?_
          rotate_left
          · (intro W _; go_simp; (with_reducible rfl))
          intro hHeld'
          clear hHeld; have hHeld := hHeld'; clear hHeld'
          try simp only [Act.put, List.setIfInBounds_toArray, List.set_cons_zero, List.set_cons_succ]
          refine wpAnyL_takeP (i := 17) 26 [] (v := ?_) (fun w' : World => w'.cell? ⟨G, 1, none⟩ = some (.slice (some ⟨gO, 0, none⟩) T.n cO) ∧ w'.cell? ⟨gO, s, none⟩ = some (.slice (some ⟨g2, 0, none⟩) L c2) ∧ w'.cell? ⟨g2, x, none⟩ = some (.int .i64 (ot : Nat))) rfl (by kernel_rfl) (by kernel_rfl) (by kernel_rfl) (by rfl) (by kernel_rfl) (by simp) (fun _ _ _ h => h) (Or.inl ⟨by rfl, ?_⟩) (by assumption) ?_
          rotate_left
          · (intro W hW; (obtain ⟨h1, h2, h3⟩ := hW); go_simp; (with_reducible rfl))
          intro hHeld'
          clear hHeld; have hHeld := hHeld'; clear hHeld'
          try simp only [Act.put, List.setIfInBounds_toArray, List.set_cons_zero, List.set_cons_succ]
          refine wpAnyL_take0 (i := 18) (v := ?_) rfl (by kernel_rfl) (by kernel_rfl) (by kernel_rfl) (by rfl) (fun _ _ _ h => h) (Or.inl ⟨by rfl, ?_⟩) (by assumption) ?_
          rotate_left
          · (intro W _; go_simp; (with_reducible rfl))
          intro hHeld'
          clear hHeld; have hHeld := hHeld'; clear hHeld'
          try simp only [Act.put, List.setIfInBounds_toArray, List.set_cons_zero, List.set_cons_succ]
          refine wpAnyL_take0 (i := 19) (v := ?_) rfl (by kernel_rfl) (by kernel_rfl) (by kernel_rfl) (by rfl) (fun _ _ _ h => h) (Or.inl ⟨by rfl, ?_⟩) (by assumption) ?_
          rotate_left
          · (intro W _; go_simp; (with_reducible rfl))
          intro hHeld'
          clear hHeld; have hHeld := hHeld'; clear hHeld'
          try simp only [Act.put, List.setIfInBounds_toArray, List.set_cons_zero, List.set_cons_succ]
          refine wpAnyL_take0 (i := 20) (v := ?_) rfl (by kernel_rfl) (by kernel_rfl) (by kernel_rfl) (by rfl) (fun _ _ _ h => h) (Or.inl ⟨by rfl, ?_⟩) (by assumption) ?_
          rotate_left
          · (intro W _; go_simp; (with_reducible rfl))
          intro hHeld'
          clear hHeld; have hHeld := hHeld'; clear hHeld'
          try simp only [Act.put, List.setIfInBounds_toArray, List.set_cons_zero, List.set_cons_succ]
          refine wpAnyL_take0 (i := 23) (v := ?_) rfl (by kernel_rfl) (by kernel_rfl) (by kernel_rfl) (by rfl) (fun _ _ _ h => h) (Or.inl ⟨by rfl, ?_⟩) (by assumption) ?_
          rotate_left
          · (intro W _; go_simp; (with_reducible rfl))
          intro hHeld'
          clear hHeld; have hHeld := hHeld'; clear hHeld'
          try simp only [Act.put, List.setIfInBounds_toArray, List.set_cons_zero, List.set_cons_succ]
          refine wpAnyL_take0 (i := 24) (v := ?_) rfl (by kernel_rfl) (by kernel_rfl) (by kernel_rfl) (by rfl) (fun _ _ _ h => h) (Or.inl ⟨by rfl, ?_⟩) (by assumption) ?_
          rotate_left
          · (intro W _; go_simp; (with_reducible rfl))
          intro hHeld'
          clear hHeld; have hHeld := hHeld'; clear hHeld'
          try simp only [Act.put, List.setIfInBounds_toArray, List.set_cons_zero, List.set_cons_succ]
          refine wpAnyL_ready (rs := [6]) (by kernel_rfl) (by simp) ?_
          refine AllReadyL.cons rfl (fun K hK => ?_) AllReadyL.nil
          go_simp
          go_at_call 155
          (with_reducible refine (hc.out _ zS.out.bel).mono ?_)
          rintro e w1 ⟨rfl, d, rfl⟩
          go_simp
          replace zS := hid (zS.out.drewN d)
          generalize wa.drewN d = wb at *
          refine hK.out _ _ (HeldL.cons (fun _ => ⟨(hread.out _ zS.out.bel).2, (hr2.out _ zS.out.bel).1, by rw [← hoe.out]; exact (hr2.out _ zS.out.bel).2 x hxL⟩) HeldL.nil) (fun hHeld' => ?_)
          clear hK K hHeld; have hHeld := hHeld'; clear hHeld'
          try simp only [Act.put, List.setIfInBounds_toArray, List.set_cons_zero, List.set_cons_succ]
          refine wpAnyL_take0 (i := 7) (v := ?_) rfl (by kernel_rfl) (by kernel_rfl) (by kernel_rfl) (by rfl) (fun _ _ _ h => h) (Or.inl ⟨by rfl, ?_⟩) (by assumption) ?_
          rotate_left
          · (intro W _; go_simp; (with_reducible rfl))
          intro hHeld'
          clear hHeld; have hHeld := hHeld'; clear hHeld'
          try simp only [Act.put, List.setIfInBounds_toArray, List.set_cons_zero, List.set_cons_succ]
          refine wpAnyL_take0 (i := 21) (v := ?_) rfl (by kernel_rfl) (by kernel_rfl) (by kernel_rfl) (by rfl) (fun _ _ _ h => h) (Or.inl ⟨by rfl, ?_⟩) (by assumption) ?_
          rotate_left
          · (intro W _; go_simp; (with_reducible rfl))
          intro hHeld'
          clear hHeld; have hHeld := hHeld'; clear hHeld'
          try simp only [Act.put, List.setIfInBounds_toArray, List.set_cons_zero, List.set_cons_succ]
          obtain ⟨vn, cn⟩ : ∃ u, wb.cell? ⟨w.heap.size + 1, 2 + i * 3 + x, none⟩ = some u := ⟨_, zS.out.m0.cnx i x (by omega) (by omega)⟩
          have fn : wb.frozen? ⟨w.heap.size + 1, 2 + i * 3 + x, none⟩ = false := World.rowIs.frozen zS.out.m0 _
          refine wpAnyL_ready (rs := [22]) (by kernel_rfl) (by simp) ?_
          refine AllReadyL.cons rfl (fun K hK => ?_) AllReadyL.nil
          go_simp
          replace zS := hid (zS.out.setNx (Nat.le_succ _) i x ci (by omega) (by omega))
          clear cn fn
          generalize wb.setCell ⟨w.heap.size + 1, 2 + i * 3 + x, none⟩ (.int .u8 (ci : Nat)) = wc at *
          refine hK.out _ _ (HeldL.cons (fun _ => ⟨(hread.out _ zS.out.bel).2, (hr2.out _ zS.out.bel).1, by rw [← hoe.out]; exact (hr2.out _ zS.out.bel).2 x hxL⟩) HeldL.nil) (fun hHeld' => ?_)
          clear hK K hHeld; have hHeld := hHeld'; clear hHeld'
          try simp only [Act.put, List.setIfInBounds_toArray, List.set_cons_zero, List.set_cons_succ]
          refine wpAnyL_take0 (i := 25) (v := ?_) rfl (by kernel_rfl) (by kernel_rfl) (by kernel_rfl) (by rfl) (fun _ _ _ h => h) (Or.inl ⟨by rfl, ?_⟩) (by assumption) ?_
          rotate_left
          · (intro W _; go_simp; (with_reducible rfl))
          intro hHeld'
          clear hHeld; have hHeld := hHeld'; clear hHeld'
          try simp only [Act.put, List.setIfInBounds_toArray, List.set_cons_zero, List.set_cons_succ]
          obtain ⟨vn, cn⟩ : ∃ u, wc.cell? ⟨w.heap.size + 1, 50 + i * 3 + x, none⟩ = some u := ⟨_, zS.out.m0.cot i x (by omega) (by omega)⟩
          have fn : wc.frozen? ⟨w.heap.size + 1, 50 + i * 3 + x, none⟩ = false := World.rowIs.frozen zS.out.m0 _
          refine wpAnyL_ready (rs := [26]) (by kernel_rfl) (by simp) ?_
          refine AllReadyL.cons rfl (fun K hK => ?_) AllReadyL.nil
          go_simp
          replace zS := hid (zS.out.setOt (Nat.le_succ _) i x ot (by omega) (by omega))
          clear cn fn
          refine hK.out _ _ (HeldL.cons (fun h => absurd h (by decide +kernel)) HeldL.nil) (fun hHeld' => ?_)
          clear hK K hHeld; have hHeld := hHeld'; clear hHeld'
          try simp only [Act.put, List.setIfInBounds_toArray, List.set_cons_zero, List.set_cons_succ]
          refine wpAnyL_done (by kernel_rfl) ?_ _
          go_wp2
          go_roundw
          case rel => exact ⟨x + 1, by omega, by go_num, by rw [hst2.out]; exact zS.out⟩
          case measure => simp [intOf]; omega
        · obtain rfl : L = x := by omega
          replace yS := hid yS
          go_wp2
          go_roundw
          case rel => exact ⟨i + 1, by omega, by go_num, by rw [← hrow.out]; exact yS.out⟩
          case measure => simp [intOf]; omega
    · obtain rfl : N = i := by omega
      rw [hfin'.out] at rS
      replace rS := hid rS
      go_wp2_with (first
        | ((with_reducible refine gate (N := 65) rfl ?_); refine load_mach rfl _ rfl (w.heap.size + 1) rfl _ rS.out.m0 ?_)
        | ((with_reducible refine gateOp (op := .store 34 (.tmp 8) (.tmp 65)) rfl ?_); refine store_mach rfl _ _ rfl w.heap.size rfl _ rfl 34 _ rS.out.m1 ?_; intro W3 p2 ho hsz hbl; have pB := hid (hbl _ _ (Nat.le_refl _) rS.out.bel); replace p2 := hid p2; clear ho hsz hbl))
      exact ret_mach rfl rfl p2.out rfl ⟨rfl, pB.out⟩
end Go.Proofs.Ythempofohidlnaa
