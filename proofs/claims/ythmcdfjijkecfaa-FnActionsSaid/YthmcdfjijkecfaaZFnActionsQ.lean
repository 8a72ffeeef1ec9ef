/- What the proof of FnActions leans on, part 17 of 23. -/
import Derived.Test.YthmcdfjijkecfaaZFnActionsP
/- ImageOf and SectionOf: the reference's side. -/
namespace Go.Proofs.Ythmcdfjijkecfaa
open Go.RowKit
set_option linter.unusedVariables false
set_option linter.unusedSimpArgs false
-- @LONG

set_option maxHeartbeats 2000000 in
set_option maxRecDepth 4000 in
theorem specImg_any (w : World) (m : Mach) (hkm : m.Ok) (b0 : Nat) (v : Value) (g : List Int) (hg : Own w b0 2 v (ints g)) (hl : g.length < 2000000) (ws : ByteArray) (hws : ws.size < 1000000000000) :
    Calls Try.prog 64 #[.agg (mcells m), v, .string ws] w fun e w' => e = .returned (.tuple #[.string (imgAns m g ws).1, .int .i64 (imgAns m g ws).2]) ∧ Below w.heap.size w w' := by
  have hS := hid ((St.arg w hg).newMB m 27)
  have hbo := hid (fun W (hr : Own W 0 2 v (ints g)) => l02Both_any W m hkm 0 v g hr hl ws hws)
  rcases gw_cases m g ws with h | ⟨l, s, gd, hgw, hw⟩ | ⟨l, s, gd, hgw, hw⟩
  · have hbad : ¬ IsGw m g := by
      rcases h with h | h
      · exact fun k => h k.1
      · exact h
    rw [imgAns_1 hbad]
    rw [codB_n hbad] at hbo
    clear h hbad
    replace hkm := hid hkm; replace hg := hid hg
    go_enter Try.func64, Try.ntmps64
    go_wp2_with (first
      | ((with_reducible refine gate (N := 11) rfl ?_); refine load_mach rfl _ rfl w.heap.size rfl m hS.out.m0 ?_)
      | (go_at_call 175; (with_reducible refine (hbo.out _ hS.out.o1).mono ?_); rintro e w1 ⟨rfl, hb⟩; replace hS := hid (hS.out.call hb); clear hbo; clear hb))
    go_ret2
    exact ⟨rfl, hS.out.bel⟩
  · rw [imgAns_w gd hw]
    rw [codB_w gd hw] at hbo
    clear hgw hw; replace gd := hid gd
    replace hkm := hid hkm; replace hg := hid hg
    go_enter Try.func64, Try.ntmps64
    go_wp2_with (first
      | ((with_reducible refine gate (N := 11) rfl ?_); refine load_mach rfl _ rfl w.heap.size rfl m hS.out.m0 ?_)
      | (go_at_call 175; (with_reducible refine (hbo.out _ hS.out.o1).mono ?_); rintro e w1 ⟨rfl, hb⟩; replace hS := hid (hS.out.call hb); clear hbo; clear hb))
    go_ret2
    exact ⟨rfl, hS.out.bel⟩
  · rw [imgAns_0 gd hgw hw]
    rw [codB_0 gd hgw hw] at hbo
    obtain ⟨hwe, hwl, hw40⟩ := lets_wstr ws hw
    obtain ⟨hgl, hgn⟩ := hgw.parts gd
    have hiv := hid (fun W => l01Inverse_any W m l s gd hkm)
    have hac := hid (fun W (hO : Own W 0 2 v (ints g)) => (by have h := l02Act_any W m l s gd 0 v g hO hgn (by omega) (lets ws) hwl (by omega); rw [← hwe] at h; exact h : Calls Try.prog 176 #[.agg (mcells m), .agg (mcells (inv m l s)), v, .string ws] W fun e w' => ∃ v', e = .returned (.tuple #[.string (wstr (imgW m l s g (lets ws))), v']) ∧ Own w' W.heap.size 2 v' (ints (secW m l s g (lets ws))) ∧ Below W.heap.size W w'))
    replace hkm := hid hkm; replace hg := hid hg; replace hgw := hid hgw; replace gd := hid gd; replace hwe := hid hwe
    generalize wstr (imgW m l s g (lets ws)) = ans at *
    generalize secW m l s g (lets ws) = se at *
    generalize inv m l s = I at *
    go_enter Try.func64, Try.ntmps64
    go_upto_region 4 with (first
      | ((with_reducible refine gate (N := 11) rfl ?_); refine load_mach rfl _ rfl w.heap.size rfl m hS.out.m0 ?_)
      | (go_at_call 175; (with_reducible refine (hbo.out _ hS.out.o1).mono ?_); rintro e w1 ⟨rfl, hb⟩; replace hS := hid (hS.out.call hb); clear hbo; clear hb))
    replace hS := hid hS.out.drew
    refine wp_region_heldL (L := [(5, (fun w' : World => MB w' 27 w.heap.size m))]) (by kernel_rfl) (HeldL.cons (fun _ => hS.out.m0) HeldL.nil) (fun hHeld => ?_)
    generalize w1.drew = wa at *
    refine wpAnyL_takeP (i := 0) 5 [] (v := (.agg (mcells m))) (fun w' : World => MB w' 27 w.heap.size m) rfl (by kernel_rfl) (by kernel_rfl) (by kernel_rfl) (by rfl) (by kernel_rfl) (by simp) (fun _ _ _ h => h) (Or.inl ⟨by rfl, ?_⟩) (by assumption) ?_
    · (intro W hW; exact exec_load _ rfl rfl (load_run hW))
    intro hHeld'
    clear hHeld; have hHeld := hHeld'; clear hHeld'
    try simp only [Act.put, List.getElem_toArray, List.getElem_cons_succ, List.getElem_cons_zero, List.setIfInBounds_toArray, List.set_cons_zero, List.set_cons_succ]
    refine wpAnyL_takeP (i := 1) 5 [2] (v := (.agg (mcells m))) (fun w' : World => MB w' 27 w.heap.size m) rfl (by kernel_rfl) (by kernel_rfl) (by kernel_rfl) (by rfl) (by kernel_rfl) (by simp) (fun _ _ _ h => h) (Or.inl ⟨by rfl, ?_⟩) (by assumption) ?_
    · (intro W hW; exact exec_load _ rfl rfl (load_run hW))
    intro hHeld'
    clear hHeld; have hHeld := hHeld'; clear hHeld'
    try simp only [Act.put, List.getElem_toArray, List.getElem_cons_succ, List.getElem_cons_zero, List.setIfInBounds_toArray, List.set_cons_zero, List.set_cons_succ]
    refine wpAnyL_take0 (i := 3) (v := ?_) rfl (by kernel_rfl) (by kernel_rfl) (by kernel_rfl) (by rfl) (fun _ _ _ h => h) (Or.inl ⟨by rfl, ?_⟩) (by assumption) ?_
    rotate_left
    · (intro W _; go_simp; (with_reducible rfl))
    intro hHeld'
    clear hHeld; have hHeld := hHeld'; clear hHeld'
    try simp only [Act.put, List.getElem_toArray, List.getElem_cons_succ, List.getElem_cons_zero, List.setIfInBounds_toArray, List.set_cons_zero, List.set_cons_succ]
    refine wpAnyL_take0 (i := 4) (v := ?_) rfl (by kernel_rfl) (by kernel_rfl) (by kernel_rfl) (by rfl) (fun _ _ _ h => h) (Or.inl ⟨by rfl, ?_⟩) (by assumption) ?_
    rotate_left
    · (intro W _; go_simp; (with_reducible rfl))
    intro hHeld'
    clear hHeld; have hHeld := hHeld'; clear hHeld'
    try simp only [Act.put, List.getElem_toArray, List.getElem_cons_succ, List.getElem_cons_zero, List.setIfInBounds_toArray, List.set_cons_zero, List.set_cons_succ]
    refine wpAnyL_ready (rs := [2]) (by kernel_rfl) (by simp) ?_
    refine AllReadyL.cons rfl (fun K hK => ?_) AllReadyL.nil
    go_simp
    (with_reducible refine (hiv.out _).mono ?_)
    rintro e w3 ⟨rfl, hb⟩
    replace hS := hid (hS.out.call hb)
    clear hb
    go_simp
    refine hK.out _ _ (HeldL.cons (fun _ => hS.out.m0) HeldL.nil) (fun hHeld' => ?_)
    clear hK K hHeld; have hHeld := hHeld'; clear hHeld'
    try simp only [Act.put, List.getElem_toArray, List.getElem_cons_succ, List.getElem_cons_zero, List.setIfInBounds_toArray, List.set_cons_zero, List.set_cons_succ]
    refine wpAnyL_ready (rs := [5]) (by kernel_rfl) (by simp) ?_
    refine AllReadyL.cons rfl (fun K hK => ?_) AllReadyL.nil
    go_simp
    (with_reducible refine (hac.out _ hS.out.o1).mono ?_)
    rintro e w4 ⟨v', rfl, hO, hb⟩
    replace hS := hid (hS.out.callOwn hb hO)
    clear hb hO
    go_simp
    refine hK.out _ _ (HeldL.cons (fun h => absurd h (by decide +kernel)) HeldL.nil) (fun hHeld' => ?_)
    clear hK K hHeld; have hHeld := hHeld'; clear hHeld'
    try simp only [Act.put, List.getElem_toArray, List.getElem_cons_succ, List.getElem_cons_zero, List.setIfInBounds_toArray, List.set_cons_zero, List.set_cons_succ]
    refine wpAnyL_take0 (i := 6) (v := ?_) rfl (by kernel_rfl) (by kernel_rfl) (by kernel_rfl) (by rfl) (fun _ _ _ h => h) (Or.inl ⟨by rfl, ?_⟩) (by assumption) ?_
    rotate_left
    · (intro W _; go_simp; (with_reducible rfl))
    intro hHeld'
    clear hHeld; have hHeld := hHeld'; clear hHeld'
    try simp only [Act.put, List.getElem_toArray, List.getElem_cons_succ, List.getElem_cons_zero, List.setIfInBounds_toArray, List.set_cons_zero, List.set_cons_succ]
    refine wpAnyL_take0 (i := 7) (v := ?_) rfl (by kernel_rfl) (by kernel_rfl) (by kernel_rfl) (by rfl) (fun _ _ _ h => h) (Or.inl ⟨by rfl, ?_⟩) (by assumption) ?_
    rotate_left
    · (intro W _; go_simp; (with_reducible rfl))
    intro hHeld'
    clear hHeld; have hHeld := hHeld'; clear hHeld'
    try simp only [Act.put, List.getElem_toArray, List.getElem_cons_succ, List.getElem_cons_zero, List.setIfInBounds_toArray, List.set_cons_zero, List.set_cons_succ]
    refine wpAnyL_take0 (i := 8) (v := ?_) rfl (by kernel_rfl) (by kernel_rfl) (by kernel_rfl) (by rfl) (fun _ _ _ h => h) (Or.inl ⟨by rfl, ?_⟩) (by assumption) ?_
    rotate_left
    · (intro W _; go_simp; (with_reducible rfl))
    intro hHeld'
    clear hHeld; have hHeld := hHeld'; clear hHeld'
    try simp only [Act.put, List.getElem_toArray, List.getElem_cons_succ, List.getElem_cons_zero, List.setIfInBounds_toArray, List.set_cons_zero, List.set_cons_succ]
    refine wpAnyL_take0 (i := 9) (v := ?_) rfl (by kernel_rfl) (by kernel_rfl) (by kernel_rfl) (by rfl) (fun _ _ _ h => h) (Or.inl ⟨by rfl, ?_⟩) (by assumption) ?_
    rotate_left
    · (intro W _; go_simp; (with_reducible rfl))
    intro hHeld'
    clear hHeld; have hHeld := hHeld'; clear hHeld'
    try simp only [Act.put, List.getElem_toArray, List.getElem_cons_succ, List.getElem_cons_zero, List.setIfInBounds_toArray, List.set_cons_zero, List.set_cons_succ]
    refine wpAnyL_take0 (i := 10) (v := ?_) rfl (by kernel_rfl) (by kernel_rfl) (by kernel_rfl) (by rfl) (fun _ _ _ h => h) (Or.inl ⟨by rfl, ?_⟩) (by assumption) ?_
    rotate_left
    · (intro W _; go_simp; (with_reducible rfl))
    intro hHeld'
    clear hHeld; have hHeld := hHeld'; clear hHeld'
    try simp only [Act.put, List.getElem_toArray, List.getElem_cons_succ, List.getElem_cons_zero, List.setIfInBounds_toArray, List.set_cons_zero, List.set_cons_succ]
    refine wpAnyL_done (by kernel_rfl) ?_ _
    go_wp2
    go_ret2
    exact ⟨rfl, hS.out.bel⟩
set_option maxHeartbeats 2000000 in
set_option maxRecDepth 4000 in
theorem specSec_any (w : World) (m : Mach) (hkm : m.Ok) (b0 : Nat) (v : Value) (g : List Int) (hg : Own w b0 2 v (ints g)) (hl : g.length < 2000000) (ws : ByteArray) (hws : ws.size < 1000000000000) :
    Calls Try.prog 66 #[.agg (mcells m), v, .string ws] w fun e w' => ∃ v', e = .returned (.tuple #[v', .int .i64 (secAns m g ws).2]) ∧ Own w' w.heap.size 2 v' (ints (secAns m g ws).1) ∧ Below w.heap.size w w' := by
  have hS := hid ((St.arg w hg).newMB m 27)
  have hbo := hid (fun W (hr : Own W 0 2 v (ints g)) => l02Both_any W m hkm 0 v g hr hl ws hws)
  rcases gw_cases m g ws with h | ⟨l, s, gd, hgw, hw⟩ | ⟨l, s, gd, hgw, hw⟩
  · have hbad : ¬ IsGw m g := by
      rcases h with h | h
      · exact fun k => h k.1
      · exact h
    rw [secAns_1 hbad]
    rw [codB_n hbad] at hbo
    clear h hbad
    replace hkm := hid hkm; replace hg := hid hg
    go_enter Try.func66, Try.ntmps66
    go_wp2_with (first
      | ((with_reducible refine gate (N := 11) rfl ?_); refine load_mach rfl _ rfl w.heap.size rfl m hS.out.m0 ?_)
      | (go_at_call 175; (with_reducible refine (hbo.out _ hS.out.o1).mono ?_); rintro e w1 ⟨rfl, hb⟩; replace hS := hid (hS.out.call hb); clear hbo; clear hb))
    go_ret2
    exact ⟨_, rfl, Own.nil _ _ _, hS.out.bel⟩
  · rw [secAns_w gd hw]
    rw [codB_w gd hw] at hbo
    clear hgw hw; replace gd := hid gd
    replace hkm := hid hkm; replace hg := hid hg
    go_enter Try.func66, Try.ntmps66
    go_wp2_with (first
      | ((with_reducible refine gate (N := 11) rfl ?_); refine load_mach rfl _ rfl w.heap.size rfl m hS.out.m0 ?_)
      | (go_at_call 175; (with_reducible refine (hbo.out _ hS.out.o1).mono ?_); rintro e w1 ⟨rfl, hb⟩; replace hS := hid (hS.out.call hb); clear hbo; clear hb))
    go_ret2
    exact ⟨_, rfl, Own.nil _ _ _, hS.out.bel⟩
  · rw [secAns_0 gd hgw hw]
    rw [codB_0 gd hgw hw] at hbo
    obtain ⟨hwe, hwl, hw40⟩ := lets_wstr ws hw
    obtain ⟨hgl, hgn⟩ := hgw.parts gd
    have hiv := hid (fun W => l01Inverse_any W m l s gd hkm)
    have hac := hid (fun W (hO : Own W 0 2 v (ints g)) => (by have h := l02Act_any W m l s gd 0 v g hO hgn (by omega) (lets ws) hwl (by omega); rw [← hwe] at h; exact h : Calls Try.prog 176 #[.agg (mcells m), .agg (mcells (inv m l s)), v, .string ws] W fun e w' => ∃ v', e = .returned (.tuple #[.string (wstr (imgW m l s g (lets ws))), v']) ∧ Own w' W.heap.size 2 v' (ints (secW m l s g (lets ws))) ∧ Below W.heap.size W w'))
    replace hkm := hid hkm; replace hg := hid hg; replace hgw := hid hgw; replace gd := hid gd; replace hwe := hid hwe
    generalize wstr (imgW m l s g (lets ws)) = ans at *
    generalize secW m l s g (lets ws) = se at *
    generalize inv m l s = I at *
    go_enter Try.func66, Try.ntmps66
    go_upto_region 4 with (first
      | ((with_reducible refine gate (N := 11) rfl ?_); refine load_mach rfl _ rfl w.heap.size rfl m hS.out.m0 ?_)
      | (go_at_call 175; (with_reducible refine (hbo.out _ hS.out.o1).mono ?_); rintro e w1 ⟨rfl, hb⟩; replace hS := hid (hS.out.call hb); clear hbo; clear hb))
    replace hS := hid hS.out.drew
    refine wp_region_heldL (L := [(5, (fun w' : World => MB w' 27 w.heap.size m))]) (by kernel_rfl) (HeldL.cons (fun _ => hS.out.m0) HeldL.nil) (fun hHeld => ?_)
    generalize w1.drew = wa at *
    refine wpAnyL_takeP (i := 0) 5 [] (v := (.agg (mcells m))) (fun w' : World => MB w' 27 w.heap.size m) rfl (by kernel_rfl) (by kernel_rfl) (by kernel_rfl) (by rfl) (by kernel_rfl) (by simp) (fun _ _ _ h => h) (Or.inl ⟨by rfl, ?_⟩) (by assumption) ?_
    · (intro W hW; exact exec_load _ rfl rfl (load_run hW))
    intro hHeld'
    clear hHeld; have hHeld := hHeld'; clear hHeld'
    try simp only [Act.put, List.getElem_toArray, List.getElem_cons_succ, List.getElem_cons_zero, List.setIfInBounds_toArray, List.set_cons_zero, List.set_cons_succ]
    refine wpAnyL_takeP (i := 1) 5 [2] (v := (.agg (mcells m))) (fun w' : World => MB w' 27 w.heap.size m) rfl (by kernel_rfl) (by kernel_rfl) (by kernel_rfl) (by rfl) (by kernel_rfl) (by simp) (fun _ _ _ h => h) (Or.inl ⟨by rfl, ?_⟩) (by assumption) ?_
    · (intro W hW; exact exec_load _ rfl rfl (load_run hW))
    intro hHeld'
    clear hHeld; have hHeld := hHeld'; clear hHeld'
    try simp only [Act.put, List.getElem_toArray, List.getElem_cons_succ, List.getElem_cons_zero, List.setIfInBounds_toArray, List.set_cons_zero, List.set_cons_succ]
    refine wpAnyL_take0 (i := 3) (v := ?_) rfl (by kernel_rfl) (by kernel_rfl) (by kernel_rfl) (by rfl) (fun _ _ _ h => h) (Or.inl ⟨by rfl, ?_⟩) (by assumption) ?_
    rotate_left
    · (intro W _; go_simp; (with_reducible rfl))
    intro hHeld'
    clear hHeld; have hHeld := hHeld'; clear hHeld'
    try simp only [Act.put, List.getElem_toArray, List.getElem_cons_succ, List.getElem_cons_zero, List.setIfInBounds_toArray, List.set_cons_zero, List.set_cons_succ]
    refine wpAnyL_take0 (i := 4) (v := ?_) rfl (by kernel_rfl) (by kernel_rfl) (by kernel_rfl) (by rfl) (fun _ _ _ h => h) (Or.inl ⟨by rfl, ?_⟩) (by assumption) ?_
    rotate_left
    · (intro W _; go_simp; (with_reducible rfl))
    intro hHeld'
    clear hHeld; have hHeld := hHeld'; clear hHeld'
    try simp only [Act.put, List.getElem_toArray, List.getElem_cons_succ, List.getElem_cons_zero, List.setIfInBounds_toArray, List.set_cons_zero, List.set_cons_succ]
    refine wpAnyL_ready (rs := [2]) (by kernel_rfl) (by simp) ?_
    refine AllReadyL.cons rfl (fun K hK => ?_) AllReadyL.nil
    go_simp
    (with_reducible refine (hiv.out _).mono ?_)
    rintro e w3 ⟨rfl, hb⟩
    replace hS := hid (hS.out.call hb)
    clear hb
    go_simp
    refine hK.out _ _ (HeldL.cons (fun _ => hS.out.m0) HeldL.nil) (fun hHeld' => ?_)
    clear hK K hHeld; have hHeld := hHeld'; clear hHeld'
    try simp only [Act.put, List.getElem_toArray, List.getElem_cons_succ, List.getElem_cons_zero, List.setIfInBounds_toArray, List.set_cons_zero, List.set_cons_succ]
    refine wpAnyL_ready (rs := [5]) (by kernel_rfl) (by simp) ?_
    refine AllReadyL.cons rfl (fun K hK => ?_) AllReadyL.nil
    go_simp
    (with_reducible refine (hac.out _ hS.out.o1).mono ?_)
    rintro e w4 ⟨v', rfl, hO, hb⟩
    replace hS := hid (hS.out.callOwn hb hO)
    clear hb hO
    go_simp
    refine hK.out _ _ (HeldL.cons (fun h => absurd h (by decide +kernel)) HeldL.nil) (fun hHeld' => ?_)
    clear hK K hHeld; have hHeld := hHeld'; clear hHeld'
    try simp only [Act.put, List.getElem_toArray, List.getElem_cons_succ, List.getElem_cons_zero, List.setIfInBounds_toArray, List.set_cons_zero, List.set_cons_succ]
    refine wpAnyL_take0 (i := 6) (v := ?_) rfl (by kernel_rfl) (by kernel_rfl) (by kernel_rfl) (by rfl) (fun _ _ _ h => h) (Or.inl ⟨by rfl, ?_⟩) (by assumption) ?_
    rotate_left
    · (intro W _; go_simp; (with_reducible rfl))
    intro hHeld'
    clear hHeld; have hHeld := hHeld'; clear hHeld'
    try simp only [Act.put, List.getElem_toArray, List.getElem_cons_succ, List.getElem_cons_zero, List.setIfInBounds_toArray, List.set_cons_zero, List.set_cons_succ]
    refine wpAnyL_take0 (i := 7) (v := ?_) rfl (by kernel_rfl) (by kernel_rfl) (by kernel_rfl) (by rfl) (fun _ _ _ h => h) (Or.inl ⟨by rfl, ?_⟩) (by assumption) ?_
    rotate_left
    · (intro W _; go_simp; (with_reducible rfl))
    intro hHeld'
    clear hHeld; have hHeld := hHeld'; clear hHeld'
    try simp only [Act.put, List.getElem_toArray, List.getElem_cons_succ, List.getElem_cons_zero, List.setIfInBounds_toArray, List.set_cons_zero, List.set_cons_succ]
    refine wpAnyL_take0 (i := 8) (v := ?_) rfl (by kernel_rfl) (by kernel_rfl) (by kernel_rfl) (by rfl) (fun _ _ _ h => h) (Or.inl ⟨by rfl, ?_⟩) (by assumption) ?_
    rotate_left
    · (intro W _; go_simp; (with_reducible rfl))
    intro hHeld'
    clear hHeld; have hHeld := hHeld'; clear hHeld'
    try simp only [Act.put, List.getElem_toArray, List.getElem_cons_succ, List.getElem_cons_zero, List.setIfInBounds_toArray, List.set_cons_zero, List.set_cons_succ]
    refine wpAnyL_take0 (i := 9) (v := ?_) rfl (by kernel_rfl) (by kernel_rfl) (by kernel_rfl) (by rfl) (fun _ _ _ h => h) (Or.inl ⟨by rfl, ?_⟩) (by assumption) ?_
    rotate_left
    · (intro W _; go_simp; (with_reducible rfl))
    intro hHeld'
    clear hHeld; have hHeld := hHeld'; clear hHeld'
    try simp only [Act.put, List.getElem_toArray, List.getElem_cons_succ, List.getElem_cons_zero, List.setIfInBounds_toArray, List.set_cons_zero, List.set_cons_succ]
    refine wpAnyL_take0 (i := 10) (v := ?_) rfl (by kernel_rfl) (by kernel_rfl) (by kernel_rfl) (by rfl) (fun _ _ _ h => h) (Or.inl ⟨by rfl, ?_⟩) (by assumption) ?_
    rotate_left
    · (intro W _; go_simp; (with_reducible rfl))
    intro hHeld'
    clear hHeld; have hHeld := hHeld'; clear hHeld'
    try simp only [Act.put, List.getElem_toArray, List.getElem_cons_succ, List.getElem_cons_zero, List.setIfInBounds_toArray, List.set_cons_zero, List.set_cons_succ]
    refine wpAnyL_done (by kernel_rfl) ?_ _
    go_wp2
    go_ret2
    exact ⟨_, rfl, hS.out.o0, hS.out.bel⟩
end Go.Proofs.Ythmcdfjijkecfaa

/- How often a word has to be led until it comes back. -/
namespace Go.Proofs.Ythmcdfjijkecfaa
open Go.RowKit
set_option linter.unusedVariables false
set_option linter.unusedSimpArgs false

section
variable {m : Mach} {l s : Nat}
theorem apO_inj (g : Good m l s) {k : Int} (h : isNum s k) {x y : Nat} (hx : x < l) (hy : y < l) (e : apO m l s k x = apO m l s k y) : x = y := by
  obtain ⟨q, hq, rfl | rfl⟩ := isNum_cases h
  · rw [apO_pos, apO_pos] at e
    rcases Nat.lt_trichotomy x y with h | h | h
    · exact absurd e (g.inj q hq x y h hy)
    · exact h
    · exact absurd e.symm (g.inj q hq y x h hx)
  · rw [apO_neg, apO_neg] at e
    rcases Nat.lt_trichotomy x y with h | h | h
    · exact absurd e ((inv_good g).inj q hq x y h hy)
    · exact h
    · exact absurd e.symm ((inv_good g).inj q hq y x h hx)
theorem atX_inj (g : Good m l s) : ∀ (u : List Int) (x y : Nat), (∀ k ∈ u, isNum s k) → x < l → y < l → atX m l s u x = atX m l s u y → x = y
  | [], _, _, _, _, _, e => e
  | k :: t, x, y, h, hx, hy, e => by
    have hk := h k List.mem_cons_self
    exact apO_inj g hk hx hy (atX_inj g t _ _ (fun j hj => h j (List.mem_cons_of_mem _ hj)) (apO_lt g hk hx) (apO_lt g hk hy) e)
theorem imgW_inj (gd : Good m l s) : ∀ (u v : List Nat) (g : List Int), (∀ k ∈ g, isNum s k) → (∀ x ∈ u, x < l) → (∀ x ∈ v, x < l) → imgW m l s g u = imgW m l s g v → u = v
  | [], [], _, _, _, _, _ => rfl
  | [], y :: v, g, _, _, _, e => by simp [imgW] at e
  | x :: u, [], g, _, _, _, e => by simp [imgW] at e
  | x :: u, y :: v, g, h, hu, hv, e => by
    have e' : atX m l s g x :: imgW m l s (atS m l s g x) u = atX m l s g y :: imgW m l s (atS m l s g y) v := e
    injection e' with e1 e2
    have hx := hu x List.mem_cons_self
    have hxy := atX_inj gd g x y h hx (hv y List.mem_cons_self) e1
    subst hxy
    rw [imgW_inj gd u v _ (atS_num gd g x h hx) (fun z hz => hu z (List.mem_cons_of_mem _ hz)) (fun z hz => hv z (List.mem_cons_of_mem _ hz)) e2]
end
/-- A word led again and again. -/
def itW (m : Mach) (l s : Nat) (g : List Int) (u : List Nat) : Nat → List Nat
  | 0 => u
  | k + 1 => imgW m l s g (itW m l s g u k)
section
variable {m : Mach} {l s : Nat} {g : List Int} {u : List Nat}
theorem itW_length (k : Nat) : (itW m l s g u k).length = u.length := by
  induction k with
  | zero => rfl
  | succ k ih => show (imgW m l s g _).length = _; rw [imgW_length, ih]
theorem itW_lt (gd : Good m l s) (hg : ∀ k ∈ g, isNum s k) (hu : ∀ x ∈ u, x < l) (k : Nat) : ∀ x ∈ itW m l s g u k, x < l := by
  induction k with
  | zero => exact hu
  | succ k ih => exact imgW_lt gd _ g hg ih
theorem itW_cancel (gd : Good m l s) (hg : ∀ k ∈ g, isNum s k) (hu : ∀ x ∈ u, x < l) : ∀ i d, itW m l s g u i = itW m l s g u (i + d) → u = itW m l s g u d
  | 0, d, e => by rw [Nat.zero_add] at e; exact e
  | i + 1, d, e => by
    rw [show i + 1 + d = (i + d) + 1 by omega] at e
    exact itW_cancel gd hg hu i d (imgW_inj gd _ _ g hg (itW_lt gd hg hu i) (itW_lt gd hg hu (i + d)) e)
theorem itW_back (gd : Good m l s) (hg : ∀ k ∈ g, isNum s k) (hu : ∀ x ∈ u, x < l) : ∃ d, d < pw l u.length ∧ itW m l s g u (d + 1) = u := by
  apply Classical.byContradiction
  intro hn
  have hinj : InjOn (fun i => num l (itW m l s g u i)) (pw l u.length + 1) := by
    intro i j hij hj e
    have hl : 0 < l := by have := gd.l2; omega
    have e2 : itW m l s g u i = itW m l s g u j := by
      have h1 := wrd_num l hl u.length _ (itW_length i) (itW_lt gd hg hu i)
      have h2 := wrd_num l hl u.length _ (itW_length j) (itW_lt gd hg hu j)
      rw [← h1, ← h2]
      exact congrArg _ e
    obtain ⟨d, rfl⟩ : ∃ d, j = i + (d + 1) := ⟨j - i - 1, by omega⟩
    exact hn ⟨d, by omega, (itW_cancel gd hg hu i (d + 1) e2).symm⟩
  have := inj_le (pw l u.length + 1) (pw l u.length) _ (fun i _ => num_lt l u.length _ (itW_length i) (itW_lt gd hg hu i)) hinj
  omega
end
/-- The period: the least number of times that leads a word back. -/
def per (m : Mach) (l s : Nat) (g : List Int) (u : List Nat) : Nat := fst (fun k => decide (itW m l s g u (k + 1) = u)) (pw l u.length) + 1
section
variable {m : Mach} {l s : Nat} {g : List Int} {u : List Nat}
theorem per_back (gd : Good m l s) (hg : ∀ k ∈ g, isNum s k) (hu : ∀ x ∈ u, x < l) : itW m l s g u (per m l s g u) = u ∧ per m l s g u ≤ pw l u.length := by
  obtain ⟨d, hd, he⟩ := itW_back gd hg hu
  have hle := fst_le (fun k => decide (itW m l s g u (k + 1) = u)) (pw l u.length)
  have hlt : fst (fun k => decide (itW m l s g u (k + 1) = u)) (pw l u.length) < pw l u.length := by
    apply Classical.byContradiction
    intro hn
    have h := fst_none (fun k => decide (itW m l s g u (k + 1) = u)) (pw l u.length) d (by omega)
    simp [he] at h
  exact ⟨by have h := fst_some _ _ hlt; unfold per; simpa using h, hlt⟩
theorem per_min {k : Nat} (h1 : 1 ≤ k) (h2 : k < per m l s g u) : itW m l s g u k ≠ u := by
  obtain ⟨j, rfl⟩ : ∃ j, k = j + 1 := ⟨k - 1, by omega⟩
  have h := fst_none (fun k => decide (itW m l s g u (k + 1) = u)) (pw l u.length) j (by unfold per at h2; omega)
  simpa using h
theorem per_pos : 1 ≤ per m l s g u := by unfold per; omega
end
theorem bytes_ne {a b : ByteArray} (h : a ≠ b) : (a.toList == b.toList) = false := by
  rw [← beq_toListBytes]
  have e : (a == b) = (a.data == b.data) := rfl
  rw [e, beq_eq_false_iff_ne]
  intro e2
  exact h (ByteArray.ext e2)
theorem bytes_eq {a b : ByteArray} (h : a = b) : (a.toList == b.toList) = true := by subst h; simp
theorem wstr_inj {u v : List Nat} (hu : ∀ x ∈ u, x < 200) (hv : ∀ x ∈ v, x < 200) (e : wstr u = wstr v) : u = v := by
  have hl : u.length = v.length := by rw [← wstr_size u, ← wstr_size v, e]
  apply List.ext_getElem hl
  intro i h1 h2
  have hb1 := wstr_byte u i (by rw [wstr_size]; exact h1) hu
  have hb2 := wstr_byte v i (by rw [wstr_size]; exact h2) hv
  have e3 : ((wstr u)[i]'(by rw [wstr_size]; exact h1)).toNat = ((wstr v)[i]'(by rw [wstr_size]; exact h2)).toNat := by simp only [e]
  rw [hb1, hb2, List.getD_eq_getElem?_getD, List.getD_eq_getElem?_getD, List.getElem?_eq_getElem h1, List.getElem?_eq_getElem h2] at e3
  simp at e3
  exact e3
open Classical in
/-- What PeriodOfWord answers. -/
noncomputable def perAns (m : Mach) (g : List Int) (ws : ByteArray) : Int × Int := if IsGw m g ∧ IsWd m.L ws then (if ws.size ≤ 5 then (((per m m.L.toNat m.S.toNat g (lets ws) : Nat) : Int), 0) else (0, 2)) else (0, 1)
section
variable {m : Mach} {l s : Nat} {g : List Int} {ws : ByteArray}
theorem perAns_1 (h : ¬ IsGw m g) : perAns m g ws = (0, 1) := by unfold perAns; rw [if_neg (fun k => h k.1)]
theorem perAns_w (gd : Good m l s) (h : ¬ IsWd l ws) : perAns m g ws = (0, 1) := by unfold perAns; rw [gd.L, if_neg (fun k => h k.2)]
theorem perAns_2 (gd : Good m l s) (h : IsGw m g) (hw : IsWd l ws) (h5 : ¬ ws.size ≤ 5) : perAns m g ws = (0, 2) := by unfold perAns; rw [gd.L, if_pos ⟨h, hw⟩, if_neg h5]
theorem perAns_0 (gd : Good m l s) (h : IsGw m g) (hw : IsWd l ws) (h5 : ws.size ≤ 5) : perAns m g ws = (((per m l s g (lets ws) : Nat) : Int), 0) := by unfold perAns; rw [gd.L, gd.S, if_pos ⟨h, hw⟩, if_pos h5]; rfl
end

end Go.Proofs.Ythmcdfjijkecfaa

/- The reference's least equal states of a large machine. -/
namespace Go.Proofs.Ythmcdfjijkecfaa
open Go.RowKit
set_option linter.unusedVariables false
set_option linter.unusedSimpArgs false

/-- Equal rows of bytes. -/
theorem rc1_iff (f : Nat → Nat → Nat) (L a b : Nat) (hL : L ≤ 3) : rc1 .u8 f L a = rc1 .u8 f L b ↔ (alls L fun x => f a x == f b x) = true := by
  rw [alls_iff]
  constructor
  · intro h x hx
    have h1 := rc1_get .u8 f L a x (by omega)
    rw [h, rc1_get .u8 f L b x (by omega), if_pos hx, if_pos hx] at h1
    simp at h1; simp; omega
  · intro h
    unfold rc1
    apply List.map_congr_left
    intro x _
    by_cases hx : x < L
    · have := h x hx
      simp at this
      rw [if_pos hx, if_pos hx, this]
    · rw [if_neg hx, if_neg hx]
theorem lit3_iff {a b c a' b' c' : Nat} : ([Value.int .u8 (a : Int), .int .u8 (b : Int), .int .u8 (c : Int)] = [.int .u8 (a' : Int), .int .u8 (b' : Int), .int .u8 (c' : Int)]) ↔ a = a' ∧ b = b' ∧ c = c' := by
  constructor
  · intro h; simp at h; omega
  · rintro ⟨rfl, rfl, rfl⟩; rfl
theorem rc1_lit256 (f : Nat → Nat → Nat) (L q : Nat) (h : ∀ x, x < L → f q x < 256) : ∃ a b c : Nat, rc1 .u8 f L q = [.int .u8 (a : Int), .int .u8 (b : Int), .int .u8 (c : Int)] ∧ a < 256 ∧ b < 256 ∧ c < 256 := by
  have hx : ∀ x, (if x < L then f q x else 0) < 256 := fun x => by
    by_cases hx : x < L
    · rw [if_pos hx]; exact h x hx
    · rw [if_neg hx]; omega
  exact ⟨_, _, _, rfl, hx 0, hx 1, hx 2⟩
theorem clsL_stable {T : Tab} {k : Nat} (h : Stable T k) : clsL T (k + 1) T.n = clsL T k T.n := by
  unfold clsL
  apply List.map_congr_left
  intro q hq
  exact h q (List.mem_range.1 hq)
/-- A list filled up to q, with x at q. -/
theorem filL_at (f : Nat → Nat) (q n x : Nat) (hq : q < n) : ∀ j, j < n → ((nats (filL f q n)).set q (.int .i64 (x : Int)))[j]? = some (.int .i64 ((if j = q then x else if j < q then f j else 0 : Nat) : Int)) := fun j hj => by
  rw [List.getElem?_set]
  by_cases e : q = j
  · subst e; rw [if_pos rfl, if_pos (by rw [nats_length, filL_length]; exact hj), if_pos rfl]
  · rw [if_neg e, if_neg (Ne.symm e)]
    simp [nats, filL, hj]
theorem filL_done (f : Nat → Nat) (q n x : Nat) (h : x = f q) : (nats (filL f q n)).set q (.int .i64 (x : Int)) = nats (filL f (q + 1) n) := by subst h; exact filL_set f q n

set_option maxHeartbeats 8000000 in
set_option maxRecDepth 100000 in
theorem l07Classes_any (w : World) (base : Nat) (vN vO : Value) (T : Tab) (hT : T.Ok) (hL : T.L ≤ 3) (hL0 : 0 < T.L) (hn : T.n < 100000) (hot : ∀ q x, q < T.n → x < T.L → T.ot q x < 256) (hG : LG w base vN vO T) :
    Calls Try.prog 257 #[.agg #[.int .i64 T.L, vN, vO]] w fun e w' => ∃ v, e = .returned v ∧ Own w' w.heap.size 2 v (nats ((List.range T.n).map (fix T))) ∧ Below w.heap.size w w' := by
  have hpos := hT.pos
  obtain ⟨gN, cN, rfl⟩ := hG.1.blk hpos
  obtain ⟨gO, cO, rfl⟩ := hG.2.blk hpos
  have hGW := hid (fun W (hb : Below w.heap.size w W) => hG.below hb)
  have hcN := hid (fun W (hb : Below w.heap.size w W) q x (hq : q < T.n) (hx : x < T.L) => (hG.below hb).1.cellAt (q * 3 + x) _ (rcs_in .i64 T.nx T.L T.n q x hq hx hL))
  have hrO := hid (fun W (hb : Below w.heap.size w W) q (hq : q < T.n) => (hG.below hb).2.range (q * 3) (rc1 .u8 T.ot T.L q) (rcs_row .u8 T.ot T.L T.n q hq))
  have hrw := hid (fun a b => rc1_iff T.ot T.L a b hL)
  have hS := hid ((St.start w).newBlk #[.int .i64 T.L, .slice (some ⟨gN, 0, none⟩) T.n cN, .slice (some ⟨gO, 0, none⟩) T.n cO] 225)
  have hmk := fun W : World => run_make_row' (P := Try.prog) 29 2 (.int .i64 0) 8 Try.underlying29 info_i64 rfl .i64 .i64 T.n (by omega) (by omega) W
  have hmc := hid (toList_madeCells_one (.int .i64 0) T.n)
  generalize madeCells #[.int .i64 0] T.n = mc at *
  have hmcs := hid (show mc.size = T.n by rw [← Array.length_toList, hmc.out, List.length_replicate])
  have hcb := hid (fun k => cnt1_le T (k + 1) T.n)
  have hcp := hid (fun k => cnt1_pos T k T.n hpos)
  have hst := hid (fun k => stable_or T k)
  have hsc := hid (fun k (h : Stable T (k + 1)) => stable_cnt h)
  have hfx := hid (fun k hk h => clsL_fix hT (k := k) hk h)
  have hnx := hid (fun q x (hq : q < T.n) (hx : x < T.L) => hT.nx q x hq hx)
  have hc0 := hid (show clsL T 0 T.n = filL (cls T 0) 0 T.n by unfold clsL filL; apply List.map_congr_left; intro j _; simp [cls])
  have hlk := hid (fun k r q => like_iff T (cls T k) r q)
  have hci := hid (fun k r q => cls_iff T k r q)
  have hcle := hid (fun k q => cls_le T k q)
  have hcs' := hid (fun k q (h : ∀ j, j < q → like T (cls T k) j q = false) => (show cls T (k + 1) q = q from by rw [cls_succ]; exact fst_eq _ _ _ (Nat.le_refl _) h (fun h' => absurd h' (Nat.lt_irrefl _))))
  have hlit := hid (fun q (hq : q < T.n) => rc1_lit256 T.ot T.L q (fun x hx => hot q x hq hx))
  have hcst := hid (fun k (h : Stable T k) => clsL_stable h)
  have hgd := guard_b3
  have hall := hid (fun L' p => alls_iff L' p)
  replace hT := hid hT
  clear hG
  generalize hnn : T.n = n at *
  replace hnn := hid hnn
  generalize hLL : T.L = L at *
  replace hLL := hid hLL
  have hcl : w.heap.size < w.heap.size + 1 := Nat.lt_succ_self _
  have e0 : (w.alloc (.cells #[.int .i64 L, .slice (some ⟨gN, 0, none⟩) n cN, .slice (some ⟨gO, 0, none⟩) n cO] 225)).cell? ⟨w.heap.size, 1, none⟩ = some (.slice (some ⟨gN, 0, none⟩) n cN) := cell_of_row _ _ 1 _ _ _ hS.out.k0
  go_enter Try.func257, Try.ntmps257
  go_wp2
  have yS := hid (hS.out.newArr mc n hmcs.out 2 (by omega))
  rw [hmc.out, filL_zero (cls T 0) n, ← hc0.out, heap_alloc_size] at yS
  clear hS e0
  generalize (w.alloc (.cells #[.int .i64 L, .slice (some ⟨gN, 0, none⟩) n cN, .slice (some ⟨gO, 0, none⟩) n cO] 225)).alloc (.cells mc 2) = w1 at *
  go_loopg [4, 5] n (fun gk v ks wr => ∃ k K : Nat, ks = .int .i64 K ∧ k ≤ K ∧ (k = 0 → K = 0) ∧ (k ≠ 0 → K = cnt1 T k n) ∧ gk = n - k ∧ St w.heap.size w [Asn.own w.heap.size 2 v (nats (clsL T k n)), Asn.blk w.heap.size #[.int .i64 L, .slice (some ⟨gN, 0, none⟩) n cN, .slice (some ⟨gO, 0, none⟩) n cO] 225] wr)
  case atStart => exact ⟨0, 0, rfl, Nat.le_refl _, fun _ => rfl, fun h => absurd rfl h, rfl, yS.out⟩
  case round =>
    obtain ⟨k, K, rfl, hkK, hK0, hK1, rfl, rS⟩ := hrel
    clear yS
    replace hK0 := hid hK0; replace hK1 := hid hK1
    obtain ⟨g1, c1, rfl, _, _⟩ := rS.o0.blk (fun e => by have h1 := congrArg List.length e; rw [nats_length, clsL_length, List.length_nil] at h1; omega)
    rw [nats_length, clsL_length] at rS ⊢
    have yS := hid (rS.newArr mc n hmcs.out 2 (by omega))
    rw [hmc.out, filL_zero (cls T (k + 1)) n] at yS
    clear rS
    go_wp2
    generalize wr.alloc (.cells mc 2) = wa at *
    generalize wr.heap.size = g2 at *
    go_loopw [7, 8] (fun ct i wr => ∃ q : Nat, q ≤ n ∧ i = .int .i64 q ∧ ct = .int .i64 (cnt1 T (k + 1) q : Nat) ∧ St w.heap.size w [Asn.own w.heap.size 2 (.slice (some ⟨g2, 0, none⟩) n n) (nats (filL (cls T (k + 1)) q n)), Asn.own w.heap.size 2 (.slice (some ⟨g1, 0, none⟩) n c1) (nats (clsL T k n)), Asn.blk w.heap.size #[.int .i64 L, .slice (some ⟨gN, 0, none⟩) n cN, .slice (some ⟨gO, 0, none⟩) n cO] 225] wr) (fun _ i _ => n - (intOf i).toNat)
    case atStart => exact ⟨0, Nat.zero_le _, rfl, rfl, yS.out⟩
    case round =>
      obtain ⟨q, hq, rfl, rfl, zS⟩ := hrel
      clear yS
      replace zS := hid zS
      by_cases hqn : q < n
      · have dq : decide ((q : Int) < (n : Int)) = true := decide_eq_true (by omega)
        obtain ⟨u, hu⟩ := filL_get (cls T (k + 1)) q n q hqn
        have co := Own.cellAt zS.out.o0 q u hu
        have fo := Own.frozenAt zS.out.o0 (by rw [nats_length, filL_length]) q
        have tS := hid (zS.out.setOwn (by rw [nats_length, filL_length]) q (.int .i64 (q : Int)) hqn)
        have hct := cnt1_le T (k + 1) q
        have hcs := hid (show cnt1 T (k + 1) (q + 1) = cnt1 T (k + 1) q + if cls T (k + 1) q = q then 1 else 0 from rfl)
        clear hu zS
        generalize cnt1 T (k + 1) q = ct at *
        go_upto_region 8 with (fail)
        clear co fo
        generalize wr.setCell ⟨g2, q, none⟩ (.int .i64 (q : Int)) = wb at *
        go_wp2
        go_loopw [9] (fun i wr => ∃ r : Nat, r ≤ q ∧ i = .int .i64 r ∧ Hid (∀ j, j < r → like T (cls T k) j q = false) ∧ St w.heap.size w [Asn.own w.heap.size 2 (.slice (some ⟨g2, 0, none⟩) n n) ((nats (filL (cls T (k + 1)) q n)).set q (.int .i64 (q : Int))), Asn.own w.heap.size 2 (.slice (some ⟨g1, 0, none⟩) n c1) (nats (clsL T k n)), Asn.blk w.heap.size #[.int .i64 L, .slice (some ⟨gN, 0, none⟩) n cN, .slice (some ⟨gO, 0, none⟩) n cO] 225] wr) (fun i _ => q - (intOf i).toNat)
        case atStart => exact ⟨0, Nat.zero_le _, rfl, fun j hj => absurd hj (by omega), tS.out⟩
        case round =>
          obtain ⟨r, hr, rfl, hno, uS⟩ := hrel
          clear tS
          replace uS := hid uS
          have hat := hid (filL_at (cls T (k + 1)) q n q hqn)
          by_cases hrq : r < q
          · have hrn : r < n := by omega
            have e1 := Own.cellAt uS.out.o1 q _ (clsL_get T k n q hqn)
            have e2 := Own.cellAt uS.out.o1 r _ (clsL_get T k n r hrn)
            have e3 : wr.cell? ⟨w.heap.size, 2, none⟩ = some (.slice (some ⟨gO, 0, none⟩) n cO) := cell_of_row _ _ 2 _ _ _ uS.out.k2
            have rq := hid (hrO.out wr uS.out.bel q hqn)
            have rr := hid (hrO.out wr uS.out.bel r hrn)
            have hoe := hid (hrw.out r q)
            have hl := hid (hlk.out k r q)
            obtain ⟨a0, a1, a2, hra, ha⟩ := hlit.out q hqn
            obtain ⟨b0, b1, b2, hrb, hb⟩ := hlit.out r hrn
            rw [hra, hrb, lit3_iff] at hoe
            rw [hra] at rq
            rw [hrb] at rr
            clear hra hrb
            have ea0 : wr.cell? ⟨gO, q * 3, none⟩ = some (.int .u8 (a0 : Int)) := rq.out 0 _ rfl
            have ea1 : wr.cell? ⟨gO, q * 3 + 1, none⟩ = some (.int .u8 (a1 : Int)) := rq.out 1 _ rfl
            have ea2 : wr.cell? ⟨gO, q * 3 + 2, none⟩ = some (.int .u8 (a2 : Int)) := rq.out 2 _ rfl
            have eb0 : wr.cell? ⟨gO, r * 3, none⟩ = some (.int .u8 (b0 : Int)) := rr.out 0 _ rfl
            have eb1 : wr.cell? ⟨gO, r * 3 + 1, none⟩ = some (.int .u8 (b1 : Int)) := rr.out 1 _ rfl
            have eb2 : wr.cell? ⟨gO, r * 3 + 2, none⟩ = some (.int .u8 (b2 : Int)) := rr.out 2 _ rfl
            generalize hcq : cls T k q = cq at *
            generalize hcr : cls T k r = cr at *
            replace hcq := hid hcq; replace hcr := hid hcr
            have hnext : Hid (like T (cls T k) r q = false → ∀ j, j < r + 1 → like T (cls T k) j q = false) := fun h j hj => by
              by_cases e : j = r
              · subst e; exact h
              · exact hno.out j (by omega)
            have dr : decide ((r : Int) < (q : Int)) = true := decide_eq_true (by omega)
            by_cases hcc : cq = cr
            · subst hcc
              have hbz : ((cq : Int) == (cq : Int)) = true := by simp
              obtain ⟨ro, hro⟩ : ∃ ro : Bool, Hid (Tells ro (a0 = b0 ∧ a1 = b1 ∧ a2 = b2)) := ⟨decide _, decide_eq_true_iff⟩
              have heq := fun W : World => eq_b3 W a0 a1 a2 b0 b1 b2 ha hb ro hro.out
              clear ha hb
              go_upto_region 11 with (fail)
              go_quiet (fail)
              clear ea0 ea1 ea2 eb0 eb1 eb2 e1 e2 e3 heq rq rr hbz
              replace uS := hid (uS.out.drewN nq)
              generalize wr.drewN nq = wc at *
              go_wp2
              go_loopw [10, 11] (fun sm i wr => ∃ x : Nat, x ≤ L ∧ i = .int .i64 x ∧ sm = .bool (ro && alls x fun y => cls T k (T.nx q y) == cls T k (T.nx r y)) ∧ St w.heap.size w [Asn.own w.heap.size 2 (.slice (some ⟨g2, 0, none⟩) n n) ((nats (filL (cls T (k + 1)) q n)).set q (.int .i64 (q : Int))), Asn.own w.heap.size 2 (.slice (some ⟨g1, 0, none⟩) n c1) (nats (clsL T k n)), Asn.blk w.heap.size #[.int .i64 L, .slice (some ⟨gN, 0, none⟩) n cN, .slice (some ⟨gO, 0, none⟩) n cO] 225] wr) (fun _ i _ => L - (intOf i).toNat)
              case atStart => exact ⟨0, Nat.zero_le _, rfl, by simp [alls], uS.out⟩
              case round =>
                obtain ⟨x, hx, rfl, rfl, vS⟩ := hrel
                clear uS
                replace vS := hid vS
                have e0 : wr.cell? ⟨w.heap.size, 0, none⟩ = some (.int .i64 (L : Int)) := cell_of_row _ _ 0 _ _ _ vS.out.k2
                have hsx := hid (alls_succ x fun y => cls T k (T.nx q y) == cls T k (T.nx r y))
                cases hsv : (ro && alls x fun y => cls T k (T.nx q y) == cls T k (T.nx r y)) with
                | false =>
                  have hlf := hid (hnext.out (by
                    cases hlv : like T (cls T k) r q with
                    | false => rfl
                    | true =>
                      obtain ⟨_, ho1, hx1⟩ := hl.out.1 hlv
                      have h1 : ro = true := hro.out.out.2 (by
                        obtain ⟨u1, u2, u3⟩ := hoe.out.2 ((hall.out _ _).2 fun x hx => by simpa using ho1 x hx)
                        exact ⟨u1.symm, u2.symm, u3.symm⟩)
                      have h2 : (alls x fun y => cls T k (T.nx q y) == cls T k (T.nx r y)) = true := (hall.out _ _).2 fun y hy => by simpa using (hx1 y (by omega)).symm
                      rw [h1, h2] at hsv
                      cases hsv))
                  clear hsv
                  by_cases hxL : x < L
                  · have dx : decide ((x : Int) < (L : Int)) = true := decide_eq_true (by omega)
                    go_wp2
                    go_roundw
                    case rel => exact ⟨r + 1, by omega, by go_num, hlf, vS.out⟩
                    case measure => simp [intOf]; omega
                  · have dx : decide ((x : Int) < (L : Int)) = false := decide_eq_false (by omega)
                    go_wp2
                    go_roundw
                    case rel => exact ⟨r + 1, by omega, by go_num, hlf, vS.out⟩
                    case measure => simp [intOf]; omega
                | true =>
                  rw [Bool.and_eq_true] at hsv
                  have hro1 := hsv.1
                  subst hro1
                  by_cases hxL : x < L
                  · have dx : decide ((x : Int) < (L : Int)) = true := decide_eq_true (by omega)
                    rw [hsv.2] at hsx
                    clear hsv
                    have e1 : wr.cell? ⟨w.heap.size, 1, none⟩ = some (.slice (some ⟨gN, 0, none⟩) n cN) := cell_of_row _ _ 1 _ _ _ vS.out.k2
                    have e2 := hcN.out wr vS.out.bel q x hqn hxL
                    have e3 := hcN.out wr vS.out.bel r x hrn hxL
                    have h1 := hnx.out q x hqn hxL
                    have h2 := hnx.out r x hrn hxL
                    have e4 := Own.cellAt vS.out.o1 _ _ (clsL_get T k n _ h1)
                    have e5 := Own.cellAt vS.out.o1 _ _ (clsL_get T k n _ h2)
                    generalize T.nx q x = a at *
                    generalize T.nx r x = b at *
                    generalize cls T k a = ca at *
                    generalize cls T k b = cb at *
                    have hbeq : (((ca : Nat) : Int) == ((cb : Nat) : Int)) = (ca == cb) := by
                      by_cases e : ca = cb
                      · subst e; simp
                      · have h1 : (ca == cb) = false := by simpa using e
                        rw [h1]
                        have : ((ca : Nat) : Int) ≠ ((cb : Nat) : Int) := by omega
                        simpa using this
                    replace hbeq := hid hbeq
                    have x3 : (x : Int) < 3 := by omega
                    have x0 : (0 : Int) ≤ (x : Int) := Int.natCast_nonneg _
                    go_upto_region 15 with (fail)
                    go_quiet (fail)
                    go_wp2
                    go_roundw
                    case rel => exact ⟨x + 1, by omega, by go_num, by rw [hsx.out]; simp; first | exact hbeq.out | (rw [← hbeq.out]; simp), vS.out.drewN _⟩
                    case measure => simp [intOf]; omega
                  · obtain rfl : L = x := by omega
                    have dx : decide ((L : Int) < (L : Int)) = false := decide_eq_false (by omega)
                    have hlv := hid (show like T (cls T k) r q = true from hl.out.2 ⟨by first | trivial | rfl, fun x hx => by
                        obtain ⟨u1, u2, u3⟩ := hro.out.out.1 rfl
                        have := (hall.out _ _).1 (hoe.out.1 ⟨u1.symm, u2.symm, u3.symm⟩) x hx
                        simpa using this, fun x hx => by have := (hall.out _ _).1 hsv.2 x hx; simpa using (by simpa using this : cls T k (T.nx q x) = cls T k (T.nx r x)).symm⟩)
                    clear hsv
                    have hce := hid ((hci.out k r q).2 hlv.out)
                    have hrr := hid (hcle.out (k + 1) r)
                    have e1 := Own.cellAt vS.out.o0 r _ (hat.out r hrn)
                    rw [if_neg (show ¬ r = q by omega), if_pos hrq] at e1
                    have e2 := Own.cellAt vS.out.o0 q _ (hat.out q hqn)
                    rw [if_pos rfl] at e2
                    have fo := Own.frozenAt vS.out.o0 (by rw [List.length_set, nats_length, filL_length]) q
                    have hdn := hid (filL_done (cls T (k + 1)) q n (cls T (k + 1) r) hce.out)
                    have hsk := hid (show cls T (k + 1) q ≠ q from by have h1 := hce.out; have h2 := hrr.out; omega)
                    have hcrr : cls T (k + 1) r < q := by have h2 := hrr.out; omega
                    generalize hcv : cls T (k + 1) r = cv at *
                    replace hcv := hid hcv
                    have vS2 := hid (vS.out.setOwn (by rw [List.length_set, nats_length, filL_length]) q (.int .i64 (cv : Int)) hqn)
                    rw [List.set_set, hdn.out] at vS2
                    rw [if_neg hsk.out] at hcs
                    have hne : ((cv : Int) == (q : Int)) = false := by simp; omega
                    go_wp2
                    go_roundw
                    case rel => exact ⟨q + 1, by omega, by go_num, by rw [hcs.out]; rfl, vS2.out⟩
                    case measure => simp [intOf]; omega
            · have hcz : ((cq : Int) == (cr : Int)) = false := by simp; omega
              have hlf := hid (hnext.out (by
                cases hlv : like T (cls T k) r q with
                | false => rfl
                | true => exact absurd (hl.out.1 hlv).1.symm hcc))
              have e0 : ∀ d, (wr.drewN d).cell? ⟨w.heap.size, 0, none⟩ = some (.int .i64 (L : Int)) := fun d => cell_of_row _ _ 0 _ _ _ uS.out.k2
              replace e0 := hid e0
              go_upto_region 11 with (fail)
              go_quiet (fail)
              have e00 := e0.out nq
              clear e1 e2 e3 ea0 ea1 ea2 eb0 eb1 eb2 ha hb rq rr hcc
              replace uS := hid (uS.out.drewN nq)
              generalize wr.drewN nq = wc at *
              go_wp2
              go_loopw [10, 11] (fun sm i wr => i = .int .i64 0 ∧ sm = .bool false ∧ wr = wc) (fun _ _ _ => 0)
              case atStart => exact ⟨rfl, rfl, rfl⟩
              case round =>
                obtain ⟨rfl, rfl, rfl⟩ := hrel
                go_wp2
                go_roundw
                case rel => exact ⟨r + 1, by omega, by go_num, hlf, uS.out⟩
                case measure => simp [intOf]; omega
          · obtain rfl : q = r := by omega
            have dr : decide ((q : Int) < (q : Int)) = false := decide_eq_false (by omega)
            have hqq := hid (hcs'.out k q hno.out)
            have e2 := Own.cellAt uS.out.o0 q _ (hat.out q hqn)
            rw [if_pos rfl] at e2
            have hdn := hid (filL_done (cls T (k + 1)) q n q hqq.out.symm)
            rw [hdn.out] at uS
            rw [if_pos hqq.out] at hcs
            have hne : ((q : Int) == (q : Int)) = true := by simp
            go_wp2
            go_roundw
            case rel => exact ⟨q + 1, by omega, by go_num, by rw [hcs.out]; go_num, uS.out⟩
            case measure => simp [intOf]; omega
      · obtain rfl : n = q := by omega
        have dq : decide ((n : Int) < (n : Int)) = false := decide_eq_false (by omega)
        have hS2 := zS.out
        rw [← hnn.out, filL_all, hnn.out] at hS2
        replace hS2 := hid hS2
        clear zS
        have hcn1 := hcb.out k
        have hcn2 := hcp.out k
        by_cases hcK : cnt1 T (k + 1) n = K
        · have hk0 : k ≠ 0 := fun e => by have := hK0.out e; omega
          have hKk := hK1.out hk0
          have hstab := hid (show Stable T k from by
            obtain ⟨k', rfl⟩ : ∃ k', k = k' + 1 := ⟨k - 1, by omega⟩
            apply Classical.byContradiction
            intro h
            have h1 := hst.out k' h
            have h2 : cnt1 T (k' + 2) n = K := hcK
            omega)
          have hf := hid (hfx.out k (by omega) hstab.out)
          have hf2 := hid (hcst.out k hstab.out)
          have hz : ((K : Int) == (K : Int)) = true := by simp
          subst hcK
          have hres := hid (show clsL T (k + 1) n = (List.range n).map (fix T) by rw [hf2.out, hf.out])
          generalize cnt1 T (k + 1) n = K at *
          clear hKk
          go_wp2
          go_ret
          exact ⟨_, rfl, by rw [← hres.out]; exact hS2.out.o0, hS2.out.bel⟩
        · have hz : (((cnt1 T (k + 1) n : Nat) : Int) == (K : Int)) = false := by simp; omega
          have hk1 : k + 1 ≤ cnt1 T (k + 1) n := by
            by_cases hk0 : k = 0
            · omega
            · have hKk := hK1.out hk0
              obtain ⟨k', rfl⟩ : ∃ k', k = k' + 1 := ⟨k - 1, by omega⟩
              by_cases hs : Stable T (k' + 1)
              · have h1 := hsc.out k' hs
                have h2 : cnt1 T (k' + 1 + 1) n ≠ K := hcK
                have h3 : cnt1 T (k' + 1 + 1) n = cnt1 T (k' + 1) n := h1
                omega
              · have h1 := hst.out k' hs
                have h3 : cnt1 T (k' + 1) n < cnt1 T (k' + 1 + 1) n := h1
                omega
          have hmm : n - (k + 1) < n - k := by omega
          replace hk1 := hid hk1
          generalize hKK : cnt1 T (k + 1) n = K2 at *
          replace hKK := hid hKK
          clear hcK
          go_wp2
          go_roundg (n - (k + 1))
          case measure => exact hmm
          case rel => exact ⟨k + 1, K2, rfl, hk1.out, fun h => absurd h (by omega), fun _ => hKK.out.symm, rfl, hS2.out.f1.drop⟩
end Go.Proofs.Ythmcdfjijkecfaa
