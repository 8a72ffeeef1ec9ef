/- What the proof of PeriodOfWord leans on, part 8 of 8. -/
import Derived.Test.YthempofohidlnaaZPeriodOfWordG
/- The reference's l01Own, l02Act, ImageOf, SectionOf. -/
namespace Go.Proofs.Ythempofohidlnaa
open Go.RowKit
set_option linter.unusedVariables false
set_option linter.unusedSimpArgs false
-- @LONG

set_option maxHeartbeats 1000000 in
set_option maxRecDepth 100000 in
theorem l01Own_any (w : World) (base : Nat) (v : Value) (l : List Int) (h : Own w base 2 v (ints l)) (hl : l.length ≤ 1000000) :
    Calls Try.prog 131 #[v] w fun e w' => ∃ v', e = .returned v' ∧ Own w' w.heap.size 2 v' (ints l) ∧ Below w.heap.size w w' := by
  have hil := ints_length l
  have hS := hid ((St.start w).newOwn [] 2 (by simp))
  have h' := hid (h.alloc (.cells #[] 2))
  clear h
  go_enter Try.func131, Try.ntmps131
  go_wp2_with (first
    | ((with_reducible refine gate (N := 5) rfl ?_); refine St.appS 22 2 (.int .i64 0) 8 Try.underlying22 info_i64 rfl (by omega) rfl _ _ rfl _ _ rfl hS.out _ _ _ _ rfl h'.out (ints_one l) (by rw [hil]; simp; omega) ?_; intro v' w2 hS'; replace hS := hid hS'; clear hS'))
  go_ret
  exact ⟨_, rfl, by have h := hS.out.o0; rw [List.nil_append] at h; exact h, hS.out.bel⟩
set_option maxHeartbeats 2000000 in
set_option maxRecDepth 100000 in
theorem l02Act_any (w : World) (m : Mach) (l s : Nat) (gd : Good m l s) (base : Nat) (v : Value) (gw : List Int) (hgw : Own w base 2 v (ints gw)) (hn : ∀ k ∈ gw, isNum s k) (hgl : gw.length ≤ 1000) (u : List Nat) (hu : ∀ x ∈ u, x < l) (hlen : u.length ≤ 1000) :
    Calls Try.prog 79 #[.agg (mcells m), .agg (mcells (inv m l s)), v, .string (wstr u)] w fun e w' => ∃ v', e = .returned (.tuple #[.string (wstr (imgW m l s gw u)), v']) ∧ Own w' w.heap.size 2 v' (ints (secW m l s gw u)) ∧ Below w.heap.size w w' := by
  have hsz := wstr_size u
  have hbyte := hid (fun k hk => wstr_byte u k hk (fun x hx => by have := hu x hx; have := gd.l3; omega))
  have hS := (((St.start w).newMB m 34).newMB (inv m l s) 34).newOwn [] 5 (by simp)
  simp only [heap_alloc_size, List.length_nil] at hS
  replace hS := hid hS
  have hown := hid (fun W (hW : Below w.heap.size w W) => l01Own_any W base v gw (hgw.below hW) (by omega))
  have hle := hid (fun W v (u' : List Int) (h1 : Own W 0 2 v (ints u')) (h2 : ∀ k ∈ u', isNum s k) (h3 : u'.length ≤ 1000) x (hx : x < l) => l02Led_any W m l s gd 0 v u' h1 h2 h3 x hx)
  have hnum := hid (fun k => secW_num gd (u.take k) gw hn (fun x hx => hu x (List.mem_of_mem_take hx)))
  have hsl := hid (fun k => secW_length (m := m) (l := l) (s := s) (u.take k) gw)
  have hil := hid (fun k (hk : k ≤ u.length) => (show (wb (imgW m l s gw (u.take k))).length = k by rw [wb_length, imgW_length, List.length_take]; omega))
  have hse := hid (fun k x => secW_snoc (m := m) (l := l) (s := s) (u.take k) x gw)
  have him := hid (fun k x => imgW_snoc (m := m) (l := l) (s := s) (u.take k) x gw)
  have hlt := hid (fun k x (hx : x < l) => atX_lt gd (secW m l s gw (u.take k)) x (hnum.out k) hx)
  have l3 := gd.l3
  replace hu := hid hu
  replace hn := hid hn
  have h0X := hid (show imgW m l s gw u = imgW m l s gw (u.take u.length) by rw [List.take_length])
  have h0S := hid (show secW m l s gw u = secW m l s gw (u.take u.length) by rw [List.take_length])
  rw [h0X.out, h0S.out]
  clear hgw h0X h0S
  replace gd := hid gd
  generalize hI : inv m l s = I at *
  replace hI := hid hI
  generalize hws : wstr u = ws at *
  replace hws := hid hws
  generalize hN : u.length = N at *
  replace hN := hid hN
  go_enter Try.func79, Try.ntmps79
  go_upto_region 3 with (first
    | (go_at_call 131; (with_reducible refine (hown.out _ hS.out.bel).mono ?_); rintro e w2 ⟨v2, rfl, hO, hb⟩; replace hS := hid (hS.out.callOwn hb hO).f1; clear hb hO hown))
  go_wp2
  go_loopw [2, 10, 11] (fun y o i wr => ∃ j : Nat, j ≤ N ∧ i = .int .i64 j ∧ St w.heap.size w [Asn.own w.heap.size 5 o (wb (imgW m l s gw (u.take j))), Asn.own w.heap.size 2 y (ints (secW m l s gw (u.take j))), Asn.mb 34 (w.heap.size + 1) I, Asn.mb 34 w.heap.size m] wr) (fun _ _ i _ => N - (intOf i).toNat)
  case atStart => exact ⟨0, Nat.zero_le _, rfl, hS.out⟩
  case round =>
    obtain ⟨j, hj, rfl, rS⟩ := hrel
    clear hS
    replace rS := hid rS
    by_cases hjN : j < N
    · have dc : decide ((j : Int) < (N : Int)) = true := decide_eq_true (by omega)
      have hx := hu.out _ (getD_mem u j (by rw [hN.out]; exact hjN))
      have hb := hbyte.out j (by omega)
      have htk := take_snoc' u j (by rw [hN.out]; exact hjN)
      have hsn := hid ((congrArg (fun t => secW m l s gw t) htk).trans (hse.out j (u.getD j 0)))
      have hin := hid ((congrArg (fun t => imgW m l s gw t) htk).trans (him.out j (u.getD j 0)))
      have hlk := hid (hil.out j hj)
      have hcl := hid (fun W v (h1 : Own W 0 2 v (ints (secW m l s gw (u.take j)))) => hle.out W v _ h1 (hnum.out j) (by rw [hsl.out j]; exact hgl) _ hx)
      have hlx := hlt.out j _ hx
      have e2 : ((u.getD j 0 : Nat) : Int) % 256 = (u.getD j 0 : Nat) := by omega
      have e4 : IntKind.u8.wrap ((u.getD j 0 : Nat) : Int) = (u.getD j 0 : Nat) := u8_in _ (by omega)
      clear htk
      generalize imgW m l s gw (u.take j) = im at *
      generalize secW m l s gw (u.take j) = se at *
      generalize u.getD j 0 = x at *
      have e1 : 48 + (x : Int) - 48 = x := by omega
      generalize hy : atX m l s se x = y at *
      replace hy := hid hy
      have e3 : (48 + (y : Int)) % 256 = 48 + y := by omega
      have j0 : (0 : Int) ≤ (j : Int) := Int.natCast_nonneg _
      have j1 : (j : Int) < (N : Int) := by omega
      go_upto_region 6 with (fail)
      replace rS := hid rS.out.drew
      refine wp_region_heldL (L := [(7, (fun w' : World => MB w' 34 w.heap.size m ∧ MB w' 34 (w.heap.size + 1) I))]) (by kernel_rfl) (HeldL.cons (fun _ => ⟨rS.out.m3, rS.out.m2⟩) HeldL.nil) (fun hHeld => ?_)
      generalize wr.drew = wa at *
      refine wpAnyL_takeP (i := 0) 7 [] (v := (.agg (mcells m))) (fun w' : World => MB w' 34 w.heap.size m ∧ MB w' 34 (w.heap.size + 1) I) rfl (by kernel_rfl) (by kernel_rfl) (by kernel_rfl) (by rfl) (by kernel_rfl) (by simp) (fun _ _ _ h => h) (Or.inl ⟨by rfl, ?_⟩) (by assumption) ?_
      · (intro W hW; exact exec_load _ rfl rfl (load_run hW.1))
      intro hHeld'
      clear hHeld; have hHeld := hHeld'; clear hHeld'
      try simp only [Act.put, List.getElem_toArray, List.getElem_cons_succ, List.getElem_cons_zero, List.setIfInBounds_toArray, List.set_cons_zero, List.set_cons_succ]
      refine wpAnyL_takeP (i := 1) 7 [] (v := (.agg (mcells I))) (fun w' : World => MB w' 34 w.heap.size m ∧ MB w' 34 (w.heap.size + 1) I) rfl (by kernel_rfl) (by kernel_rfl) (by kernel_rfl) (by rfl) (by kernel_rfl) (by simp) (fun _ _ _ h => h) (Or.inl ⟨by rfl, ?_⟩) (by assumption) ?_
      · (intro W hW; exact exec_load _ rfl rfl (load_run hW.2))
      intro hHeld'
      clear hHeld; have hHeld := hHeld'; clear hHeld'
      try simp only [Act.put, List.getElem_toArray, List.getElem_cons_succ, List.getElem_cons_zero, List.setIfInBounds_toArray, List.set_cons_zero, List.set_cons_succ]
      refine wpAnyL_take0 (i := 2) (v := ?_) rfl (by kernel_rfl) (by kernel_rfl) (by kernel_rfl) (by rfl) (fun _ _ _ h => h) (Or.inl ⟨by rfl, ?_⟩) (by assumption) ?_
      rotate_left
      · (intro W _; go_simp; (with_reducible rfl))
      intro hHeld'
      clear hHeld; have hHeld := hHeld'; clear hHeld'
      try simp only [Act.put, List.getElem_toArray, List.getElem_cons_succ, List.getElem_cons_zero, List.setIfInBounds_toArray, List.set_cons_zero, List.set_cons_succ]
      refine wpAnyL_take0 (i := 3) (v := ?_) rfl (by kernel_rfl) (by kernel_rfl) (by kernel_rfl) (by rfl) (fun _ _ _ h => h) (Or.inl ⟨by rfl, ?_⟩) (by assumption) ?_
      rotate_left
      · (intro W _; go_simp; (with_reducible rfl))
      intro hHeld'
      clear hHeld; have hHeld := hHeld'; clear hHeld'
      try simp only [Act.put, List.getElem_toArray, List.getElem_cons_succ, List.getElem_cons_zero, List.setIfInBounds_toArray, List.set_cons_zero, List.set_cons_succ]
      refine wpAnyL_take0 (i := 4) (v := ?_) rfl (by kernel_rfl) (by kernel_rfl) (by kernel_rfl) (by rfl) (fun _ _ _ h => h) (Or.inl ⟨by rfl, ?_⟩) (by assumption) ?_
      rotate_left
      · (intro W _; go_simp; (with_reducible rfl))
      intro hHeld'
      clear hHeld; have hHeld := hHeld'; clear hHeld'
      try simp only [Act.put, List.getElem_toArray, List.getElem_cons_succ, List.getElem_cons_zero, List.setIfInBounds_toArray, List.set_cons_zero, List.set_cons_succ]
      refine wpAnyL_take0 (i := 5) (v := ?_) rfl (by kernel_rfl) (by kernel_rfl) (by kernel_rfl) (by rfl) (fun _ _ _ h => h) (Or.inl ⟨by rfl, ?_⟩) (by assumption) ?_
      rotate_left
      · (intro W _; go_simp; (with_reducible rfl))
      intro hHeld'
      clear hHeld; have hHeld := hHeld'; clear hHeld'
      try simp only [Act.put, List.getElem_toArray, List.getElem_cons_succ, List.getElem_cons_zero, List.setIfInBounds_toArray, List.set_cons_zero, List.set_cons_succ]
      refine wpAnyL_take0 (i := 6) (v := ?_) rfl (by kernel_rfl) (by kernel_rfl) (by kernel_rfl) (by rfl) (fun _ _ _ h => h) (Or.inl ⟨by rfl, ?_⟩) (by assumption) ?_
      rotate_left
      · (intro W _; go_simp; (with_reducible rfl))
      intro hHeld'
      clear hHeld; have hHeld := hHeld'; clear hHeld'
      try simp only [Act.put, List.getElem_toArray, List.getElem_cons_succ, List.getElem_cons_zero, List.setIfInBounds_toArray, List.set_cons_zero, List.set_cons_succ]
      refine wpAnyL_ready (rs := [7]) (by kernel_rfl) (by simp) ?_
      refine AllReadyL.cons rfl (fun K hK => ?_) AllReadyL.nil
      go_simp
      (with_reducible refine (hcl.out _ _ (rS.out.o1.mono (Nat.zero_le _))).mono ?_)
      rintro e w3 ⟨v', rfl, hO, hb2⟩
      replace rS := hid (rS.out.callOwn hb2 hO)
      clear hb2 hO
      go_simp
      refine hK.out _ _ (HeldL.cons (fun h => absurd h (by decide +kernel)) HeldL.nil) (fun hHeld' => ?_)
      clear hK K hHeld; have hHeld := hHeld'; clear hHeld'
      try simp only [Act.put, List.getElem_toArray, List.getElem_cons_succ, List.getElem_cons_zero, List.setIfInBounds_toArray, List.set_cons_zero, List.set_cons_succ]
      refine wpAnyL_take0 (i := 8) (v := ?_) rfl (by kernel_rfl) (by kernel_rfl) (by kernel_rfl) (by rfl) (fun _ _ _ h => h) (Or.inl ⟨by rfl, ?_⟩) (by assumption) ?_
      rotate_left
      · (intro W _; go_simp; (with_reducible rfl))
      intro hHeld'
      clear hHeld; have hHeld := hHeld'; clear hHeld'
      try simp only [Act.put, List.getElem_toArray, List.getElem_cons_succ, List.getElem_cons_zero, List.setIfInBounds_toArray, List.set_cons_zero, List.set_cons_succ]
      refine wpAnyL_take0 (i := 9) (v := ?_) rfl (by kernel_rfl) (by kernel_rfl) (by kernel_rfl) (by rfl) (fun _ _ _ h => h) (Or.inl ⟨by rfl, ?_⟩) (by assumption) ?_
      rotate_left
      · (intro W _; go_simp; (with_reducible rfl))
      intro hHeld'
      clear hHeld; have hHeld := hHeld'; clear hHeld'
      try simp only [Act.put, List.getElem_toArray, List.getElem_cons_succ, List.getElem_cons_zero, List.setIfInBounds_toArray, List.set_cons_zero, List.set_cons_succ]
      refine wpAnyL_take0 (i := 10) (v := ?_) rfl (by kernel_rfl) (by kernel_rfl) (by kernel_rfl) (by rfl) (fun _ _ _ h => h) (Or.inl ⟨by rfl, ?_⟩) (by assumption) ?_
      rotate_left
      · (intro W _; go_simp; (with_reducible rfl))
      intro hHeld'
      clear hHeld; have hHeld := hHeld'; clear hHeld'
      try simp only [Act.put, List.getElem_toArray, List.getElem_cons_succ, List.getElem_cons_zero, List.setIfInBounds_toArray, List.set_cons_zero, List.set_cons_succ]
      refine wpAnyL_take0 (i := 11) (v := ?_) rfl (by kernel_rfl) (by kernel_rfl) (by kernel_rfl) (by rfl) (fun _ _ _ h => h) (Or.inl ⟨by rfl, ?_⟩) (by assumption) ?_
      rotate_left
      · (intro W _; go_simp; (with_reducible rfl))
      intro hHeld'
      clear hHeld; have hHeld := hHeld'; clear hHeld'
      try simp only [Act.put, List.getElem_toArray, List.getElem_cons_succ, List.getElem_cons_zero, List.setIfInBounds_toArray, List.set_cons_zero, List.set_cons_succ]
      refine wpAnyL_take0 (i := 12) (v := ?_) rfl (by kernel_rfl) (by kernel_rfl) (by kernel_rfl) (by rfl) (fun _ _ _ h => h) (Or.inl ⟨by rfl, ?_⟩) (by assumption) ?_
      rotate_left
      · (intro W _; go_simp; (with_reducible rfl))
      intro hHeld'
      clear hHeld; have hHeld := hHeld'; clear hHeld'
      try simp only [Act.put, List.getElem_toArray, List.getElem_cons_succ, List.getElem_cons_zero, List.setIfInBounds_toArray, List.set_cons_zero, List.set_cons_succ]
      refine wpAnyL_done (by kernel_rfl) ?_ _
      replace rS := hid rS.out.f1
      go_wp2_with (first
        | ((with_reducible refine gate (N := 38) rfl ?_); refine St.app 120 5 (.int .u8 0) 1 Try.underlying120 info_u8 rfl (by omega) rfl _ _ rfl _ _ rfl rS.out _ rfl rfl j hlk.out (by omega) ?_; intro gn cn w4 rS'; replace rS := hid rS'; clear rS'))
      rw [← wb_snoc, ← hin.out] at rS
      replace rS := hid rS.out.f2.drop
      go_roundw
      case rel => exact ⟨j + 1, by omega, by go_num, by rw [hsn.out]; exact rS.out⟩
      case measure => simp [intOf]; omega
    · obtain rfl : j = N := by omega
      have dc : decide ((j : Int) < (j : Int)) = false := decide_eq_false (by omega)
      have hconv := rS.out.o0.conv
      go_wp2
      go_ret2
      exact ⟨_, rfl, rS.out.o1, rS.out.bel⟩
end Go.Proofs.Ythempofohidlnaa

/- ImageOf and SectionOf: the reference's side. -/
namespace Go.Proofs.Ythempofohidlnaa
open Go.RowKit
set_option linter.unusedVariables false
set_option linter.unusedSimpArgs false
-- @LONG

set_option maxHeartbeats 2000000 in
set_option maxRecDepth 4000 in
theorem specImg_any (w : World) (m : Mach) (hkm : m.Ok) (b0 : Nat) (v : Value) (g : List Int) (hg : Own w b0 2 v (ints g)) (hl : g.length < 2000000) (ws : ByteArray) (hws : ws.size < 1000000000000) :
    Calls Try.prog 31 #[.agg (mcells m), v, .string ws] w fun e w' => e = .returned (.tuple #[.string (imgAns m g ws).1, .int .i64 (imgAns m g ws).2]) ∧ Below w.heap.size w w' := by
  have hS := hid ((St.arg w hg).newMB m 34)
  have hbo := hid (fun W (hr : Own W 0 2 v (ints g)) => l02Both_any W m hkm 0 v g hr hl ws hws)
  rcases gw_cases m g ws with h | ⟨l, s, gd, hgw, hw⟩ | ⟨l, s, gd, hgw, hw⟩
  · have hbad : ¬ IsGw m g := by
      rcases h with h | h
      · exact fun k => h k.1
      · exact h
    rw [imgAns_1 hbad]
    rw [codB_n hbad] at hbo
    clear h hbad
    replace hkm := hid hkm; replace hg := hid hg
    go_enter Try.func31, Try.ntmps31
    go_wp2_with (first
      | ((with_reducible refine gate (N := 11) rfl ?_); refine load_mach rfl _ rfl w.heap.size rfl m hS.out.m0 ?_)
      | (go_at_call 78; (with_reducible refine (hbo.out _ hS.out.o1).mono ?_); rintro e w1 ⟨rfl, hb⟩; replace hS := hid (hS.out.call hb); clear hbo; clear hb))
    go_ret2
    exact ⟨rfl, hS.out.bel⟩
  · rw [imgAns_w gd hw]
    rw [codB_w gd hw] at hbo
    clear hgw hw; replace gd := hid gd
    replace hkm := hid hkm; replace hg := hid hg
    go_enter Try.func31, Try.ntmps31
    go_wp2_with (first
      | ((with_reducible refine gate (N := 11) rfl ?_); refine load_mach rfl _ rfl w.heap.size rfl m hS.out.m0 ?_)
      | (go_at_call 78; (with_reducible refine (hbo.out _ hS.out.o1).mono ?_); rintro e w1 ⟨rfl, hb⟩; replace hS := hid (hS.out.call hb); clear hbo; clear hb))
    go_ret2
    exact ⟨rfl, hS.out.bel⟩
  · rw [imgAns_0 gd hgw hw]
    rw [codB_0 gd hgw hw] at hbo
    obtain ⟨hwe, hwl, hw40⟩ := lets_wstr ws hw
    obtain ⟨hgl, hgn⟩ := hgw.parts gd
    have hiv := hid (fun W => l01Inverse_any W m l s gd hkm)
    have hac := hid (fun W (hO : Own W 0 2 v (ints g)) => (by have h := l02Act_any W m l s gd 0 v g hO hgn (by omega) (lets ws) hwl (by omega); rw [← hwe] at h; exact h : Calls Try.prog 79 #[.agg (mcells m), .agg (mcells (inv m l s)), v, .string ws] W fun e w' => ∃ v', e = .returned (.tuple #[.string (wstr (imgW m l s g (lets ws))), v']) ∧ Own w' W.heap.size 2 v' (ints (secW m l s g (lets ws))) ∧ Below W.heap.size W w'))
    replace hkm := hid hkm; replace hg := hid hg; replace hgw := hid hgw; replace gd := hid gd; replace hwe := hid hwe
    generalize wstr (imgW m l s g (lets ws)) = ans at *
    generalize secW m l s g (lets ws) = se at *
    generalize inv m l s = I at *
    go_enter Try.func31, Try.ntmps31
    go_upto_region 4 with (first
      | ((with_reducible refine gate (N := 11) rfl ?_); refine load_mach rfl _ rfl w.heap.size rfl m hS.out.m0 ?_)
      | (go_at_call 78; (with_reducible refine (hbo.out _ hS.out.o1).mono ?_); rintro e w1 ⟨rfl, hb⟩; replace hS := hid (hS.out.call hb); clear hbo; clear hb))
    replace hS := hid hS.out.drew
    refine wp_region_heldL (L := [(5, (fun w' : World => MB w' 34 w.heap.size m))]) (by kernel_rfl) (HeldL.cons (fun _ => hS.out.m0) HeldL.nil) (fun hHeld => ?_)
    generalize w1.drew = wa at *
    refine wpAnyL_takeP (i := 0) 5 [] (v := (.agg (mcells m))) (fun w' : World => MB w' 34 w.heap.size m) rfl (by kernel_rfl) (by kernel_rfl) (by kernel_rfl) (by rfl) (by kernel_rfl) (by simp) (fun _ _ _ h => h) (Or.inl ⟨by rfl, ?_⟩) (by assumption) ?_
    · (intro W hW; exact exec_load _ rfl rfl (load_run hW))
    intro hHeld'
    clear hHeld; have hHeld := hHeld'; clear hHeld'
    try simp only [Act.put, List.getElem_toArray, List.getElem_cons_succ, List.getElem_cons_zero, List.setIfInBounds_toArray, List.set_cons_zero, List.set_cons_succ]
    refine wpAnyL_takeP (i := 1) 5 [2] (v := (.agg (mcells m))) (fun w' : World => MB w' 34 w.heap.size m) rfl (by kernel_rfl) (by kernel_rfl) (by kernel_rfl) (by rfl) (by kernel_rfl) (by simp) (fun _ _ _ h => h) (Or.inl ⟨by rfl, ?_⟩) (by assumption) ?_
    · (intro W hW; exact exec_load _ rfl rfl (load_run hW))
    intro hHeld'
    clear hHeld; have hHeld := hHeld'; clear hHeld'
    try simp only [Act.put, List.getElem_toArray, List.getElem_cons_succ, List.getElem_cons_zero, List.setIfInBounds_toArray, List.set_cons_zero, List.set_cons_succ]
    refine wpAnyL_take0 (i := 3) (v := ?_) rfl (by kernel_rfl) (by kernel_rfl) (by kernel_rfl) (by rfl) (fun _ _ _ h => h) (Or.inl ⟨by rfl, ?_⟩) (by assumption) ?_
    rotate_left
    · (intro W _; go_simp; (with_reducible rfl))
    intro hHeld'
    clear hHeld; have hHeld := hHeld'; clear hHeld'
    try simp only [Act.put, List.getElem_toArray, List.getElem_cons_succ, List.getElem_cons_zero, List.setIfInBounds_toArray, List.set_cons_zero, List.set_cons_succ]
    refine wpAnyL_take0 (i := 4) (v := ?_) rfl (by kernel_rfl) (by kernel_rfl) (by kernel_rfl) (by rfl) (fun _ _ _ h => h) (Or.inl ⟨by rfl, ?_⟩) (by assumption) ?_
    rotate_left
    · (intro W _; go_simp; (with_reducible rfl))
    intro hHeld'
    clear hHeld; have hHeld := hHeld'; clear hHeld'
    try simp only [Act.put, List.getElem_toArray, List.getElem_cons_succ, List.getElem_cons_zero, List.setIfInBounds_toArray, List.set_cons_zero, List.set_cons_succ]
    refine wpAnyL_ready (rs := [2]) (by kernel_rfl) (by simp) ?_
    refine AllReadyL.cons rfl (fun K hK => ?_) AllReadyL.nil
    go_simp
    (with_reducible refine (hiv.out _).mono ?_)
    rintro e w3 ⟨rfl, hb⟩
    replace hS := hid (hS.out.call hb)
    clear hb
    go_simp
    refine hK.out _ _ (HeldL.cons (fun _ => hS.out.m0) HeldL.nil) (fun hHeld' => ?_)
    clear hK K hHeld; have hHeld := hHeld'; clear hHeld'
    try simp only [Act.put, List.getElem_toArray, List.getElem_cons_succ, List.getElem_cons_zero, List.setIfInBounds_toArray, List.set_cons_zero, List.set_cons_succ]
    refine wpAnyL_ready (rs := [5]) (by kernel_rfl) (by simp) ?_
    refine AllReadyL.cons rfl (fun K hK => ?_) AllReadyL.nil
    go_simp
    (with_reducible refine (hac.out _ hS.out.o1).mono ?_)
    rintro e w4 ⟨v', rfl, hO, hb⟩
    replace hS := hid (hS.out.callOwn hb hO)
    clear hb hO
    go_simp
    refine hK.out _ _ (HeldL.cons (fun h => absurd h (by decide +kernel)) HeldL.nil) (fun hHeld' => ?_)
    clear hK K hHeld; have hHeld := hHeld'; clear hHeld'
    try simp only [Act.put, List.getElem_toArray, List.getElem_cons_succ, List.getElem_cons_zero, List.setIfInBounds_toArray, List.set_cons_zero, List.set_cons_succ]
    refine wpAnyL_take0 (i := 6) (v := ?_) rfl (by kernel_rfl) (by kernel_rfl) (by kernel_rfl) (by rfl) (fun _ _ _ h => h) (Or.inl ⟨by rfl, ?_⟩) (by assumption) ?_
    rotate_left
    · (intro W _; go_simp; (with_reducible rfl))
    intro hHeld'
    clear hHeld; have hHeld := hHeld'; clear hHeld'
    try simp only [Act.put, List.getElem_toArray, List.getElem_cons_succ, List.getElem_cons_zero, List.setIfInBounds_toArray, List.set_cons_zero, List.set_cons_succ]
    refine wpAnyL_take0 (i := 7) (v := ?_) rfl (by kernel_rfl) (by kernel_rfl) (by kernel_rfl) (by rfl) (fun _ _ _ h => h) (Or.inl ⟨by rfl, ?_⟩) (by assumption) ?_
    rotate_left
    · (intro W _; go_simp; (with_reducible rfl))
    intro hHeld'
    clear hHeld; have hHeld := hHeld'; clear hHeld'
    try simp only [Act.put, List.getElem_toArray, List.getElem_cons_succ, List.getElem_cons_zero, List.setIfInBounds_toArray, List.set_cons_zero, List.set_cons_succ]
    refine wpAnyL_take0 (i := 8) (v := ?_) rfl (by kernel_rfl) (by kernel_rfl) (by kernel_rfl) (by rfl) (fun _ _ _ h => h) (Or.inl ⟨by rfl, ?_⟩) (by assumption) ?_
    rotate_left
    · (intro W _; go_simp; (with_reducible rfl))
    intro hHeld'
    clear hHeld; have hHeld := hHeld'; clear hHeld'
    try simp only [Act.put, List.getElem_toArray, List.getElem_cons_succ, List.getElem_cons_zero, List.setIfInBounds_toArray, List.set_cons_zero, List.set_cons_succ]
    refine wpAnyL_take0 (i := 9) (v := ?_) rfl (by kernel_rfl) (by kernel_rfl) (by kernel_rfl) (by rfl) (fun _ _ _ h => h) (Or.inl ⟨by rfl, ?_⟩) (by assumption) ?_
    rotate_left
    · (intro W _; go_simp; (with_reducible rfl))
    intro hHeld'
    clear hHeld; have hHeld := hHeld'; clear hHeld'
    try simp only [Act.put, List.getElem_toArray, List.getElem_cons_succ, List.getElem_cons_zero, List.setIfInBounds_toArray, List.set_cons_zero, List.set_cons_succ]
    refine wpAnyL_take0 (i := 10) (v := ?_) rfl (by kernel_rfl) (by kernel_rfl) (by kernel_rfl) (by rfl) (fun _ _ _ h => h) (Or.inl ⟨by rfl, ?_⟩) (by assumption) ?_
    rotate_left
    · (intro W _; go_simp; (with_reducible rfl))
    intro hHeld'
    clear hHeld; have hHeld := hHeld'; clear hHeld'
    try simp only [Act.put, List.getElem_toArray, List.getElem_cons_succ, List.getElem_cons_zero, List.setIfInBounds_toArray, List.set_cons_zero, List.set_cons_succ]
    refine wpAnyL_done (by kernel_rfl) ?_ _
    go_wp2
    go_ret2
    exact ⟨rfl, hS.out.bel⟩
set_option maxHeartbeats 2000000 in
set_option maxRecDepth 4000 in
theorem specSec_any (w : World) (m : Mach) (hkm : m.Ok) (b0 : Nat) (v : Value) (g : List Int) (hg : Own w b0 2 v (ints g)) (hl : g.length < 2000000) (ws : ByteArray) (hws : ws.size < 1000000000000) :
    Calls Try.prog 33 #[.agg (mcells m), v, .string ws] w fun e w' => ∃ v', e = .returned (.tuple #[v', .int .i64 (secAns m g ws).2]) ∧ Own w' w.heap.size 2 v' (ints (secAns m g ws).1) ∧ Below w.heap.size w w' := by
  have hS := hid ((St.arg w hg).newMB m 34)
  have hbo := hid (fun W (hr : Own W 0 2 v (ints g)) => l02Both_any W m hkm 0 v g hr hl ws hws)
  rcases gw_cases m g ws with h | ⟨l, s, gd, hgw, hw⟩ | ⟨l, s, gd, hgw, hw⟩
  · have hbad : ¬ IsGw m g := by
      rcases h with h | h
      · exact fun k => h k.1
      · exact h
    rw [secAns_1 hbad]
    rw [codB_n hbad] at hbo
    clear h hbad
    replace hkm := hid hkm; replace hg := hid hg
    go_enter Try.func33, Try.ntmps33
    go_wp2_with (first
      | ((with_reducible refine gate (N := 11) rfl ?_); refine load_mach rfl _ rfl w.heap.size rfl m hS.out.m0 ?_)
      | (go_at_call 78; (with_reducible refine (hbo.out _ hS.out.o1).mono ?_); rintro e w1 ⟨rfl, hb⟩; replace hS := hid (hS.out.call hb); clear hbo; clear hb))
    go_ret2
    exact ⟨_, rfl, Own.nil _ _ _, hS.out.bel⟩
  · rw [secAns_w gd hw]
    rw [codB_w gd hw] at hbo
    clear hgw hw; replace gd := hid gd
    replace hkm := hid hkm; replace hg := hid hg
    go_enter Try.func33, Try.ntmps33
    go_wp2_with (first
      | ((with_reducible refine gate (N := 11) rfl ?_); refine load_mach rfl _ rfl w.heap.size rfl m hS.out.m0 ?_)
      | (go_at_call 78; (with_reducible refine (hbo.out _ hS.out.o1).mono ?_); rintro e w1 ⟨rfl, hb⟩; replace hS := hid (hS.out.call hb); clear hbo; clear hb))
    go_ret2
    exact ⟨_, rfl, Own.nil _ _ _, hS.out.bel⟩
  · rw [secAns_0 gd hgw hw]
    rw [codB_0 gd hgw hw] at hbo
    obtain ⟨hwe, hwl, hw40⟩ := lets_wstr ws hw
    obtain ⟨hgl, hgn⟩ := hgw.parts gd
    have hiv := hid (fun W => l01Inverse_any W m l s gd hkm)
    have hac := hid (fun W (hO : Own W 0 2 v (ints g)) => (by have h := l02Act_any W m l s gd 0 v g hO hgn (by omega) (lets ws) hwl (by omega); rw [← hwe] at h; exact h : Calls Try.prog 79 #[.agg (mcells m), .agg (mcells (inv m l s)), v, .string ws] W fun e w' => ∃ v', e = .returned (.tuple #[.string (wstr (imgW m l s g (lets ws))), v']) ∧ Own w' W.heap.size 2 v' (ints (secW m l s g (lets ws))) ∧ Below W.heap.size W w'))
    replace hkm := hid hkm; replace hg := hid hg; replace hgw := hid hgw; replace gd := hid gd; replace hwe := hid hwe
    generalize wstr (imgW m l s g (lets ws)) = ans at *
    generalize secW m l s g (lets ws) = se at *
    generalize inv m l s = I at *
    go_enter Try.func33, Try.ntmps33
    go_upto_region 4 with (first
      | ((with_reducible refine gate (N := 11) rfl ?_); refine load_mach rfl _ rfl w.heap.size rfl m hS.out.m0 ?_)
      | (go_at_call 78; (with_reducible refine (hbo.out _ hS.out.o1).mono ?_); rintro e w1 ⟨rfl, hb⟩; replace hS := hid (hS.out.call hb); clear hbo; clear hb))
    replace hS := hid hS.out.drew
    refine wp_region_heldL (L := [(5, (fun w' : World => MB w' 34 w.heap.size m))]) (by kernel_rfl) (HeldL.cons (fun _ => hS.out.m0) HeldL.nil) (fun hHeld => ?_)
    generalize w1.drew = wa at *
    refine wpAnyL_takeP (i := 0) 5 [] (v := (.agg (mcells m))) (fun w' : World => MB w' 34 w.heap.size m) rfl (by kernel_rfl) (by kernel_rfl) (by kernel_rfl) (by rfl) (by kernel_rfl) (by simp) (fun _ _ _ h => h) (Or.inl ⟨by rfl, ?_⟩) (by assumption) ?_
    · (intro W hW; exact exec_load _ rfl rfl (load_run hW))
    intro hHeld'
    clear hHeld; have hHeld := hHeld'; clear hHeld'
    try simp only [Act.put, List.getElem_toArray, List.getElem_cons_succ, List.getElem_cons_zero, List.setIfInBounds_toArray, List.set_cons_zero, List.set_cons_succ]
    refine wpAnyL_takeP (i := 1) 5 [2] (v := (.agg (mcells m))) (fun w' : World => MB w' 34 w.heap.size m) rfl (by kernel_rfl) (by kernel_rfl) (by kernel_rfl) (by rfl) (by kernel_rfl) (by simp) (fun _ _ _ h => h) (Or.inl ⟨by rfl, ?_⟩) (by assumption) ?_
    · (intro W hW; exact exec_load _ rfl rfl (load_run hW))
    intro hHeld'
    clear hHeld; have hHeld := hHeld'; clear hHeld'
    try simp only [Act.put, List.getElem_toArray, List.getElem_cons_succ, List.getElem_cons_zero, List.setIfInBounds_toArray, List.set_cons_zero, List.set_cons_succ]
    refine wpAnyL_take0 (i := 3) (v := ?_) rfl (by kernel_rfl) (by kernel_rfl) (by kernel_rfl) (by rfl) (fun _ _ _ h => h) (Or.inl ⟨by rfl, ?_⟩) (by assumption) ?_
    rotate_left
    · (intro W _; go_simp; (with_reducible rfl))
    intro hHeld'
    clear hHeld; have hHeld := hHeld'; clear hHeld'
    try simp only [Act.put, List.getElem_toArray, List.getElem_cons_succ, List.getElem_cons_zero, List.setIfInBounds_toArray, List.set_cons_zero, List.set_cons_succ]
    refine wpAnyL_take0 (i := 4) (v := ?_) rfl (by kernel_rfl) (by kernel_rfl) (by kernel_rfl) (by rfl) (fun _ _ _ h => h) (Or.inl ⟨by rfl, ?_⟩) (by assumption) ?_
    rotate_left
    · (intro W _; go_simp; (with_reducible rfl))
    intro hHeld'
    clear hHeld; have hHeld := hHeld'; clear hHeld'
    try simp only [Act.put, List.getElem_toArray, List.getElem_cons_succ, List.getElem_cons_zero, List.setIfInBounds_toArray, List.set_cons_zero, List.set_cons_succ]
    refine wpAnyL_ready (rs := [2]) (by kernel_rfl) (by simp) ?_
    refine AllReadyL.cons rfl (fun K hK => ?_) AllReadyL.nil
    go_simp
    (with_reducible refine (hiv.out _).mono ?_)
    rintro e w3 ⟨rfl, hb⟩
    replace hS := hid (hS.out.call hb)
    clear hb
    go_simp
    refine hK.out _ _ (HeldL.cons (fun _ => hS.out.m0) HeldL.nil) (fun hHeld' => ?_)
    clear hK K hHeld; have hHeld := hHeld'; clear hHeld'
    try simp only [Act.put, List.getElem_toArray, List.getElem_cons_succ, List.getElem_cons_zero, List.setIfInBounds_toArray, List.set_cons_zero, List.set_cons_succ]
    refine wpAnyL_ready (rs := [5]) (by kernel_rfl) (by simp) ?_
    refine AllReadyL.cons rfl (fun K hK => ?_) AllReadyL.nil
    go_simp
    (with_reducible refine (hac.out _ hS.out.o1).mono ?_)
    rintro e w4 ⟨v', rfl, hO, hb⟩
    replace hS := hid (hS.out.callOwn hb hO)
    clear hb hO
    go_simp
    refine hK.out _ _ (HeldL.cons (fun h => absurd h (by decide +kernel)) HeldL.nil) (fun hHeld' => ?_)
    clear hK K hHeld; have hHeld := hHeld'; clear hHeld'
    try simp only [Act.put, List.getElem_toArray, List.getElem_cons_succ, List.getElem_cons_zero, List.setIfInBounds_toArray, List.set_cons_zero, List.set_cons_succ]
    refine wpAnyL_take0 (i := 6) (v := ?_) rfl (by kernel_rfl) (by kernel_rfl) (by kernel_rfl) (by rfl) (fun _ _ _ h => h) (Or.inl ⟨by rfl, ?_⟩) (by assumption) ?_
    rotate_left
    · (intro W _; go_simp; (with_reducible rfl))
    intro hHeld'
    clear hHeld; have hHeld := hHeld'; clear hHeld'
    try simp only [Act.put, List.getElem_toArray, List.getElem_cons_succ, List.getElem_cons_zero, List.setIfInBounds_toArray, List.set_cons_zero, List.set_cons_succ]
    refine wpAnyL_take0 (i := 7) (v := ?_) rfl (by kernel_rfl) (by kernel_rfl) (by kernel_rfl) (by rfl) (fun _ _ _ h => h) (Or.inl ⟨by rfl, ?_⟩) (by assumption) ?_
    rotate_left
    · (intro W _; go_simp; (with_reducible rfl))
    intro hHeld'
    clear hHeld; have hHeld := hHeld'; clear hHeld'
    try simp only [Act.put, List.getElem_toArray, List.getElem_cons_succ, List.getElem_cons_zero, List.setIfInBounds_toArray, List.set_cons_zero, List.set_cons_succ]
    refine wpAnyL_take0 (i := 8) (v := ?_) rfl (by kernel_rfl) (by kernel_rfl) (by kernel_rfl) (by rfl) (fun _ _ _ h => h) (Or.inl ⟨by rfl, ?_⟩) (by assumption) ?_
    rotate_left
    · (intro W _; go_simp; (with_reducible rfl))
    intro hHeld'
    clear hHeld; have hHeld := hHeld'; clear hHeld'
    try simp only [Act.put, List.getElem_toArray, List.getElem_cons_succ, List.getElem_cons_zero, List.setIfInBounds_toArray, List.set_cons_zero, List.set_cons_succ]
    refine wpAnyL_take0 (i := 9) (v := ?_) rfl (by kernel_rfl) (by kernel_rfl) (by kernel_rfl) (by rfl) (fun _ _ _ h => h) (Or.inl ⟨by rfl, ?_⟩) (by assumption) ?_
    rotate_left
    · (intro W _; go_simp; (with_reducible rfl))
    intro hHeld'
    clear hHeld; have hHeld := hHeld'; clear hHeld'
    try simp only [Act.put, List.getElem_toArray, List.getElem_cons_succ, List.getElem_cons_zero, List.setIfInBounds_toArray, List.set_cons_zero, List.set_cons_succ]
    refine wpAnyL_take0 (i := 10) (v := ?_) rfl (by kernel_rfl) (by kernel_rfl) (by kernel_rfl) (by rfl) (fun _ _ _ h => h) (Or.inl ⟨by rfl, ?_⟩) (by assumption) ?_
    rotate_left
    · (intro W _; go_simp; (with_reducible rfl))
    intro hHeld'
    clear hHeld; have hHeld := hHeld'; clear hHeld'
    try simp only [Act.put, List.getElem_toArray, List.getElem_cons_succ, List.getElem_cons_zero, List.setIfInBounds_toArray, List.set_cons_zero, List.set_cons_succ]
    refine wpAnyL_done (by kernel_rfl) ?_ _
    go_wp2
    go_ret2
    exact ⟨_, rfl, hS.out.o0, hS.out.bel⟩
end Go.Proofs.Ythempofohidlnaa

/- How often a word has to be led until it comes back. -/
namespace Go.Proofs.Ythempofohidlnaa
open Go.RowKit
set_option linter.unusedVariables false
set_option linter.unusedSimpArgs false

section
variable {m : Mach} {l s : Nat}
theorem apO_inj (g : Good m l s) {k : Int} (h : isNum s k) {x y : Nat} (hx : x < l) (hy : y < l) (e : apO m l s k x = apO m l s k y) : x = y := by
  obtain ⟨q, hq, rfl | rfl⟩ := isNum_cases h
  · rw [apO_pos, apO_pos] at e
    rcases Nat.lt_trichotomy x y with h | h | h
    · exact absurd e (g.inj q hq x y h hy)
    · exact h
    · exact absurd e.symm (g.inj q hq y x h hx)
  · rw [apO_neg, apO_neg] at e
    rcases Nat.lt_trichotomy x y with h | h | h
    · exact absurd e ((inv_good g).inj q hq x y h hy)
    · exact h
    · exact absurd e.symm ((inv_good g).inj q hq y x h hx)
theorem atX_inj (g : Good m l s) : ∀ (u : List Int) (x y : Nat), (∀ k ∈ u, isNum s k) → x < l → y < l → atX m l s u x = atX m l s u y → x = y
  | [], _, _, _, _, _, e => e
  | k :: t, x, y, h, hx, hy, e => by
    have hk := h k List.mem_cons_self
    exact apO_inj g hk hx hy (atX_inj g t _ _ (fun j hj => h j (List.mem_cons_of_mem _ hj)) (apO_lt g hk hx) (apO_lt g hk hy) e)
theorem imgW_inj (gd : Good m l s) : ∀ (u v : List Nat) (g : List Int), (∀ k ∈ g, isNum s k) → (∀ x ∈ u, x < l) → (∀ x ∈ v, x < l) → imgW m l s g u = imgW m l s g v → u = v
  | [], [], _, _, _, _, _ => rfl
  | [], y :: v, g, _, _, _, e => by simp [imgW] at e
  | x :: u, [], g, _, _, _, e => by simp [imgW] at e
  | x :: u, y :: v, g, h, hu, hv, e => by
    have e' : atX m l s g x :: imgW m l s (atS m l s g x) u = atX m l s g y :: imgW m l s (atS m l s g y) v := e
    injection e' with e1 e2
    have hx := hu x List.mem_cons_self
    have hxy := atX_inj gd g x y h hx (hv y List.mem_cons_self) e1
    subst hxy
    rw [imgW_inj gd u v _ (atS_num gd g x h hx) (fun z hz => hu z (List.mem_cons_of_mem _ hz)) (fun z hz => hv z (List.mem_cons_of_mem _ hz)) e2]
end
/-- A word led again and again. -/
def itW (m : Mach) (l s : Nat) (g : List Int) (u : List Nat) : Nat → List Nat
  | 0 => u
  | k + 1 => imgW m l s g (itW m l s g u k)
section
variable {m : Mach} {l s : Nat} {g : List Int} {u : List Nat}
theorem itW_length (k : Nat) : (itW m l s g u k).length = u.length := by
  induction k with
  | zero => rfl
  | succ k ih => show (imgW m l s g _).length = _; rw [imgW_length, ih]
theorem itW_lt (gd : Good m l s) (hg : ∀ k ∈ g, isNum s k) (hu : ∀ x ∈ u, x < l) (k : Nat) : ∀ x ∈ itW m l s g u k, x < l := by
  induction k with
  | zero => exact hu
  | succ k ih => exact imgW_lt gd _ g hg ih
theorem itW_cancel (gd : Good m l s) (hg : ∀ k ∈ g, isNum s k) (hu : ∀ x ∈ u, x < l) : ∀ i d, itW m l s g u i = itW m l s g u (i + d) → u = itW m l s g u d
  | 0, d, e => by rw [Nat.zero_add] at e; exact e
  | i + 1, d, e => by
    rw [show i + 1 + d = (i + d) + 1 by omega] at e
    exact itW_cancel gd hg hu i d (imgW_inj gd _ _ g hg (itW_lt gd hg hu i) (itW_lt gd hg hu (i + d)) e)
theorem itW_back (gd : Good m l s) (hg : ∀ k ∈ g, isNum s k) (hu : ∀ x ∈ u, x < l) : ∃ d, d < pw l u.length ∧ itW m l s g u (d + 1) = u := by
  apply Classical.byContradiction
  intro hn
  have hinj : InjOn (fun i => num l (itW m l s g u i)) (pw l u.length + 1) := by
    intro i j hij hj e
    have hl : 0 < l := by have := gd.l2; omega
    have e2 : itW m l s g u i = itW m l s g u j := by
      have h1 := wrd_num l hl u.length _ (itW_length i) (itW_lt gd hg hu i)
      have h2 := wrd_num l hl u.length _ (itW_length j) (itW_lt gd hg hu j)
      rw [← h1, ← h2]
      exact congrArg _ e
    obtain ⟨d, rfl⟩ : ∃ d, j = i + (d + 1) := ⟨j - i - 1, by omega⟩
    exact hn ⟨d, by omega, (itW_cancel gd hg hu i (d + 1) e2).symm⟩
  have := inj_le (pw l u.length + 1) (pw l u.length) _ (fun i _ => num_lt l u.length _ (itW_length i) (itW_lt gd hg hu i)) hinj
  omega
end
/-- The period: the least number of times that leads a word back. -/
def per (m : Mach) (l s : Nat) (g : List Int) (u : List Nat) : Nat := fst (fun k => decide (itW m l s g u (k + 1) = u)) (pw l u.length) + 1
section
variable {m : Mach} {l s : Nat} {g : List Int} {u : List Nat}
theorem per_back (gd : Good m l s) (hg : ∀ k ∈ g, isNum s k) (hu : ∀ x ∈ u, x < l) : itW m l s g u (per m l s g u) = u ∧ per m l s g u ≤ pw l u.length := by
  obtain ⟨d, hd, he⟩ := itW_back gd hg hu
  have hle := fst_le (fun k => decide (itW m l s g u (k + 1) = u)) (pw l u.length)
  have hlt : fst (fun k => decide (itW m l s g u (k + 1) = u)) (pw l u.length) < pw l u.length := by
    apply Classical.byContradiction
    intro hn
    have h := fst_none (fun k => decide (itW m l s g u (k + 1) = u)) (pw l u.length) d (by omega)
    simp [he] at h
  exact ⟨by have h := fst_some _ _ hlt; unfold per; simpa using h, hlt⟩
theorem per_min {k : Nat} (h1 : 1 ≤ k) (h2 : k < per m l s g u) : itW m l s g u k ≠ u := by
  obtain ⟨j, rfl⟩ : ∃ j, k = j + 1 := ⟨k - 1, by omega⟩
  have h := fst_none (fun k => decide (itW m l s g u (k + 1) = u)) (pw l u.length) j (by unfold per at h2; omega)
  simpa using h
theorem per_pos : 1 ≤ per m l s g u := by unfold per; omega
end
theorem bytes_ne {a b : ByteArray} (h : a ≠ b) : (a.toList == b.toList) = false := by
  rw [← beq_toListBytes]
  have e : (a == b) = (a.data == b.data) := rfl
  rw [e, beq_eq_false_iff_ne]
  intro e2
  exact h (ByteArray.ext e2)
theorem bytes_eq {a b : ByteArray} (h : a = b) : (a.toList == b.toList) = true := by subst h; simp
theorem wstr_inj {u v : List Nat} (hu : ∀ x ∈ u, x < 200) (hv : ∀ x ∈ v, x < 200) (e : wstr u = wstr v) : u = v := by
  have hl : u.length = v.length := by rw [← wstr_size u, ← wstr_size v, e]
  apply List.ext_getElem hl
  intro i h1 h2
  have hb1 := wstr_byte u i (by rw [wstr_size]; exact h1) hu
  have hb2 := wstr_byte v i (by rw [wstr_size]; exact h2) hv
  have e3 : ((wstr u)[i]'(by rw [wstr_size]; exact h1)).toNat = ((wstr v)[i]'(by rw [wstr_size]; exact h2)).toNat := by simp only [e]
  rw [hb1, hb2, List.getD_eq_getElem?_getD, List.getD_eq_getElem?_getD, List.getElem?_eq_getElem h1, List.getElem?_eq_getElem h2] at e3
  simp at e3
  exact e3
open Classical in
/-- What PeriodOfWord answers. -/
noncomputable def perAns (m : Mach) (g : List Int) (ws : ByteArray) : Int × Int := if IsGw m g ∧ IsWd m.L ws then (if ws.size ≤ 5 then (((per m m.L.toNat m.S.toNat g (lets ws) : Nat) : Int), 0) else (0, 2)) else (0, 1)
section
variable {m : Mach} {l s : Nat} {g : List Int} {ws : ByteArray}
theorem perAns_1 (h : ¬ IsGw m g) : perAns m g ws = (0, 1) := by unfold perAns; rw [if_neg (fun k => h k.1)]
theorem perAns_w (gd : Good m l s) (h : ¬ IsWd l ws) : perAns m g ws = (0, 1) := by unfold perAns; rw [gd.L, if_neg (fun k => h k.2)]
theorem perAns_2 (gd : Good m l s) (h : IsGw m g) (hw : IsWd l ws) (h5 : ¬ ws.size ≤ 5) : perAns m g ws = (0, 2) := by unfold perAns; rw [gd.L, if_pos ⟨h, hw⟩, if_neg h5]
theorem perAns_0 (gd : Good m l s) (h : IsGw m g) (hw : IsWd l ws) (h5 : ws.size ≤ 5) : perAns m g ws = (((per m l s g (lets ws) : Nat) : Int), 0) := by unfold perAns; rw [gd.L, gd.S, if_pos ⟨h, hw⟩, if_pos h5]; rfl
end

set_option maxHeartbeats 4000000 in
set_option maxRecDepth 4000 in
theorem implPer_any (w : World) (m : Mach) (hkm : m.Ok) (b0 : Nat) (v : Value) (g : List Int) (hg : Own w b0 2 v (ints g)) (hl : g.length < 2000000) (ws : ByteArray) (hws : ws.size < 1000000000000) :
    Calls Try.prog 36 #[.agg (mcells m), v, .string ws] w fun e w' => e = .returned (.tuple #[.int .i64 (perAns m g ws).1, .int .i64 (perAns m g ws).2]) ∧ Below w.heap.size w w' := by
  obtain ⟨A0, cp0, rfl, _, _⟩ := hg.form
  rw [ints_length] at hg ⊢
  have hS := hid ((St.arg w hg).newMB m 34)
  have hown := hid (hS.out.newOwn [(Value.slice A0 g.length cp0)] 22 (by simp))
  simp only [heap_alloc_size, List.length_cons, List.length_nil, Nat.zero_add] at hown
  by_cases hbad : ¬ IsGw m g
  · rw [perAns_1 hbad]
    have hgo := hid (fun W b vv (hO : Own W b 22 vv [(Value.slice A0 g.length cp0)]) (hr : Own W b 2 (Value.slice A0 g.length cp0) (ints g)) => groupOf_n W m hkm b vv [g] (mat_one hO hr) (by simp) (by simp; omega) (.inr ⟨g, by simp, hbad⟩))
    replace hkm := hid hkm; replace hg := hid hg; replace hbad := hid hbad
    go_enter Try.func36, Try.ntmps36
    go_wp2_with (first
      | ((with_reducible refine gate (N := 14) rfl ?_); refine load_mach rfl _ rfl w.heap.size rfl m hS.out.m0 ?_)
      | (go_at_call 80; (with_reducible refine (hgo.out _ _ _ (hown.out.o0.mono (Nat.zero_le _)) hown.out.o2).mono ?_); rintro e w1 ⟨rfl, hb⟩; replace hS := hid (hown.out.call hb); clear hgo hown; clear hb))
    go_ret2
    exact ⟨rfl, hS.out.bel⟩
  · have hgw := Classical.not_not.1 hbad
    obtain ⟨l, s, gd⟩ := hgw.1.good
    have hgo := hid (fun W b vv (hO : Own W b 22 vv [(Value.slice A0 g.length cp0)]) (hr : Own W b 2 (Value.slice A0 g.length cp0) (ints g)) => groupOf_y W m hkm b vv [g] (mat_one hO hr) (by simp) (by simp; omega) l s gd (by simp; exact hgw))
    have hL := hid gd.L
    by_cases hw : IsWd l ws
    · have hwd := hid (fun W => isWord_any (l : Int) (by have := gd.l2; omega) (by have := gd.l3; omega) ws hws true ⟨fun _ => hw, fun _ => rfl⟩ W)
      by_cases h5 : ws.size ≤ 5
      · rw [perAns_0 gd hgw hw h5]
        have d5 : decide ((5 : Int) < (ws.size : Int)) = false := decide_eq_false (by omega)
        obtain ⟨hwe, hwl, hw40⟩ := lets_wstr ws hw
        obtain ⟨hgl, hgn⟩ := hgw.parts gd
        have hul : (lets ws).length ≤ 5 := by have h := wstr_size (lets ws); rw [← hwe] at h; omega
        have hpb := per_back gd hgn hwl
        have hbk := hid hpb.1
        have hpw : pw l (lets ws).length ≤ 1000 := by
          have h2 := gd.l2; have h3 := gd.l3
          have hl : l = 2 ∨ l = 3 := by omega
          have hn : (lets ws).length = 0 ∨ (lets ws).length = 1 ∨ (lets ws).length = 2 ∨ (lets ws).length = 3 ∨ (lets ws).length = 4 ∨ (lets ws).length = 5 := by omega
          rcases hl with rfl | rfl <;> rcases hn with h | h | h | h | h | h <;> rw [h] <;> decide
        have hmin := hid (fun k h1 h2 => per_min (m := m) (l := l) (s := s) (g := g) (u := lets ws) (k := k) h1 h2)
        have hpos := per_pos (m := m) (l := l) (s := s) (g := g) (u := lets ws)
        have hP1000 : per m l s g (lets ws) ≤ 1000 := by omega
        have hne := hid (fun k (h : itW m l s g (lets ws) k ≠ lets ws) => (show ((wstr (itW m l s g (lets ws) k)).toList == ws.toList) = false from bytes_ne fun e =>
          h (wstr_inj (fun x hx => by have := itW_lt gd hgn hwl k x hx; have := gd.l3; omega) (fun x hx => by have := hwl x hx; have := gd.l3; omega) (e.trans hwe))))
        have heq := hid (show ((wstr (itW m l s g (lets ws) (per m l s g (lets ws)))).toList == ws.toList) = true from bytes_eq (by rw [hpb.1]; exact hwe.symm))
        have hits := hid (fun k => (show (itW m l s g (lets ws) k).length ≤ 1000 by rw [itW_length]; omega))
        have hitl := hid (fun k => itW_lt gd hgn hwl k)
        have him := hid (fun k W G v1 v2 (hG : GM W G m l s v1 v2) (hO : Own W 0 2 (Value.slice A0 g.length cp0) (ints g)) => (by exact image_any W G m l s gd v1 v2 hG 0 (Value.slice A0 g.length cp0) g hO hgn (by omega) (itW m l s g (lets ws) k) (hitl.out k) (hits.out k) : Calls Try.prog 81 #[.pointer (some ⟨G, 0, none⟩), Value.slice A0 g.length cp0, .string (wstr (itW m l s g (lets ws) k))] W fun e w' => ∃ v', e = .returned (.tuple #[.string (wstr (itW m l s g (lets ws) (k + 1))), v']) ∧ Own w' 0 2 v' (ints (secW m l s g (itW m l s g (lets ws) k))) ∧ Below W.heap.size W w'))
        have h0 := hid (show wstr (itW m l s g (lets ws) 0) = ws from hwe.symm)
        replace hkm := hid hkm; replace hg := hid hg; replace hgw := hid hgw; replace gd := hid gd; replace hwe := hid hwe; replace hw := hid hw
        clear hbad hpb hpw hul
        generalize hF : (fun k => wstr (itW m l s g (lets ws) k)) = F at *
        have hFk := fun k => congrFun hF k
        have him2 := hid (fun k W G v1 v2 (hG : GM W G m l s v1 v2) (hO : Own W 0 2 (Value.slice A0 g.length cp0) (ints g)) => (by have h := him.out k W G v1 v2 hG hO; rw [show wstr (itW m l s g (lets ws) k) = F k from hFk k, show wstr (itW m l s g (lets ws) (k + 1)) = F (k + 1) from hFk (k + 1)] at h; exact h : Calls Try.prog 81 #[.pointer (some ⟨G, 0, none⟩), Value.slice A0 g.length cp0, .string (F k)] W fun e w' => ∃ v', e = .returned (.tuple #[.string (F (k + 1)), v']) ∧ Own w' 0 2 v' (ints (secW m l s g (itW m l s g (lets ws) k))) ∧ Below W.heap.size W w'))
        have hne2 := hid (fun k (h1 : 1 ≤ k) (h2 : k < per m l s g (lets ws)) => (show ((F k).toList == ws.toList) = false from by rw [← hFk k]; exact hne.out k (hmin.out k h1 h2)))
        have heq2 := hid (show ((F (per m l s g (lets ws))).toList == ws.toList) = true from by rw [← hFk]; exact heq.out)
        have h02 := hid (show F 0 = ws from by rw [← hFk]; exact h0.out)
        clear hF hFk him hne heq h0 hits hitl hmin hbk
        generalize per m l s g (lets ws) = P at *
        have him1 := hid (fun W G v1 v2 hG hO => (by have h := him2.out 0 W G v1 v2 hG hO; rw [h02.out] at h; exact h : Calls Try.prog 81 #[.pointer (some ⟨G, 0, none⟩), Value.slice A0 g.length cp0, .string ws] W fun e w' => ∃ v', e = .returned (.tuple #[.string (F (0 + 1)), v']) ∧ Own w' 0 2 v' (ints (secW m l s g (itW m l s g (lets ws) 0))) ∧ Below W.heap.size W w'))
        go_enter Try.func36, Try.ntmps36
        go_wp2_with (first
          | ((with_reducible refine gate (N := 14) rfl ?_); refine load_mach rfl _ rfl w.heap.size rfl m hS.out.m0 ?_)
          | (go_at_call 80; (with_reducible refine (hgo.out _ _ _ (hown.out.o0.mono (Nat.zero_le _)) hown.out.o2).mono ?_); rintro e w1 ⟨G, v1, v2, rfl, hle, hGB, hb⟩; have hGM := hid hGB.gm; replace hS := hid (hown.out.call hb); have cL := hS.out.m1.cL; rw [hL.out] at cL; clear hgo hb hGB hle hown)
          | (go_at_call 53; (with_reducible refine (hwd.out _).mono ?_); rintro e w' ⟨rfl, rfl⟩)
          | (go_at_call 81; (with_reducible refine (him1.out _ _ _ _ hGM.out hS.out.o2).mono ?_); rintro e w2 ⟨v', rfl, hO, hb⟩; have hGM2 := hid (hGM.out.below hb); replace hS := hid (hS.out.call hb); clear hb hO hGM))
        clear cL
        go_loopw [10, 12] (fun nw kk wr => ∃ k : Nat, 1 ≤ k ∧ k ≤ P ∧ nw = .string (F k) ∧ kk = .int .i64 k ∧ GM wr G m l s v1 v2 ∧ Own wr 0 2 (Value.slice A0 g.length cp0) (ints g) ∧ Below w.heap.size w wr) (fun _ kk _ => P - (intOf kk).toNat)
        case atStart => exact ⟨1, Nat.le_refl _, hpos, rfl, rfl, hGM2.out, hS.out.o2, hS.out.bel⟩
        case round =>
          obtain ⟨k, hk1, hkP, rfl, rfl, rG, rO, rB⟩ := hrel
          clear hS hGM2
          replace rG := hid rG; replace rO := hid rO; replace rB := hid rB
          by_cases hkp : k < P
          · have dn := hne2.out k hk1 hkp
            have hil := hid (him2.out k)
            go_wp2_with (first
              | (go_at_call 81; (with_reducible refine (hil.out _ _ _ _ rG.out rO.out).mono ?_); rintro e w2 ⟨v', rfl, hO, hb⟩; replace rG := hid (rG.out.below hb); replace rO := hid (rO.out.below hb); replace rB := hid (rB.out.trans (hb.mono rB.out.size)); clear hb hO))
            go_roundw
            case rel => exact ⟨k + 1, by omega, hkp, rfl, by go_num, rG.out, rO.out, rB.out⟩
            case measure => simp [intOf]; omega
          · obtain rfl : k = P := by omega
            have dn := heq2.out
            go_wp2
            go_ret2
            exact ⟨rfl, rB.out⟩
      · rw [perAns_2 gd hgw hw h5]
        have d5 : decide ((5 : Int) < (ws.size : Int)) = true := decide_eq_true (by omega)
        replace hkm := hid hkm; replace hg := hid hg; replace hgw := hid hgw; replace gd := hid gd; replace hw := hid hw
        clear hbad
        go_enter Try.func36, Try.ntmps36
        go_wp2_with (first
          | ((with_reducible refine gate (N := 14) rfl ?_); refine load_mach rfl _ rfl w.heap.size rfl m hS.out.m0 ?_)
          | (go_at_call 80; (with_reducible refine (hgo.out _ _ _ (hown.out.o0.mono (Nat.zero_le _)) hown.out.o2).mono ?_); rintro e w1 ⟨G, v1, v2, rfl, hle, hGB, hb⟩; replace hS := hid (hown.out.call hb); have cL := hS.out.m1.cL; rw [hL.out] at cL; clear hgo hb hGB hle hown)
          | (go_at_call 53; (with_reducible refine (hwd.out _).mono ?_); rintro e w' ⟨rfl, rfl⟩))
        go_ret2
        exact ⟨rfl, hS.out.bel⟩
    · rw [perAns_w gd hw]
      have hwd := hid (fun W => isWord_any (l : Int) (by have := gd.l2; omega) (by have := gd.l3; omega) ws hws false ⟨fun h => (by cases h), fun h => absurd h hw⟩ W)
      replace hkm := hid hkm; replace hg := hid hg; replace hgw := hid hgw; replace gd := hid gd
      clear hbad
      go_enter Try.func36, Try.ntmps36
      go_wp2_with (first
        | ((with_reducible refine gate (N := 14) rfl ?_); refine load_mach rfl _ rfl w.heap.size rfl m hS.out.m0 ?_)
        | (go_at_call 80; (with_reducible refine (hgo.out _ _ _ (hown.out.o0.mono (Nat.zero_le _)) hown.out.o2).mono ?_); rintro e w1 ⟨G, v1, v2, rfl, hle, hGB, hb⟩; replace hS := hid (hown.out.call hb); have cL := hS.out.m1.cL; rw [hL.out] at cL; clear hgo hb hGB hle hown)
        | (go_at_call 53; (with_reducible refine (hwd.out _).mono ?_); rintro e w' ⟨rfl, rfl⟩))
      go_ret2
      exact ⟨rfl, hS.out.bel⟩
end Go.Proofs.Ythempofohidlnaa

/- ImageOf: the law. -/
namespace Go.Proofs.Ythempofohidlnaa
open Go.RowKit
set_option linter.unusedVariables false
set_option linter.unusedSimpArgs false

set_option maxHeartbeats 4000000 in
set_option maxRecDepth 100000 in
theorem imageOf_law (w : World) (m : Mach) (hkm : m.Ok) (v : Value) (l : List Int) (hl : ArgI w v l) (ws : ByteArray) (hws : ws.size ≤ maxLen) :
    Calls Try.prog 8 #[.agg (mcells m), v, .string ws] w fun e w' => e = .returned (.bool true) ∧ Below w.heap.size w w' := by
  have hS := hid ((St.start w).newMB m 32)
  have hl' := hid hl
  obtain ⟨A, c, rfl, _⟩ := hl
  replace hws := hid hws
  by_cases h1 : l.length ≤ 1048576
  · have d1 : decide ((1048576 : Int) < (l.length : Int)) = false := decide_eq_false (by omega)
    by_cases h2 : ws.size ≤ 1048576
    · have d2 : decide ((1048576 : Int) < (ws.size : Int)) = false := decide_eq_false (by omega)
      have hti := hid (fun W (hW : Below w.heap.size w W) => toInt64S_any W _ l (hl'.out.below hW) (by omega))
      have hs := hid (fun W b vq (hO : Own W b 2 vq (ints l)) => specImg_any W m hkm b vq l hO (by omega) ws (by omega))
      have hp := hid (fun W b vq (hO : Own W b 2 vq (ints l)) => implImg_any W m hkm b vq l hO (by omega) ws (by omega))
      have heq := hid (fun W b1 b2 v1 v2 (hO1 : Own W b1 2 v1 (ints l)) (hO2 : Own W b2 2 v2 (ints l)) => eqInt64SL_any W b1 b2 v1 v2 l hO1 hO2 (by omega))
      have hcc : ((imgAns m l ws).2 != (imgAns m l ws).2) = false := by simp
      generalize (imgAns m l ws).1 = r at *
      generalize (imgAns m l ws).2 = cd at *
      replace hkm := hid hkm
      generalize l.length = n at *
      go_enter Try.func8, Try.ntmps8
      go_wp2_with (first
        | ((with_reducible refine gate (N := 19) rfl ?_); refine load_lmach rfl _ rfl w.heap.size rfl m (by first | exact hS.out.m0 | exact hS.out.m1 | exact hS.out.m2) ?_)
        | ((with_reducible refine gate (N := 30) rfl ?_); refine load_lmach rfl _ rfl w.heap.size rfl m (by first | exact hS.out.m0 | exact hS.out.m1 | exact hS.out.m2) ?_)
        | (go_at_call 22; (with_reducible refine (toMachine_any m hkm.out _).mono ?_); rintro e w1 ⟨rfl, hb⟩; replace hS := hid (hS.out.call hb); clear hb)
        | (go_at_call 16; (with_reducible refine (hti.out _ hS.out.bel).mono ?_); rintro e w2 ⟨vq, rfl, hO, hb⟩; replace hS := hid (hS.out.callOwn hb hO); clear hb hO)
        | (go_at_call 31; (with_reducible refine (hs.out _ _ _ hS.out.o0).mono ?_); rintro e w3 ⟨rfl, hb⟩; replace hS := hid (hS.out.call hb); clear hb)
        | (go_at_call 32; (with_reducible refine (hp.out _ _ _ hS.out.o0).mono ?_); rintro e w4 ⟨rfl, hb⟩; replace hS := hid (hS.out.call hb); clear hb)
        | (go_at_call 18; (with_reducible refine (heq.out _ _ _ _ _ hS.out.o1 hS.out.o0).mono ?_); rintro e w5 ⟨rfl, hb⟩; replace hS := hid (hS.out.call hb); clear hb))
      go_ret
      exact ⟨rfl, hS.out.bel⟩
    · have d2 : decide ((1048576 : Int) < (ws.size : Int)) = true := decide_eq_true (by omega)
      generalize l.length = n at *
      go_enter Try.func8, Try.ntmps8
      go_wp2
      go_ret
      exact ⟨rfl, hS.out.bel⟩
  · have d1 : decide ((1048576 : Int) < (l.length : Int)) = true := decide_eq_true (by omega)
    generalize l.length = n at *
    go_enter Try.func8, Try.ntmps8
    go_wp2
    go_ret
    exact ⟨rfl, hS.out.bel⟩
end Go.Proofs.Ythempofohidlnaa

/- PeriodOfWord: the reference's side, and the law. -/
namespace Go.Proofs.Ythempofohidlnaa
open Go.RowKit
set_option linter.unusedVariables false
set_option linter.unusedSimpArgs false

set_option maxHeartbeats 4000000 in
set_option maxRecDepth 4000 in
theorem specPer_any (w : World) (m : Mach) (hkm : m.Ok) (b0 : Nat) (v : Value) (g : List Int) (hg : Own w b0 2 v (ints g)) (hl : g.length < 2000000) (ws : ByteArray) (hws : ws.size < 1000000000000) :
    Calls Try.prog 35 #[.agg (mcells m), v, .string ws] w fun e w' => e = .returned (.tuple #[.int .i64 (perAns m g ws).1, .int .i64 (perAns m g ws).2]) ∧ Below w.heap.size w w' := by
  have hz := zero_mach
  have hS := hid ((St.arg w hg).newMB m 34)
  have hbo := hid (fun W (hr : Own W 0 2 v (ints g)) => l02Both_any W m hkm 0 v g hr hl ws hws)
  rcases gw_cases m g ws with h | ⟨l, s, gd, hgw, hw⟩ | ⟨l, s, gd, hgw, hw⟩
  · have hbad : ¬ IsGw m g := by
      rcases h with h | h
      · exact fun k => h k.1
      · exact h
    rw [perAns_1 hbad]
    rw [codB_n hbad] at hbo
    clear h hbad
    replace hkm := hid hkm; replace hg := hid hg
    go_enter Try.func35, Try.ntmps35
    go_wp2_with (first
      | ((with_reducible refine gate (N := 15) rfl ?_); refine load_mach rfl _ rfl w.heap.size rfl m hS.out.m0 ?_)
      | (go_at_call 78; (with_reducible refine (hbo.out _ hS.out.o1).mono ?_); rintro e w1 ⟨rfl, hb⟩; replace hS := hid (hS.out.call hb); clear hbo; clear hb))
    go_ret2
    exact ⟨rfl, hS.out.bel⟩
  · rw [perAns_w gd hw]
    rw [codB_w gd hw] at hbo
    clear hgw hw; replace gd := hid gd
    replace hkm := hid hkm; replace hg := hid hg
    go_enter Try.func35, Try.ntmps35
    go_wp2_with (first
      | ((with_reducible refine gate (N := 15) rfl ?_); refine load_mach rfl _ rfl w.heap.size rfl m hS.out.m0 ?_)
      | (go_at_call 78; (with_reducible refine (hbo.out _ hS.out.o1).mono ?_); rintro e w1 ⟨rfl, hb⟩; replace hS := hid (hS.out.call hb); clear hbo; clear hb))
    go_ret2
    exact ⟨rfl, hS.out.bel⟩
  · rw [codB_0 gd hgw hw] at hbo
    by_cases h5 : ws.size ≤ 5
    · rw [perAns_0 gd hgw hw h5]
      have d5 : decide ((5 : Int) < (ws.size : Int)) = false := decide_eq_false (by omega)
      obtain ⟨hwe, hwl, hw40⟩ := lets_wstr ws hw
      obtain ⟨hgl, hgn⟩ := hgw.parts gd
      have hul : (lets ws).length ≤ 5 := by have h := wstr_size (lets ws); rw [← hwe] at h; omega
      have hpb := per_back gd hgn hwl
      have hbk := hid hpb.1
      have hpw : pw l (lets ws).length ≤ 1000 := by
        have h2 := gd.l2; have h3 := gd.l3
        have hl : l = 2 ∨ l = 3 := by omega
        have hn : (lets ws).length = 0 ∨ (lets ws).length = 1 ∨ (lets ws).length = 2 ∨ (lets ws).length = 3 ∨ (lets ws).length = 4 ∨ (lets ws).length = 5 := by omega
        rcases hl with rfl | rfl <;> rcases hn with h | h | h | h | h | h <;> rw [h] <;> decide
      have hmin := hid (fun k h1 h2 => per_min (m := m) (l := l) (s := s) (g := g) (u := lets ws) (k := k) h1 h2)
      have hpos := per_pos (m := m) (l := l) (s := s) (g := g) (u := lets ws)
      have hP1000 : per m l s g (lets ws) ≤ 1000 := by omega
      have hne := hid (fun k (h : itW m l s g (lets ws) k ≠ lets ws) => (show ((wstr (itW m l s g (lets ws) k)).toList == ws.toList) = false from bytes_ne fun e =>
        h (wstr_inj (fun x hx => by have := itW_lt gd hgn hwl k x hx; have := gd.l3; omega) (fun x hx => by have := hwl x hx; have := gd.l3; omega) (e.trans hwe))))
      have heq := hid (show ((wstr (itW m l s g (lets ws) (per m l s g (lets ws)))).toList == ws.toList) = true from bytes_eq (by rw [hpb.1]; exact hwe.symm))
      have hits := hid (fun k => (show (itW m l s g (lets ws) k).length ≤ 1000 by rw [itW_length]; omega))
      have hitl := hid (fun k => itW_lt gd hgn hwl k)
      have hiv := hid (fun W => l01Inverse_any W m l s gd hkm)
      have him := hid (fun k W (hO : Own W 0 2 v (ints g)) => (by exact l02Act_any W m l s gd 0 v g hO hgn (by omega) (itW m l s g (lets ws) k) (hitl.out k) (hits.out k) : Calls Try.prog 79 #[.agg (mcells m), .agg (mcells (inv m l s)), v, .string (wstr (itW m l s g (lets ws) k))] W fun e w' => ∃ v', e = .returned (.tuple #[.string (wstr (itW m l s g (lets ws) (k + 1))), v']) ∧ Own w' W.heap.size 2 v' (ints (secW m l s g (itW m l s g (lets ws) k))) ∧ Below W.heap.size W w'))
      have h0 := hid (show wstr (itW m l s g (lets ws) 0) = ws from hwe.symm)
      have hz2 := hid (fun L W (h : St w.heap.size w L W) => h.newMB ⟨0, 0, fun _ => 0, fun _ => 0⟩ 34)
      replace hkm := hid hkm; replace hg := hid hg; replace hgw := hid hgw; replace gd := hid gd; replace hwe := hid hwe; replace hw := hid hw
      clear hpb hpw hul
      generalize hF : (fun k => wstr (itW m l s g (lets ws) k)) = F at *
      have hFk := fun k => congrFun hF k
      have him2 := hid (fun k W (hO : Own W 0 2 v (ints g)) => (by have h := him.out k W hO; rw [show wstr (itW m l s g (lets ws) k) = F k from hFk k, show wstr (itW m l s g (lets ws) (k + 1)) = F (k + 1) from hFk (k + 1)] at h; exact h : Calls Try.prog 79 #[.agg (mcells m), .agg (mcells (inv m l s)), v, .string (F k)] W fun e w' => ∃ v', e = .returned (.tuple #[.string (F (k + 1)), v']) ∧ Own w' W.heap.size 2 v' (ints (secW m l s g (itW m l s g (lets ws) k))) ∧ Below W.heap.size W w'))
      have hne2 := hid (fun k (h1 : 1 ≤ k) (h2 : k < per m l s g (lets ws)) => (show ((F k).toList == ws.toList) = false from by rw [← hFk k]; exact hne.out k (hmin.out k h1 h2)))
      have heq2 := hid (show ((F (per m l s g (lets ws))).toList == ws.toList) = true from by rw [← hFk]; exact heq.out)
      have h02 := hid (show F 0 = ws from by rw [← hFk]; exact h0.out)
      clear hF hFk him hne heq h0 hits hitl hmin hbk
      generalize per m l s g (lets ws) = P at *
      have him1 := hid (fun W hO => (by have h := him2.out 0 W hO; rw [h02.out] at h; exact h : Calls Try.prog 79 #[.agg (mcells m), .agg (mcells (inv m l s)), v, .string ws] W fun e w' => ∃ v', e = .returned (.tuple #[.string (F (0 + 1)), v']) ∧ Own w' W.heap.size 2 v' (ints (secW m l s g (itW m l s g (lets ws) 0))) ∧ Below W.heap.size W w'))
      generalize inv m l s = I at *
      generalize mcells ⟨0, 0, fun _ => 0, fun _ => 0⟩ = zs at *
      go_enter Try.func35, Try.ntmps35
      go_upto_region 6 with (first
        | ((with_reducible refine gate (N := 15) rfl ?_); refine load_mach rfl _ rfl w.heap.size rfl m hS.out.m0 ?_)
        | (go_at_call 78; (with_reducible refine (hbo.out _ hS.out.o1).mono ?_); rintro e w1 ⟨rfl, hb⟩; replace hS := hid (hS.out.call hb); clear hbo; clear hb)
        | ((with_reducible refine gate (N := 24) rfl ?_); refine load_mach rfl _ rfl w.heap.size rfl m hS.out.m0 ?_)
        | (go_at_call 72; (with_reducible refine (hiv.out _).mono ?_); rintro e w2 ⟨rfl, hb⟩; have hle2 := hid (hS.out.call hb).le; replace hS := hid (hz2.out _ _ (hS.out.call hb)); clear hiv; clear hb)
        | ((with_reducible refine gateOp (op := .store 34 (.tmp 8) (.tmp 25)) rfl ?_); refine store_mach rfl _ _ rfl w2.heap.size rfl I rfl 34 _ hS.out.m0 ?_; intro W2 p3 ho hsz hbl; replace hS := hid (hS.out.setM hle2.out p3 ho hbl); clear p3 ho hsz hbl))
      generalize w2.heap.size = b8 at *
      go_wp2_with (first
        | ((with_reducible refine gate (N := 27) rfl ?_); refine load_mach rfl _ rfl w.heap.size rfl m hS.out.m1 ?_)
        | ((with_reducible refine gate (N := 28) rfl ?_); refine load_mach rfl _ rfl b8 rfl I hS.out.m0 ?_)
        | (go_at_call 79; (with_reducible refine (him1.out _ hS.out.o2).mono ?_); rintro e w3 ⟨v', rfl, hO, hb⟩; replace hS := hid (hS.out.call hb); clear hb hO))
      go_loopw [9, 10] (fun kk nw wr => ∃ k : Nat, 1 ≤ k ∧ k ≤ P ∧ nw = .string (F k) ∧ kk = .int .i64 k ∧ St w.heap.size w [Asn.mb 34 b8 I, Asn.mb 34 w.heap.size m, Asn.own 0 2 v (ints g)] wr) (fun kk _ _ => P - (intOf kk).toNat)
      case atStart => exact ⟨1, Nat.le_refl _, hpos, rfl, rfl, hS.out⟩
      case round =>
        obtain ⟨k, hk1, hkP, rfl, rfl, rS⟩ := hrel
        clear hS
        replace rS := hid rS
        by_cases hkp : k < P
        · have dn := hne2.out k hk1 hkp
          have hil := hid (him2.out k)
          go_wp2_with (first
            | ((with_reducible refine gate (N := 38) rfl ?_); refine load_mach rfl _ rfl w.heap.size rfl m rS.out.m1 ?_)
            | ((with_reducible refine gate (N := 39) rfl ?_); refine load_mach rfl _ rfl b8 rfl I rS.out.m0 ?_)
            | (go_at_call 79; (with_reducible refine (hil.out _ rS.out.o2).mono ?_); rintro e w3 ⟨v', rfl, hO, hb⟩; replace rS := hid (rS.out.call hb); clear hb hO))
          go_roundw
          case rel => exact ⟨k + 1, by omega, hkp, rfl, by go_num, rS.out⟩
          case measure => simp [intOf]; omega
        · obtain rfl : k = P := by omega
          have dn := heq2.out
          go_wp2
          go_ret2
          exact ⟨rfl, rS.out.bel⟩
    · rw [perAns_2 gd hgw hw h5]
      have d5 : decide ((5 : Int) < (ws.size : Int)) = true := decide_eq_true (by omega)
      replace gd := hid gd; replace hgw := hid hgw; replace hw := hid hw
      replace hkm := hid hkm; replace hg := hid hg
      go_enter Try.func35, Try.ntmps35
      go_wp2_with (first
        | ((with_reducible refine gate (N := 15) rfl ?_); refine load_mach rfl _ rfl w.heap.size rfl m hS.out.m0 ?_)
        | (go_at_call 78; (with_reducible refine (hbo.out _ hS.out.o1).mono ?_); rintro e w1 ⟨rfl, hb⟩; replace hS := hid (hS.out.call hb); clear hbo; clear hb))
      go_ret2
      exact ⟨rfl, hS.out.bel⟩
set_option maxHeartbeats 4000000 in
set_option maxRecDepth 100000 in
theorem periodOfWord_law (w : World) (m : Mach) (hkm : m.Ok) (v : Value) (l : List Int) (hl : ArgI w v l) (ws : ByteArray) (hws : ws.size ≤ maxLen) :
    Calls Try.prog 10 #[.agg (mcells m), v, .string ws] w fun e w' => e = .returned (.bool true) ∧ Below w.heap.size w w' := by
  have hS := hid ((St.start w).newMB m 32)
  have hl' := hid hl
  obtain ⟨A, c, rfl, _⟩ := hl
  replace hws := hid hws
  by_cases h1 : l.length ≤ 1048576
  · have d1 : decide ((1048576 : Int) < (l.length : Int)) = false := decide_eq_false (by omega)
    by_cases h2 : ws.size ≤ 1048576
    · have d2 : decide ((1048576 : Int) < (ws.size : Int)) = false := decide_eq_false (by omega)
      have hti := hid (fun W (hW : Below w.heap.size w W) => toInt64S_any W _ l (hl'.out.below hW) (by omega))
      have hs := hid (fun W b vq (hO : Own W b 2 vq (ints l)) => specPer_any W m hkm b vq l hO (by omega) ws (by omega))
      have hp := hid (fun W b vq (hO : Own W b 2 vq (ints l)) => implPer_any W m hkm b vq l hO (by omega) ws (by omega))
      have heq := hid (fun W b1 b2 v1 v2 (hO1 : Own W b1 2 v1 (ints l)) (hO2 : Own W b2 2 v2 (ints l)) => eqInt64SL_any W b1 b2 v1 v2 l hO1 hO2 (by omega))
      have hcc : ((perAns m l ws).2 != (perAns m l ws).2) = false := by simp
      have hcr : ((perAns m l ws).1 != (perAns m l ws).1) = false := by simp
      generalize (perAns m l ws).1 = r at *
      generalize (perAns m l ws).2 = cd at *
      replace hkm := hid hkm
      generalize l.length = n at *
      go_enter Try.func10, Try.ntmps10
      go_wp2_with (first
        | ((with_reducible refine gate (N := 19) rfl ?_); refine load_lmach rfl _ rfl w.heap.size rfl m (by first | exact hS.out.m0 | exact hS.out.m1 | exact hS.out.m2) ?_)
        | ((with_reducible refine gate (N := 30) rfl ?_); refine load_lmach rfl _ rfl w.heap.size rfl m (by first | exact hS.out.m0 | exact hS.out.m1 | exact hS.out.m2) ?_)
        | (go_at_call 22; (with_reducible refine (toMachine_any m hkm.out _).mono ?_); rintro e w1 ⟨rfl, hb⟩; replace hS := hid (hS.out.call hb); clear hb)
        | (go_at_call 16; (with_reducible refine (hti.out _ hS.out.bel).mono ?_); rintro e w2 ⟨vq, rfl, hO, hb⟩; replace hS := hid (hS.out.callOwn hb hO); clear hb hO)
        | (go_at_call 35; (with_reducible refine (hs.out _ _ _ hS.out.o0).mono ?_); rintro e w3 ⟨rfl, hb⟩; replace hS := hid (hS.out.call hb); clear hb)
        | (go_at_call 36; (with_reducible refine (hp.out _ _ _ hS.out.o0).mono ?_); rintro e w4 ⟨rfl, hb⟩; replace hS := hid (hS.out.call hb); clear hb)
        | (go_at_call 18; (with_reducible refine (heq.out _ _ _ _ _ hS.out.o1 hS.out.o0).mono ?_); rintro e w5 ⟨rfl, hb⟩; replace hS := hid (hS.out.call hb); clear hb))
      go_ret
      exact ⟨rfl, hS.out.bel⟩
    · have d2 : decide ((1048576 : Int) < (ws.size : Int)) = true := decide_eq_true (by omega)
      generalize l.length = n at *
      go_enter Try.func10, Try.ntmps10
      go_wp2
      go_ret
      exact ⟨rfl, hS.out.bel⟩
  · have d1 : decide ((1048576 : Int) < (l.length : Int)) = true := decide_eq_true (by omega)
    generalize l.length = n at *
    go_enter Try.func10, Try.ntmps10
    go_wp2
    go_ret
    exact ⟨rfl, hS.out.bel⟩
end Go.Proofs.Ythempofohidlnaa
