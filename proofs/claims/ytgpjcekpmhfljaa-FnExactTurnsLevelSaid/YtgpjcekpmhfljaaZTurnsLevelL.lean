/- What the proof of TurnsLevel leans on, part 12 of 12. -/
import Derived.Test.YtgpjcekpmhfljaaZTurnsLevelK
/- CycleType: what the reference answers. -/
namespace Go.Proofs.Ytgpjcekpmhfljaa
open Go.RowKit
set_option linter.unusedVariables false
set_option linter.unusedSimpArgs false
-- @LONG

theorem run_append_rg {P : Program} (W : World) (t ty e : TypeId) (z : Value) (bytes : Nat) (ht : P.underlying t = some (.slice e)) (hinfo : (P.info? e).map (fun i => (i.zero, i.size, i.bytes)) = some (some z, 1, bytes)) (hz : z.cells.size = 1) (hb : bytes ≤ 64)
    (base : Nat) (v : Value) (cs : List Value) (h : Own W base e v cs) (hbase : base ≤ W.heap.size) (g off m c : Nat) (cs2 : List Value) (hl : cs2.length = m) (hcell : ∀ j u, cs2[j]? = some u → W.cell? ⟨g, off + j, none⟩ = some u) (h1 : ∀ u ∈ cs2, u.oneCell' = true) (hlen : cs.length + m ≤ 1000000000) :
    ∃ v' w', (Builtin.append_ #[t, t] ty #[v, .slice (some ⟨g, off, none⟩) m c]).run P W = .ok v' w' ∧ Own w' base e v' (cs ++ cs2) ∧ Below base W w' ∧ (∀ k, k < W.heap.size → v.ownBlock ≠ some k → w'.heap[k]? = W.heap[k]?) ∧ (v'.ownBlock = v.ownBlock ∨ v'.ownBlock = some W.heap.size) := by
  obtain ⟨i, hi, hz0, hz1, hz2⟩ := info_parts hinfo
  obtain ⟨v', w', hr, h3, h4, _, h5⟩ := run_append_own_at (P := P) W base t ty e i z 1 bytes ht hi hz0 hz1 hz2 hz (by omega) v cs.length cs h ⟨g, off, none⟩ m c cs2 (by omega) (fun j u hu => by rw [Addr.add_mid]; exact hcell j u hu) h1
    (by simp only [maxLen]; omega) (Nat.le_trans (Nat.mul_le_mul_left _ hb) (by omega)) hbase
  have hold : ∀ k, k < W.heap.size → v.ownBlock ≠ some k → w'.heap[k]? = W.heap[k]? := fun k hk hne => h4.block k hk (fun e => hne e.symm)
  refine ⟨v', w', hr, ?_, ⟨h4.os, h4.tape, h4.output, h4.size, fun k hk => hold k (by omega) (fun e => by have := (h.lt k e).1; omega)⟩, hold, h5⟩
  unfold Own
  rw [List.length_append, hl]; exact h3
section
variable {ops : Array Oper} {o : Oper} {act : Act} {W w0 : World} {K : Act → World → Prop} {Q : Exit → Act → World → Prop} {E : Prop} {L : List Asn} {base : Nat}
/-- Part of a slice appended, at a step of a region that draws. -/
theorem St.stepR (t e : TypeId) (z : Value) (bytes : Nat)
    (ht : Try.prog.underlying t = some (.slice e)) (hinfo : (Try.prog.info? e).map (fun i => (i.zero, i.size, i.bytes)) = some (some z, 1, bytes)) (hz : z.cells.size = 1) (hb : bytes ≤ 64)
    (hgd : o.guard = none) (s x : Operand) (ho : o.op = .call { callee := .builtin .append, args := #[s, x], argTypes := #[t, t] })
    (v : Value) (cs : List Value) (hs : act.eval s = v) (hS : St base w0 (Asn.own base e v cs :: L) W) (g off m c : Nat) (cs2 : List Value) (hx : act.eval x = .slice (some ⟨g, off, none⟩) m c) (hl : cs2.length = m) (hcell : ∀ j u, cs2[j]? = some u → W.cell? ⟨g, off + j, none⟩ = some u) (h1 : ∀ u ∈ cs2, u.oneCell' = true) (hlen : cs.length + m ≤ 1000000000)
    (h : ∀ v' w', St base w0 (Asn.own base e v' (cs ++ cs2) :: L) w' → K (act.put o.dst v') w') : if Region.wanted o (yielded ops act.tmps) = true then Oper.wp Try.prog o act W K Q else E := by
  obtain ⟨v', w', hr, h3, h4, h5, h6⟩ := run_append_rg (P := Try.prog) W t o.type e z bytes ht hinfo hz hb base v cs hS.star.1 hS.le g off m c cs2 hl hcell h1 hlen
  have hw : Region.wanted o (yielded ops act.tmps) = true := by simp [Region.wanted, hgd]
  rw [if_pos hw]
  unfold Oper.wp execOp
  simp only [ho, resolve, invoke, builtin, Sem.run_bind, Sem.run_pure, Result.andThen_ok, List.map_toArray, List.map_cons, List.map_nil, hs, hx, hr]
  exact h v' w' (hS.appdV h3 h4 h5 h6)
end
/-- The beginning of a slice of one's own. -/
theorem Own.pre {w : World} {base e g n cap : Nat} {cs : List Value} (h : Own w base e (.slice (some ⟨g, 0, none⟩) n cap) cs) (k : Nat) (hk : k ≤ cs.length) : Own w base e (.slice (some ⟨g, 0, none⟩) k cap) (cs.take k) := by
  have hl : (cs.take k).length = k := by rw [List.length_take]; omega
  unfold Own
  rw [hl]
  have h' : w.ownsRow base e 1 (.slice (some ⟨g, 0, none⟩) n cap) cs.length cs := h
  refine ⟨by omega, ?_⟩
  rcases h'.2 with ⟨h0, _⟩ | ⟨g', cap', cur, hv, hg, hb, h1, h2, h3, h4⟩
  · cases h0
  · injection hv with hv1 hv2 hv3
    injection hv1 with hv1
    injection hv1 with hv1 _ _
    subst hv1; subst hv3
    refine .inr ⟨g, cap, cur, rfl, hg, hb, by omega, h2, h3, ?_⟩
    rw [Nat.mul_one] at h4 ⊢
    rw [← h4, List.take_take, Nat.min_eq_left hk]
set_option maxHeartbeats 8000000 in
set_option maxRecDepth 100000 in
theorem specCyt_any (w : World) (m : Mach) (hk : m.Ok) (q n : Int) :
    Calls Try.prog 22 #[.agg (mcells m), .int .i64 q, .int .i64 n] w fun e w' => ∃ v', e = .returned (.tuple #[v', .int .i64 (cytAns m q n).2]) ∧ Own w' w.heap.size 2 v' (ints (cytAns m q n).1) ∧ Below w.heap.size w w' := by
  have hS := hid ((St.start w).newMB m 29)
  have hcode := hid (fun W => l05Code_any W m hk n)
  by_cases h0 : levelI m n = 0
  · obtain ⟨l, s, j, gd, rfl, h5, h7, hp⟩ := levelI_good h0
    rw [h0] at hcode
    have gS := hid gd.S
    have s16 := gd.s16
    have ew : IntKind.i64.wrap ((s : Int) - 1) = (s : Int) - 1 := IntWalk.i64_in _ (by omega)
    have hin := hid (fun W => l01In_any q 0 ((s : Int) - 1) (decide (0 ≤ q ∧ q ≤ (s : Int) - 1)) rfl W)
    by_cases hq : 0 ≤ q ∧ q ≤ (s : Int) - 1
    · obtain ⟨k, rfl⟩ := Int.eq_ofNat_of_zero_le hq.1
      have hks : k < s := by omega
      have hsl : slc m k j = 0 := by unfold slc; rw [if_pos h0, if_pos (by rw [gd.S]; omega)]
      rw [cytAns_0 gd hsl]
      rw [decide_eq_true hq] at hin
      have hle := hid (fun W => l01Level_any W m l s gd k hks j (by omega) (by omega))
      have hl := perm_length m l k j
      have hpm := pmF_pm (by have := gd.l2; omega) (aut_img gd hks j)
      have hcy := hid (fun W b v (hO : Own W b 2 v (nats (perm m l k j))) => l03Cycles_any W b v (perm m l k j) hO (by omega) hpm.lt)
      obtain ⟨L, hL⟩ : ∃ L, L = (cyc (perm m l k j)).map Int.ofNat := ⟨_, rfl⟩
      have hLn := hid (show nats (cyc (perm m l k j)) = ints L by rw [hL, nats_ints])
      have hLr := hid (show cysI (perm m l k j) = insL L L.length by rw [insL_srt, hL]; rfl)
      have hLl : L.length ≤ 243 := by rw [hL, List.length_map]; have := cyst_out (perm m l k j) (perm m l k j).length; unfold cyc; omega
      have hnO := hid (fun L W (h : St w.heap.size w L W) => h.newOwn [] 2 (by simp))
      simp only [List.length_nil] at hnO
      rw [hLr.out]
      replace hk := hid hk; replace gd := hid gd; replace hpm := hid hpm
      clear h0 hsl hq hL hLr
      generalize perm m l k j = p at *
      generalize hLN : L.length = N at *
      replace hLN := hid hLN
      have hil := hid (ints_length L)
      go_enter Try.func22, Try.ntmps22
      go_upto_region 7 with (first
        | ((with_reducible refine gate (N := 14) rfl ?_); refine load_mach rfl _ rfl w.heap.size rfl m hS.out.m0 ?_)
        | ((with_reducible refine gate (N := 30) rfl ?_); refine load_mach rfl _ rfl w.heap.size rfl m hS.out.m0 ?_)
        | (go_at_call 54; (with_reducible refine (hcode.out _).mono ?_); rintro e w1 ⟨rfl, hb⟩; replace hS := hid (hS.out.call hb); have cS := hS.out.m0.cS; rw [gS.out] at cS; clear hb)
        | (go_at_call 55; (with_reducible refine (hin.out _).mono ?_); rintro e w' ⟨rfl, rfl⟩)
        | (go_at_call 56; (with_reducible refine (hle.out _).mono ?_); rintro e w2 ⟨v2, rfl, hO, hb⟩; replace hS := hid (hS.out.callOwn hb hO); clear hb hO cS)
        | (go_at_call 48; (with_reducible refine (hcy.out _ _ _ hS.out.o0).mono ?_); rintro e w3 ⟨v3, rfl, hO, hb⟩; rw [hLn.out] at hO; replace hS := hid (hnO.out _ _ (hS.out.drop.callOwn hb hO)); clear hb hO))
      obtain ⟨AL, cL, rfl, _, hAL⟩ := hS.out.o1.form
      rw [hil.out, hLN.out] at hS ⊢
      replace hAL := hid hAL
      have hi0 := hid (show insL L 0 = [] from rfl)
      generalize w3.alloc (.cells #[] 2) = w4 at *
      generalize w3.heap.size = g3 at *
      go_wp2
      go_loopw [10, 11] (fun o i wr => ∃ (k g c : Nat), k ≤ N ∧ i = .int .i64 k ∧ o = .slice (some ⟨g, 0, none⟩) k c ∧ St w.heap.size w [Asn.own w.heap.size 2 (.slice (some ⟨g, 0, none⟩) k c) (ints (insL L k)), Asn.own w.heap.size 2 (.slice AL N cL) (ints L), Asn.mb 29 w.heap.size m] wr) (fun _ i _ => N - (intOf i).toNat)
      case atStart => exact ⟨0, _, _, Nat.zero_le _, rfl, rfl, by rw [hi0.out]; exact hS.out⟩
      case round =>
        clear hS
        obtain ⟨k, g, c, hkN, rfl, rfl, rS⟩ := hrel
        by_cases hlt : k < N
        · obtain ⟨gL, rfl⟩ : ∃ gL, AL = some ⟨gL, 0, none⟩ := by
            rcases hAL.out with ⟨_, h1, _⟩ | ⟨g, h1, _⟩
            · have h2 : L.length = 0 := by rw [← hil.out, h1]; rfl
              have := hLN.out; omega
            · exact ⟨g, h1⟩
          obtain ⟨x, hx⟩ : ∃ x, L[k]? = some x := ⟨_, List.getElem?_eq_getElem (by rw [hLN.out]; exact hlt)⟩
          have hkl := hid (insL_len L k (by rw [hLN.out]; exact hkN))
          have hstep := hid (insL_step hx)
          have hAle := insA_le x (insL L k)
          have hAlt := hid (fun j (h : j < insA x (insL L k)) => insA_lt h)
          have hAat := hid (fun (h : insA x (insL L k) < (insL L k).length) => insA_at h)
          have hix := hid (show insX x (insL L k) = (insL L k).take (insA x (insL L k)) ++ x :: (insL L k).drop (insA x (insL L k)) from rfl)
          have hcx := hid (fun W (h : St w.heap.size w [Asn.own w.heap.size 2 (.slice (some ⟨g, 0, none⟩) k c) (ints (insL L k)), Asn.own w.heap.size 2 (.slice (some ⟨gL, 0, none⟩) N cL) (ints L), Asn.mb 29 w.heap.size m] W) => (show W.cell? ⟨gL, k, none⟩ = some (.int .i64 x) from h.o1.cellAt k _ (by simp [ints, hx])))
          have hco := hid (fun W (h : St w.heap.size w [Asn.own w.heap.size 2 (.slice (some ⟨g, 0, none⟩) k c) (ints (insL L k)), Asn.own w.heap.size 2 (.slice (some ⟨gL, 0, none⟩) N cL) (ints L), Asn.mb 29 w.heap.size m] W) j y (hy : (insL L k)[j]? = some y) => (show W.cell? ⟨g, j, none⟩ = some (.int .i64 y) from h.o0.cellAt j _ (by simp [ints, hy])))
          have dk : decide ((k : Int) < (N : Int)) = true := decide_eq_true (by omega)
          have k0 : (0 : Int) ≤ (k : Int) := Int.natCast_nonneg _
          have k1 : (k : Int) < (N : Int) := by omega
          rw [hkl.out] at hAle hAat
          have hkc : k ≤ c := by
            obtain ⟨_, _, he, h2, _⟩ := rS.o0.form
            injection he with _ _ e3
            rw [ints_length, hkl.out] at h2
            omega
          replace rS := hid rS
          clear hx
          generalize insA x (insL L k) = A at *
          go_wp2
          go_loopw [12] (fun a wi => ∃ j : Nat, j ≤ A ∧ a = .int .i64 j ∧ Hid (St w.heap.size w [Asn.own w.heap.size 2 (.slice (some ⟨g, 0, none⟩) k c) (ints (insL L k)), Asn.own w.heap.size 2 (.slice (some ⟨gL, 0, none⟩) N cL) (ints L), Asn.mb 29 w.heap.size m] wi)) (fun a _ => A - (intOf a).toNat)
          case atStart => exact ⟨0, Nat.zero_le _, rfl, rS⟩
          case round =>
            obtain ⟨j, hj, rfl, rS⟩ := hrel
            have cx := hcx.out _ rS.out
            have j0 : (0 : Int) ≤ (j : Int) := Int.natCast_nonneg _
            by_cases hjA : j < A
            · obtain ⟨y, hy, hyx⟩ := hAlt.out j hjA
              have cy := hco.out _ rS.out j y hy
              have dj : decide ((j : Int) < (k : Int)) = true := decide_eq_true (by omega)
              have j1 : (j : Int) < (k : Int) := by omega
              have dy : decide (y ≤ x) = true := decide_eq_true hyx
              clear hy
              go_upto_region 11 with (fail)
              go_quiet (fail)
              go_wp2
              go_roundw
              case rel => exact ⟨j + 1, by omega, by go_num, hid (rS.out.drewN _)⟩
              case measure => simp [intOf]; omega
            · obtain rfl : j = A := by omega
              have hlA := hid (show (insL L k).length = k from hkl.out)
              obtain ⟨off, ho⟩ : ∃ off : Nat, Hid ((c = j → off = 0) ∧ (c ≠ j → off = j)) := ⟨if c = j then 0 else j, hid ⟨fun h => if_pos h, fun h => if_neg h⟩⟩
              have hcd := hid (fun W (h : St w.heap.size w [Asn.own w.heap.size 2 (.slice (some ⟨g, 0, none⟩) k c) (ints (insL L k)), Asn.own w.heap.size 2 (.slice (some ⟨gL, 0, none⟩) N cL) (ints L), Asn.mb 29 w.heap.size m] W) i u (hu : (ints ((insL L k).drop j))[i]? = some u) => (show W.cell? ⟨g, off + i, none⟩ = some u from by
                have hi : i < k - j := by have h2 := (List.getElem?_eq_some_iff.1 hu).1; rw [ints_length, List.length_drop, hlA.out] at h2; exact h2
                rw [ho.out.2 (by omega)]
                refine h.o0.cellAt (j + i) _ ?_
                simp only [ints, List.getElem?_map, List.getElem?_drop] at hu ⊢; exact hu))
              by_cases hjk : j < k
              · obtain ⟨y, hy, hyx⟩ := hAat.out hjk
                have cy := hco.out _ rS.out j y hy
                have dj : decide ((j : Int) < (k : Int)) = true := decide_eq_true (by omega)
                have j1 : (j : Int) < (k : Int) := by omega
                have dy : decide (y ≤ x) = false := decide_eq_false (by omega)
                clear hy hyx
                go_upto_region 11 with (fail)
                go_quiet (fail)
                go_upto_region 13 with (fail)
                replace rS := hid (rS.out.drewN nq).drew
                refine wp_region_heldL (L := [(8, (fun w' : World => w'.cell? ⟨gL, k, none⟩ = some (.int .i64 x)))]) (by kernel_rfl) (HeldL.cons (fun _ => hcx.out _ rS.out) HeldL.nil) (fun hHeld => ?_)
                generalize World.drew (World.drewN _ nq) = wa at *
                refine wpAnyL_take0 (i := 0) (v := ?_) rfl (by kernel_rfl) (by kernel_rfl) (by kernel_rfl) (by rfl) (fun _ _ _ h => h) (Or.inl ⟨by rfl, ?_⟩) (by assumption) ?_
                rotate_left
                · (intro W _; go_simp; (with_reducible rfl))
                intro hHeld'
                clear hHeld; have hHeld := hHeld'; clear hHeld'
                try simp only [Act.put, List.getElem_toArray, List.getElem_cons_succ, List.getElem_cons_zero, List.setIfInBounds_toArray, List.set_cons_zero, List.set_cons_succ]
                refine wpAnyL_take0 (i := 1) (v := ?_) rfl (by kernel_rfl) (by kernel_rfl) (by kernel_rfl) (by rfl) (fun _ _ _ h => h) (Or.inl ⟨by rfl, ?_⟩) (by assumption) ?_
                rotate_left
                · (intro W _; go_simp; (with_reducible rfl))
                intro hHeld'
                clear hHeld; have hHeld := hHeld'; clear hHeld'
                try simp only [Act.put, List.getElem_toArray, List.getElem_cons_succ, List.getElem_cons_zero, List.setIfInBounds_toArray, List.set_cons_zero, List.set_cons_succ]
                refine wpAnyL_take0 (i := 2) (v := ?_) rfl (by kernel_rfl) (by kernel_rfl) (by kernel_rfl) (by rfl) (fun _ _ _ h => h) (Or.inl ⟨by rfl, ?_⟩) (by assumption) ?_
                rotate_left
                · (intro W _; go_simp; (with_reducible rfl))
                intro hHeld'
                clear hHeld; have hHeld := hHeld'; clear hHeld'
                try simp only [Act.put, List.getElem_toArray, List.getElem_cons_succ, List.getElem_cons_zero, List.setIfInBounds_toArray, List.set_cons_zero, List.set_cons_succ]
                refine wpAnyL_takeP (i := 3) 8 [4] (v := (.int .i64 x)) (fun w' : World => w'.cell? ⟨gL, k, none⟩ = some (.int .i64 x)) rfl (by kernel_rfl) (by kernel_rfl) (by kernel_rfl) (by rfl) (by kernel_rfl) (by simp) (fun _ _ _ h => h) (Or.inl ⟨by rfl, ?_⟩) (by assumption) ?_
                · (intro W hW; go_simp)
                intro hHeld'
                clear hHeld; have hHeld := hHeld'; clear hHeld'
                try simp only [Act.put, List.getElem_toArray, List.getElem_cons_succ, List.getElem_cons_zero, List.setIfInBounds_toArray, List.set_cons_zero, List.set_cons_succ]
                refine wpAnyL_take0 (i := 5) (v := ?_) rfl (by kernel_rfl) (by kernel_rfl) (by kernel_rfl) (by rfl) (fun _ _ _ h => h) (Or.inl ⟨by rfl, ?_⟩) (by assumption) ?_
                rotate_left
                · (intro W _; go_simp; (with_reducible rfl))
                intro hHeld'
                clear hHeld; have hHeld := hHeld'; clear hHeld'
                try simp only [Act.put, List.getElem_toArray, List.getElem_cons_succ, List.getElem_cons_zero, List.setIfInBounds_toArray, List.set_cons_zero, List.set_cons_succ]
                refine wpAnyL_take0 (i := 6) (v := ?_) rfl (by kernel_rfl) (by kernel_rfl) (by kernel_rfl) (by rfl) (fun _ _ _ h => h) (Or.inl ⟨by rfl, ?_⟩) (by assumption) ?_
                rotate_left
                · (intro W _; go_simp; (with_reducible rfl))
                intro hHeld'
                clear hHeld; have hHeld := hHeld'; clear hHeld'
                try simp only [Act.put, List.getElem_toArray, List.getElem_cons_succ, List.getElem_cons_zero, List.setIfInBounds_toArray, List.set_cons_zero, List.set_cons_succ]
                refine wpAnyL_take0 (i := 7) (v := (.slice (some ⟨g, off, none⟩) (k - j) (c - j))) rfl (by kernel_rfl) (by kernel_rfl) (by kernel_rfl) (by rfl) (fun _ _ _ h => h) (Or.inl ⟨by rfl, ?_⟩) (by assumption) ?_
                · (intro W _; go_simp; split <;> rename_i h <;> first | rw [ho.out.1 h] | rw [ho.out.2 h])
                intro hHeld'
                clear hHeld; have hHeld := hHeld'; clear hHeld'
                try simp only [Act.put, List.getElem_toArray, List.getElem_cons_succ, List.getElem_cons_zero, List.setIfInBounds_toArray, List.set_cons_zero, List.set_cons_succ]
                refine wpAnyL_ready (rs := [4]) (by kernel_rfl) (by simp) ?_
                refine AllReadyL.cons rfl (fun K hK => ?_) AllReadyL.nil
                go_simp
                have rS2 := rS.out.newOwn [.int .i64 x] 2 (by simp)
                simp only [List.length_cons, List.length_nil, Nat.zero_add] at rS2
                replace rS := hid rS2
                clear rS2
                generalize wa.heap.size = bx at *
                generalize wa.alloc _ = wb at *
                refine hK.out _ _ (HeldL.cons (fun _ => hcx.out _ rS.out.drop) HeldL.nil) (fun hHeld' => ?_)
                clear hK K hHeld; have hHeld := hHeld'; clear hHeld'
                try simp only [Act.put, List.getElem_toArray, List.getElem_cons_succ, List.getElem_cons_zero, List.setIfInBounds_toArray, List.set_cons_zero, List.set_cons_succ]
                refine wpAnyL_ready (rs := [8]) (by kernel_rfl) (by simp) ?_
                refine AllReadyL.cons rfl (fun K hK => ?_) AllReadyL.nil
                refine St.stepR 34 2 (.int .i64 0) 8 Try.underlying34 info_i64 rfl (by omega) rfl _ _ rfl _ _ rfl rS.out g off (k - j) (c - j) (ints ((insL L k).drop j)) rfl (by rw [ints_length, List.length_drop, hlA.out]) (fun i u hu => hcd.out _ rS.out.drop i u hu) (ints_one _) (by simp; omega) ?_
                intro vr w7 rS'
                replace rS := hid rS'
                clear rS'
                refine hK.out _ _ (HeldL.cons (fun h => absurd h (by decide +kernel)) HeldL.nil) (fun hHeld' => ?_)
                clear hK K hHeld; have hHeld := hHeld'; clear hHeld'
                try simp only [Act.put, List.getElem_toArray, List.getElem_cons_succ, List.getElem_cons_zero, List.setIfInBounds_toArray, List.set_cons_zero, List.set_cons_succ]
                refine wpAnyL_take0 (i := 9) (v := ?_) rfl (by kernel_rfl) (by kernel_rfl) (by kernel_rfl) (by rfl) (fun _ _ _ h => h) (Or.inl ⟨by rfl, ?_⟩) (by assumption) ?_
                rotate_left
                · (intro W _; go_simp; (with_reducible rfl))
                intro hHeld'
                clear hHeld; have hHeld := hHeld'; clear hHeld'
                try simp only [Act.put, List.getElem_toArray, List.getElem_cons_succ, List.getElem_cons_zero, List.setIfInBounds_toArray, List.set_cons_zero, List.set_cons_succ]
                refine wpAnyL_done (by kernel_rfl) ?_ _
                have hpre := hid (fun W (h : St w.heap.size w [Asn.own w.heap.size 2 vr ([.int .i64 x] ++ ints ((insL L k).drop j)), Asn.own w.heap.size 2 (.slice (some ⟨g, 0, none⟩) k c) (ints (insL L k)), Asn.own w.heap.size 2 (.slice (some ⟨gL, 0, none⟩) N cL) (ints L), Asn.mb 29 w.heap.size m] W) => (show Own W w.heap.size 2 (.slice (some ⟨g, 0, none⟩) j c) (ints ((insL L k).take j)) from by
                  have h1 := h.o1.pre j (by rw [ints_length, hlA.out]; exact hAle)
                  rwa [show (ints (insL L k)).take j = ints ((insL L k).take j) by simp [ints]] at h1))
                have hown := hid (fun W (hO : Own W w.heap.size 2 (.slice (some ⟨g, 0, none⟩) j c) (ints ((insL L k).take j))) => l01Own_any W w.heap.size _ ((insL L k).take j) hO (by rw [List.length_take]; omega))
                have hlen8 := hid (show (ints ((insL L k).take j)).length + ([Value.int .i64 x] ++ ints ((insL L k).drop j)).length ≤ 1000000000 by simp [ints]; rw [hlA.out]; omega)
                have hone := hid (show ∀ u ∈ [Value.int .i64 x] ++ ints ((insL L k).drop j), u.oneCell' = true from fun u hu => (List.mem_append.1 hu).elim (fun h => by rw [List.mem_singleton.1 h]; rfl) (ints_one _ u))
                have hfin := hid (show ints ((insL L k).take j) ++ ([Value.int .i64 x] ++ ints ((insL L k).drop j)) = ints (insL L (k + 1)) by rw [hstep.out, hix.out]; simp [ints])
                have hfl := hid (show (insL L (k + 1)).length = k + 1 by rw [hstep.out, insX_length, hlA.out])
                go_wp2_with (first
                  | (go_at_call 57; (with_reducible refine (hown.out _ (hpre.out _ rS.out)).mono ?_); rintro e w8 ⟨v8, rfl, hO, hb⟩; replace rS := hid (rS.out.callOwn hb hO); clear hO hb)
                  | ((with_reducible refine gate (N := 73) rfl ?_); refine St.appS 34 2 (.int .i64 0) 8 Try.underlying34 info_i64 rfl (by omega) rfl _ _ rfl _ _ rfl rS.out _ _ _ _ rfl rS.out.o1 hone.out hlen8.out ?_; intro v9 w9 rS'; replace rS := hid rS'; clear rS'; rw [hfin.out] at rS; obtain ⟨g9, c9, rfl, _, _⟩ := rS.out.o0.blk (fun e => by have h := congrArg List.length e; rw [ints_length, hfl.out] at h; simp at h); rw [ints_length, hfl.out] at rS; rw [ints_length, hfl.out]))
                go_roundw
                case rel => exact ⟨k + 1, g9, c9, by omega, by go_num, rfl, rS.out.f1.drop.f1.drop⟩
                case measure => simp [intOf]; omega
              · have dj : decide ((j : Int) < (k : Int)) = false := decide_eq_false (by omega)
                go_upto_region 11 with (fail)
                go_quiet (fail)
                go_upto_region 13 with (fail)
                replace rS := hid (rS.out.drewN nq).drew
                refine wp_region_heldL (L := [(8, (fun w' : World => w'.cell? ⟨gL, k, none⟩ = some (.int .i64 x)))]) (by kernel_rfl) (HeldL.cons (fun _ => hcx.out _ rS.out) HeldL.nil) (fun hHeld => ?_)
                generalize World.drew (World.drewN _ nq) = wa at *
                refine wpAnyL_take0 (i := 0) (v := ?_) rfl (by kernel_rfl) (by kernel_rfl) (by kernel_rfl) (by rfl) (fun _ _ _ h => h) (Or.inl ⟨by rfl, ?_⟩) (by assumption) ?_
                rotate_left
                · (intro W _; go_simp; (with_reducible rfl))
                intro hHeld'
                clear hHeld; have hHeld := hHeld'; clear hHeld'
                try simp only [Act.put, List.getElem_toArray, List.getElem_cons_succ, List.getElem_cons_zero, List.setIfInBounds_toArray, List.set_cons_zero, List.set_cons_succ]
                refine wpAnyL_take0 (i := 1) (v := ?_) rfl (by kernel_rfl) (by kernel_rfl) (by kernel_rfl) (by rfl) (fun _ _ _ h => h) (Or.inl ⟨by rfl, ?_⟩) (by assumption) ?_
                rotate_left
                · (intro W _; go_simp; (with_reducible rfl))
                intro hHeld'
                clear hHeld; have hHeld := hHeld'; clear hHeld'
                try simp only [Act.put, List.getElem_toArray, List.getElem_cons_succ, List.getElem_cons_zero, List.setIfInBounds_toArray, List.set_cons_zero, List.set_cons_succ]
                refine wpAnyL_take0 (i := 2) (v := ?_) rfl (by kernel_rfl) (by kernel_rfl) (by kernel_rfl) (by rfl) (fun _ _ _ h => h) (Or.inl ⟨by rfl, ?_⟩) (by assumption) ?_
                rotate_left
                · (intro W _; go_simp; (with_reducible rfl))
                intro hHeld'
                clear hHeld; have hHeld := hHeld'; clear hHeld'
                try simp only [Act.put, List.getElem_toArray, List.getElem_cons_succ, List.getElem_cons_zero, List.setIfInBounds_toArray, List.set_cons_zero, List.set_cons_succ]
                refine wpAnyL_takeP (i := 3) 8 [4] (v := (.int .i64 x)) (fun w' : World => w'.cell? ⟨gL, k, none⟩ = some (.int .i64 x)) rfl (by kernel_rfl) (by kernel_rfl) (by kernel_rfl) (by rfl) (by kernel_rfl) (by simp) (fun _ _ _ h => h) (Or.inl ⟨by rfl, ?_⟩) (by assumption) ?_
                · (intro W hW; go_simp)
                intro hHeld'
                clear hHeld; have hHeld := hHeld'; clear hHeld'
                try simp only [Act.put, List.getElem_toArray, List.getElem_cons_succ, List.getElem_cons_zero, List.setIfInBounds_toArray, List.set_cons_zero, List.set_cons_succ]
                refine wpAnyL_take0 (i := 5) (v := ?_) rfl (by kernel_rfl) (by kernel_rfl) (by kernel_rfl) (by rfl) (fun _ _ _ h => h) (Or.inl ⟨by rfl, ?_⟩) (by assumption) ?_
                rotate_left
                · (intro W _; go_simp; (with_reducible rfl))
                intro hHeld'
                clear hHeld; have hHeld := hHeld'; clear hHeld'
                try simp only [Act.put, List.getElem_toArray, List.getElem_cons_succ, List.getElem_cons_zero, List.setIfInBounds_toArray, List.set_cons_zero, List.set_cons_succ]
                refine wpAnyL_take0 (i := 6) (v := ?_) rfl (by kernel_rfl) (by kernel_rfl) (by kernel_rfl) (by rfl) (fun _ _ _ h => h) (Or.inl ⟨by rfl, ?_⟩) (by assumption) ?_
                rotate_left
                · (intro W _; go_simp; (with_reducible rfl))
                intro hHeld'
                clear hHeld; have hHeld := hHeld'; clear hHeld'
                try simp only [Act.put, List.getElem_toArray, List.getElem_cons_succ, List.getElem_cons_zero, List.setIfInBounds_toArray, List.set_cons_zero, List.set_cons_succ]
                refine wpAnyL_take0 (i := 7) (v := (.slice (some ⟨g, off, none⟩) (k - j) (c - j))) rfl (by kernel_rfl) (by kernel_rfl) (by kernel_rfl) (by rfl) (fun _ _ _ h => h) (Or.inl ⟨by rfl, ?_⟩) (by assumption) ?_
                · (intro W _; go_simp; split <;> rename_i h <;> first | rw [ho.out.1 h] | rw [ho.out.2 h])
                intro hHeld'
                clear hHeld; have hHeld := hHeld'; clear hHeld'
                try simp only [Act.put, List.getElem_toArray, List.getElem_cons_succ, List.getElem_cons_zero, List.setIfInBounds_toArray, List.set_cons_zero, List.set_cons_succ]
                refine wpAnyL_ready (rs := [4]) (by kernel_rfl) (by simp) ?_
                refine AllReadyL.cons rfl (fun K hK => ?_) AllReadyL.nil
                go_simp
                have rS2 := rS.out.newOwn [.int .i64 x] 2 (by simp)
                simp only [List.length_cons, List.length_nil, Nat.zero_add] at rS2
                replace rS := hid rS2
                clear rS2
                generalize wa.heap.size = bx at *
                generalize wa.alloc _ = wb at *
                refine hK.out _ _ (HeldL.cons (fun _ => hcx.out _ rS.out.drop) HeldL.nil) (fun hHeld' => ?_)
                clear hK K hHeld; have hHeld := hHeld'; clear hHeld'
                try simp only [Act.put, List.getElem_toArray, List.getElem_cons_succ, List.getElem_cons_zero, List.setIfInBounds_toArray, List.set_cons_zero, List.set_cons_succ]
                refine wpAnyL_ready (rs := [8]) (by kernel_rfl) (by simp) ?_
                refine AllReadyL.cons rfl (fun K hK => ?_) AllReadyL.nil
                refine St.stepR 34 2 (.int .i64 0) 8 Try.underlying34 info_i64 rfl (by omega) rfl _ _ rfl _ _ rfl rS.out g off (k - j) (c - j) (ints ((insL L k).drop j)) rfl (by rw [ints_length, List.length_drop, hlA.out]) (fun i u hu => hcd.out _ rS.out.drop i u hu) (ints_one _) (by simp; omega) ?_
                intro vr w7 rS'
                replace rS := hid rS'
                clear rS'
                refine hK.out _ _ (HeldL.cons (fun h => absurd h (by decide +kernel)) HeldL.nil) (fun hHeld' => ?_)
                clear hK K hHeld; have hHeld := hHeld'; clear hHeld'
                try simp only [Act.put, List.getElem_toArray, List.getElem_cons_succ, List.getElem_cons_zero, List.setIfInBounds_toArray, List.set_cons_zero, List.set_cons_succ]
                refine wpAnyL_take0 (i := 9) (v := ?_) rfl (by kernel_rfl) (by kernel_rfl) (by kernel_rfl) (by rfl) (fun _ _ _ h => h) (Or.inl ⟨by rfl, ?_⟩) (by assumption) ?_
                rotate_left
                · (intro W _; go_simp; (with_reducible rfl))
                intro hHeld'
                clear hHeld; have hHeld := hHeld'; clear hHeld'
                try simp only [Act.put, List.getElem_toArray, List.getElem_cons_succ, List.getElem_cons_zero, List.setIfInBounds_toArray, List.set_cons_zero, List.set_cons_succ]
                refine wpAnyL_done (by kernel_rfl) ?_ _
                have hpre := hid (fun W (h : St w.heap.size w [Asn.own w.heap.size 2 vr ([.int .i64 x] ++ ints ((insL L k).drop j)), Asn.own w.heap.size 2 (.slice (some ⟨g, 0, none⟩) k c) (ints (insL L k)), Asn.own w.heap.size 2 (.slice (some ⟨gL, 0, none⟩) N cL) (ints L), Asn.mb 29 w.heap.size m] W) => (show Own W w.heap.size 2 (.slice (some ⟨g, 0, none⟩) j c) (ints ((insL L k).take j)) from by
                  have h1 := h.o1.pre j (by rw [ints_length, hlA.out]; exact hAle)
                  rwa [show (ints (insL L k)).take j = ints ((insL L k).take j) by simp [ints]] at h1))
                have hown := hid (fun W (hO : Own W w.heap.size 2 (.slice (some ⟨g, 0, none⟩) j c) (ints ((insL L k).take j))) => l01Own_any W w.heap.size _ ((insL L k).take j) hO (by rw [List.length_take]; omega))
                have hlen8 := hid (show (ints ((insL L k).take j)).length + ([Value.int .i64 x] ++ ints ((insL L k).drop j)).length ≤ 1000000000 by simp [ints]; rw [hlA.out]; omega)
                have hone := hid (show ∀ u ∈ [Value.int .i64 x] ++ ints ((insL L k).drop j), u.oneCell' = true from fun u hu => (List.mem_append.1 hu).elim (fun h => by rw [List.mem_singleton.1 h]; rfl) (ints_one _ u))
                have hfin := hid (show ints ((insL L k).take j) ++ ([Value.int .i64 x] ++ ints ((insL L k).drop j)) = ints (insL L (k + 1)) by rw [hstep.out, hix.out]; simp [ints])
                have hfl := hid (show (insL L (k + 1)).length = k + 1 by rw [hstep.out, insX_length, hlA.out])
                go_wp2_with (first
                  | (go_at_call 57; (with_reducible refine (hown.out _ (hpre.out _ rS.out)).mono ?_); rintro e w8 ⟨v8, rfl, hO, hb⟩; replace rS := hid (rS.out.callOwn hb hO); clear hO hb)
                  | ((with_reducible refine gate (N := 73) rfl ?_); refine St.appS 34 2 (.int .i64 0) 8 Try.underlying34 info_i64 rfl (by omega) rfl _ _ rfl _ _ rfl rS.out _ _ _ _ rfl rS.out.o1 hone.out hlen8.out ?_; intro v9 w9 rS'; replace rS := hid rS'; clear rS'; rw [hfin.out] at rS; obtain ⟨g9, c9, rfl, _, _⟩ := rS.out.o0.blk (fun e => by have h := congrArg List.length e; rw [ints_length, hfl.out] at h; simp at h); rw [ints_length, hfl.out] at rS; rw [ints_length, hfl.out]))
                go_roundw
                case rel => exact ⟨k + 1, g9, c9, by omega, by go_num, rfl, rS.out.f1.drop.f1.drop⟩
                case measure => simp [intOf]; omega
        · obtain rfl : k = N := by omega
          have dk : decide ((k : Int) < (k : Int)) = false := decide_eq_false (by omega)
          replace rS := hid rS
          go_wp2
          go_ret2
          exact ⟨_, rfl, rS.out.o0, rS.out.bel⟩
    · have hA : cytAns m q j = ([], 2) := by
        have hs2 : slc m q j = 2 := by unfold slc; rw [if_pos h0, if_neg (by rw [gd.S]; omega)]
        rw [cytAns_c (by rw [hs2]; decide), hs2]
      rw [hA]
      rw [decide_eq_false hq] at hin
      replace hk := hid hk; replace gd := hid gd
      clear h0 hq hA
      go_enter Try.func22, Try.ntmps22
      go_wp2_with (first
        | ((with_reducible refine gate (N := 14) rfl ?_); refine load_mach rfl _ rfl w.heap.size rfl m hS.out.m0 ?_)
        | (go_at_call 54; (with_reducible refine (hcode.out _).mono ?_); rintro e w1 ⟨rfl, hb⟩; replace hS := hid (hS.out.call hb); have cS := hS.out.m0.cS; rw [gS.out] at cS; clear hb)
        | (go_at_call 55; (with_reducible refine (hin.out _).mono ?_); rintro e w' ⟨rfl, rfl⟩))
      go_ret2
      exact ⟨_, rfl, Own.nil _ _ _, hS.out.bel⟩
  · have hA : cytAns m q n = ([], levelI m n) := by
      have hs2 : slc m q n = levelI m n := by unfold slc; rw [if_neg h0]
      rw [cytAns_c (by rw [hs2]; exact h0), hs2]
    rw [hA]
    have dn : ((levelI m n) == 0) = false := by simpa using h0
    have dn2 : ((levelI m n) != 0) = true := by simpa using h0
    generalize levelI m n = cd at *
    replace hk := hid hk
    clear h0 hA
    go_enter Try.func22, Try.ntmps22
    go_wp2_with (first
      | ((with_reducible refine gate (N := 14) rfl ?_); refine load_mach rfl _ rfl w.heap.size rfl m hS.out.m0 ?_)
      | (go_at_call 54; (with_reducible refine (hcode.out _).mono ?_); rintro e w1 ⟨rfl, hb⟩; replace hS := hid (hS.out.call hb); clear hb))
    go_ret2
    exact ⟨_, rfl, Own.nil _ _ _, hS.out.bel⟩
end Go.Proofs.Ytgpjcekpmhfljaa

/- TurnsLevel: what the reference answers, and the law. -/
namespace Go.Proofs.Ytgpjcekpmhfljaa
open Go.RowKit
set_option linter.unusedVariables false
set_option linter.unusedSimpArgs false

set_option maxHeartbeats 2000000 in
set_option maxRecDepth 4000 in
theorem specTul_any (w : World) (m : Mach) (hk : m.Ok) (q n : Int) :
    Calls Try.prog 20 #[.agg (mcells m), .int .i64 q, .int .i64 n] w fun e w' => e = .returned (.tuple #[.bool (tulAns m q n).1, .int .i64 (tulAns m q n).2]) ∧ Below w.heap.size w w' := by
  have hS := hid ((St.start w).newMB m 29)
  have hc := hid (fun W => specCyt_any W m hk q n)
  have hR := hid (show (tulAns m q n).1 = decide ((cytAns m q n).1.length = 1) from rfl)
  have hR2 := hid (show (tulAns m q n).2 = (cytAns m q n).2 from rfl)
  have hll := cytAns_len m q n
  have hne := hid (show (cytAns m q n).2 ≠ 0 → (cytAns m q n).1 = [] from fun h => by
    rcases slc_cases m q n with h1 | ⟨h1, l, s, k, j, gd, rfl, rfl, _, _, _, hp⟩
    · rw [cytAns_c h1]
    · rw [cytAns_0 gd h1] at h; exact absurd rfl h)
  rw [hR.out, hR2.out]
  clear hR hR2
  generalize (cytAns m q n).2 = c at *
  generalize (cytAns m q n).1 = l at *
  replace hk := hid hk
  have hil := hid (ints_length l)
  have hd := hid (show decide (l.length = 1) = ((l.length : Int) == 1) by rw [Bool.eq_iff_iff]; simp; omega)
  by_cases h0 : c = 0
  · subst h0
    go_enter Try.func20, Try.ntmps20
    go_wp2_with (first
      | ((with_reducible refine gate (N := 11) rfl ?_); refine load_mach rfl _ rfl w.heap.size rfl m hS.out.m0 ?_)
      | (go_at_call 22; (with_reducible refine (hc.out _).mono ?_); rintro e w1 ⟨v1, rfl, hO, hb⟩; obtain ⟨A, cp, rfl, _, _⟩ := hO.form; rw [hil.out]; replace hS := hid (hS.out.call hb); clear hb hO))
    go_ret2
    exact ⟨by rw [hd.out]; rfl, hS.out.bel⟩
  · have hl0 := hid (hne.out h0)
    have dn : (c == 0) = false := by simpa using h0
    clear h0
    go_enter Try.func20, Try.ntmps20
    go_wp2_with (first
      | ((with_reducible refine gate (N := 11) rfl ?_); refine load_mach rfl _ rfl w.heap.size rfl m hS.out.m0 ?_)
      | (go_at_call 22; (with_reducible refine (hc.out _).mono ?_); rintro e w1 ⟨v1, rfl, hO, hb⟩; obtain ⟨A, cp, rfl, _, _⟩ := hO.form; rw [hil.out]; replace hS := hid (hS.out.call hb); clear hb hO))
    go_ret2
    exact ⟨by rw [hl0.out]; rfl, hS.out.bel⟩
set_option maxHeartbeats 2000000 in
set_option maxRecDepth 100000 in
theorem turnsLevel_law (w : World) (m : Mach) (hkm : m.Ok) (x1 : Int) (x2 : Int) :
    Calls Try.prog 5 #[.agg (mcells m), .int .i64 x1, .int .i64 x2] w fun e w' => e = .returned (.bool true) ∧ Below w.heap.size w w' := by
  have hS := hid ((St.start w).newMB m 25)
  replace hkm := hid hkm
  have hs := hid (fun W => specTul_any W m hkm.out x1 x2)
  have hp := hid (fun W => implTul_any W m hkm.out x1 x2)
  generalize (tulAns m x1 x2).1 = a1 at *
  generalize (tulAns m x1 x2).2 = a2 at *
  have hz1 : (a1 != a1) = false := by simp
  have hz2 : (a2 != a2) = false := by simp
  try simp only [heap_alloc_size] at hS
  go_enter Try.func5, Try.ntmps5
  go_wp2_with (first
    | ((with_reducible refine gate (N := 12) rfl ?_); refine load_lmach rfl _ rfl w.heap.size rfl m hS.out.m0 ?_)
    | ((with_reducible refine gate (N := 20) rfl ?_); refine load_lmach rfl _ rfl w.heap.size rfl m hS.out.m0 ?_)
    | (go_at_call 11; (with_reducible refine (toMachine_any m hkm.out _).mono ?_); rintro e w1 ⟨rfl, hb⟩; replace hS := hid (hS.out.call hb); clear hb)
    | (go_at_call 20; (with_reducible refine (hs.out _).mono ?_); rintro e w1 ⟨rfl, hb⟩; replace hS := hid (hS.out.call hb); clear hb)
    | (go_at_call 21; (with_reducible refine (hp.out _).mono ?_); rintro e w1 ⟨rfl, hb⟩; replace hS := hid (hS.out.call hb); clear hb))
  go_ret
  exact ⟨rfl, hS.out.bel⟩
end Go.Proofs.Ytgpjcekpmhfljaa
