/- What the proof of FnLevels leans on, part 14 of 19. -/
import Derived.Test.YthmcdfjijkecfaaGreatZFnLevelsM
import Derived.RangeFuncBox
import Derived.RangeFuncNested
import Derived.RangeFuncBound
import Derived.RangeFuncCalls
import Derived.RangeFuncLeaves
import Derived.Shelf.Abstract
import Derived.Shelf.RegionOpen
import Derived.WalkKit
import Derived.OwnWalkIn
import Derived.TacticsInMore
import Derived.LoopNIn
import Derived.LoopIn
import Derived.Maps.AppendAt
/- Cycles and orders of permutations: the program. -/
namespace Go.Proofs.YthmcdfjijkecfaaGreat
open Go.RowKit
set_option linter.unusedVariables false
set_option linter.unusedSimpArgs false
-- @LONG

/-- The cycles' lengths, ascending. -/
def cysI (p : List Nat) : List Int := srt ((cyc p).map Int.ofNat)
set_option maxHeartbeats 4000000 in
set_option maxRecDepth 100000 in
theorem cycles_any (w : World) (b0 : Nat) (v : Value) (p : List Nat) (h : Own w b0 2 v (nats p)) (hn : p.length ≤ 1000) (hlt : ∀ x, x < p.length → p.getD x 0 < p.length) :
    Calls Tryz.prog 102 #[v] w fun e w' => ∃ v', e = .returned v' ∧ Own w' w.heap.size 2 v' (ints (cysI p)) ∧ Below w.heap.size w w' := by
  have hil := nats_length p
  obtain ⟨A, cp, rfl, _, hA⟩ := h.form
  rw [hil] at h ⊢
  have hpg := hid (fun (x : Nat) (hx : x < p.length) => (show (nats p)[x]? = some (.int .i64 ((p.getD x 0 : Nat) : Int)) from by simp [nats, List.getD_eq_getElem?_getD, List.getElem?_eq_getElem hx]))
  have hplt := hid (fun (x : Nat) (hx : x < p.length) => hlt x hx)
  have hA2 := hid (fun (hx : 0 < p.length) => (show ∃ gp, A = some ⟨gp, 0, none⟩ from by
    rcases hA with ⟨_, h1, _⟩ | ⟨g, h1, _⟩
    · have : p.length = 0 := by rw [← hil, h1]; rfl
      omega
    · exact ⟨g, h1⟩))
  have hmk := fun W : World => run_make_row' (P := Tryz.prog) 53 4 (.bool false) 1 Tryz.underlying53 info_bool rfl .i64 .i64 p.length (by omega) (by omega) W
  have hmc := hid (toList_madeCells_one (.bool false) p.length)
  generalize madeCells #[.bool false] p.length = mc at *
  have hmcs := hid (show mc.size = p.length by rw [← Array.length_toList, hmc.out, List.length_replicate])
  have hS := (St.arg w h).newArr mc p.length hmcs.out 4 (by omega)
  rw [hmc.out] at hS
  have hrep : List.replicate p.length (Value.bool false) = bls (cyst p 0).1 := by simp [bls, cyst]
  rw [hrep] at hS
  replace hS := hid hS
  have hcl := hid (cyst_len p)
  have hco := hid (cyst_out p)
  have hcs := hid (fun k => (show cyst p (k + 1) = ((crun p (cyst p k).1 k).1, if 0 < (crun p (cyst p k).1 k).2 then (cyst p k).2 ++ [(crun p (cyst p k).1 k).2] else (cyst p k).2) from rfl))
  have hcb := hid (fun k => (show (crun p (cyst p k).1 k).2 ≤ p.length from by have h := crun_le p (cyst p k).1 k; rw [cyst_len] at h; exact h))
  have hseen := hid (fun s a (h : s[a]? = some true) => crun_seen (p := p) h)
  have hnew := hid (fun s a (h : s[a]? = some false) => crun_new (p := p) h)
  have hresult := hid (show (cyst p p.length).2 = cyc p from rfl)
  clear hA hil hlt hrep hmc h
  generalize hN : p.length = N at *
  replace hN := hid hN
  have hS2 := hS.out.nilOwn 2
  replace hS := hid hS2.f1
  clear hS2
  have hs0 := hid (show nats (cyst p 0).2 = [] from rfl)
  have hni := hid (nats_ints (cyc p))
  have hcyl := hid (show (cyc p).length ≤ N from by rw [← hresult.out]; exact hco.out N)
  have hsrt := hid (fun W (vo : Value) (L : List Asn) (hS : St w.heap.size w (Asn.own w.heap.size 2 vo (ints ((cyc p).map Int.ofNat)) :: L) W) => slSort_st hS (by rw [List.length_map]; have := hcyl.out; omega))
  have hci := hid (show srt ((cyc p).map Int.ofNat) = cysI p from rfl)
  go_enter Tryz.func102, Tryz.ntmps102
  go_wp2
  go_loopw [4, 13] (fun o i wr => ∃ (k : Nat) (vo : Value), k ≤ N ∧ i = .int .i64 k ∧ vo = o ∧ St w.heap.size w [Asn.own w.heap.size 4 (.slice (some ⟨w.heap.size, 0, none⟩) N N) (bls (cyst p k).1), Asn.own w.heap.size 2 vo (nats (cyst p k).2), Asn.own 0 2 (.slice A N cp) (nats p)] wr) (fun _ i _ => N - (intOf i).toNat)
  case atStart => exact ⟨0, _, Nat.zero_le _, rfl, rfl, by rw [hs0.out]; exact hS.out⟩
  case round =>
    obtain ⟨k, vo, hk, rfl, rfl, rS⟩ := hrel
    clear hS
    replace rS := hid rS
    by_cases hlk : k < N
    · have dk : decide ((k : Int) < (N : Int)) = true := decide_eq_true (by omega)
      obtain ⟨gp, rfl⟩ := hA2.out (by omega)
      clear hsrt
      go_wp2
      go_loopw [6, 7] (fun c a wr => ∃ (x C : Nat) (s : List Bool), c = .int .i64 C ∧ a = .int .i64 x ∧ x < N ∧ s.length = N ∧ Hid ((crun p s x).1 = (crun p (cyst p k).1 k).1 ∧ C + (crun p s x).2 = (crun p (cyst p k).1 k).2) ∧ St w.heap.size w [Asn.own w.heap.size 4 (.slice (some ⟨w.heap.size, 0, none⟩) N N) (bls s), Asn.own w.heap.size 2 vo (nats (cyst p k).2), Asn.own 0 2 (.slice (some ⟨gp, 0, none⟩) N cp) (nats p)] wr) (fun c _ _ => (crun p (cyst p k).1 k).2 - (intOf c).toNat)
      case atStart => exact ⟨k, 0, (cyst p k).1, rfl, rfl, hlk, hcl.out k, hid ⟨rfl, Nat.zero_add _⟩, rS.out⟩
      case round =>
        obtain ⟨x, C, s, rfl, rfl, hx, hsl, hr, rS⟩ := hrel
        have x0 : (0 : Int) ≤ (x : Int) := Int.natCast_nonneg _
        have x1 : (x : Int) < (N : Int) := by omega
        have hblen := hid (show (bls s).length = N by rw [bls_length]; exact hsl)
        by_cases hb : s[x]? = some true
        · have cs := rS.o0.cellAt x _ (bls_get hb)
          have hr2 := hr.out
          rw [hseen.out s x hb] at hr2
          obtain ⟨e1, e2⟩ := hr2
          dsimp only at e1 e2
          rw [Nat.add_zero] at e2
          replace e1 := hid e1; replace e2 := hid e2
          clear hb hr
          rw [e1.out] at rS
          replace rS := hid rS
          by_cases hz : 0 < (crun p (cyst p k).1 k).2
          · have hk1 := hid (hcs.out k)
            rw [if_pos hz] at hk1
            have hcb2 := hcb.out k
            have hol := hid (hco.out k)
            have hol2 := hid (nats_length (cyst p k).2)
            have hol3 := hol.out
            generalize hcr : crun p (cyst p k).1 k = R at *
            replace hcr := hid hcr
            have dz : decide (0 < (C : Int)) = true := decide_eq_true (by have := e2.out; omega)
            have dn : decide (0 < C) = true := decide_eq_true (by have := e2.out; omega)
            generalize hq : (cyst p k) = Q at *
            replace hq := hid hq
            go_wp2_with (first
              | ((with_reducible refine gate (N := 36) rfl ?_); refine St.app 32 2 (.int .i64 0) 8 Tryz.underlying32 info_i64 rfl (by omega) rfl _ _ rfl _ _ rfl rS.out.f1 _ rfl rfl Q.2.length hol2.out (by omega) ?_; intro gn cn w5 rS'; replace rS := hid rS'.f1; clear rS'))
            go_roundw
            case rel => exact ⟨k + 1, _, by omega, by go_num, rfl, by rw [hk1.out]; dsimp only; rw [nats_snoc, ← e2.out]; exact rS.out⟩
            case measure => simp [intOf]; omega
          · have hk1 := hid (hcs.out k)
            rw [if_neg hz] at hk1
            generalize hcr : crun p (cyst p k).1 k = R at *
            replace hcr := hid hcr
            have dz : decide (0 < (C : Int)) = false := decide_eq_false (by have := e2.out; omega)
            have dn : decide (0 < C) = false := decide_eq_false (by have := e2.out; omega)
            generalize hq : (cyst p k) = Q at *
            replace hq := hid hq
            go_wp2
            go_roundw
            case rel => exact ⟨k + 1, _, by omega, by go_num, rfl, by rw [hk1.out]; exact rS.out⟩
            case measure => simp [intOf]; omega
        · have hb2 := get_bool (by omega) hb
          have cs := rS.o0.cellAt x _ (bls_get hb2)
          have fs := Own.frozenAt rS.o0 hblen.out x
          have hr2 := hr.out
          rw [hnew.out s x hb2] at hr2
          have hbnd := hcb.out k
          have hpx := hplt.out x hx
          have hcp := hid (hpg.out x hx)
          have hset := hid (bls_set s x true)
          have hsl2 := hid (show (s.set x true).length = N by rw [List.length_set]; exact hsl)
          generalize hS1 : (crun p (cyst p k).1 k).1 = S1 at *
          generalize hC1 : (crun p (cyst p k).1 k).2 = C1 at *
          replace hS1 := hid hS1; replace hC1 := hid hC1
          generalize p.getD x 0 = px at *
          generalize s.set x true = s2 at *
          obtain ⟨e1, e2⟩ := hr2
          dsimp only at e1 e2
          generalize hcr : crun p s2 px = R at *
          replace hcr := hid hcr; replace e1 := hid e1
          clear hb hb2 hr
          replace rS := hid rS
          have mk : True := trivial
          go_wp2_with (first
            | ((with_reducible refine gate (N := 25) rfl ?_); clear mk; replace rS := hid (rS.out.setOwn hblen.out x (.bool true) hx); rw [hset.out] at rS; (have ck := rS.out.o2.cellAt x _ hcp.out); generalize wr.setCell _ _ = wx at *))
          go_roundw
          case rel => exact ⟨px, C + 1, s2, by go_num, rfl, hpx, hsl2.out, hid ⟨by rw [hcr.out]; exact e1.out, by rw [hcr.out]; omega⟩, rS.out⟩
          case measure => simp [intOf]; omega
    · obtain rfl : k = N := by omega
      have dk : decide ((k : Int) < (k : Int)) = false := decide_eq_false (by omega)
      replace rS := hid rS.out.f1
      rw [hresult.out, hni.out] at rS
      go_wp2_with (first
        | (go_at_call 197; (with_reducible refine (hsrt.out _ _ _ rS.out).mono ?_); rintro e w2 ⟨rfl, rS'⟩; replace rS := hid rS'; clear rS' hsrt))
      go_ret
      exact ⟨_, rfl, by rw [← hci.out]; exact rS.out.o0, rS.out.bel⟩
theorem cysI_nat (p : List Nat) : ∃ q : List Nat, cysI p = q.map Int.ofNat ∧ q.Perm (cyc p) := by
  have hp : (cysI p).Perm ((cyc p).map Int.ofNat) := List.mergeSort_perm _ _
  refine ⟨(cysI p).map Int.toNat, ?_, ?_⟩
  · rw [List.map_map]
    have : ∀ x ∈ cysI p, (Int.ofNat ∘ Int.toNat) x = x := fun x hx => by
      obtain ⟨c, _, rfl⟩ := List.mem_map.1 (hp.mem_iff.1 hx)
      rfl
    rw [List.map_congr_left this, List.map_id']
  · have h := hp.map Int.toNat
    rw [List.map_map] at h
    have e : (Int.toNat ∘ Int.ofNat) = (id : Nat → Nat) := funext fun x => rfl
    rw [e, List.map_id] at h
    exact h
theorem ordL_take {q : List Nat} {k c : Nat} (h : q[k]? = some c) : ordL (q.take (k + 1)) = Nat.lcm (ordL (q.take k)) c := by
  unfold ordL
  rw [List.take_add_one, h]
  simp
set_option maxHeartbeats 4000000 in
set_option maxRecDepth 100000 in
theorem order_any (w : World) (b0 : Nat) (v : Value) (p : List Nat) (h : Own w b0 2 v (nats p)) (hn : p.length ≤ 1000) (hlt : ∀ x, x < p.length → p.getD x 0 < p.length) (K : Nat) (hK0 : 0 < K) (hK : K < 1000000000) (hdv : ∀ c ∈ cyc p, c ∣ K) :
    Calls Tryz.prog 100 #[v] w fun e w' => e = .returned (.int .i64 (ordL (cyc p) : Nat)) ∧ Below w.heap.size w w' := by
  have hcy := hid (cycles_any w b0 v p h hn hlt)
  obtain ⟨q, hq, hqp⟩ := cysI_nat p
  rw [hq, ← nats_ints] at hcy
  have hord := hid (show ordL (cyc p) = ordL (q.take q.length) from by rw [List.take_length]; exact ordL_congr fun c => hqp.mem_iff.symm)
  rw [hord.out]
  have hqb := hid (fun k c (hc : q[k]? = some c) => (show 0 < c from by
    have hm := hqp.mem_iff.1 (List.mem_of_getElem? hc)
    exact (cyst_pos p p.length c hm).1))
  have hqd := hid (fun k => (show ordL (q.take k) ∣ K from ordL_dvd fun c hc => hdv c (hqp.mem_iff.1 (List.mem_of_mem_take hc))))
  have hpos := hid (fun k => Nat.pos_of_dvd_of_pos (hqd.out k) hK0)
  have hle := hid (fun k => Nat.le_of_dvd hK0 (hqd.out k))
  have hst := hid (fun k c (hc : q[k]? = some c) => ordL_take hc)
  have hl := hid (nats_length q)
  have hql : q.length ≤ 1000 := by rw [hqp.length_eq]; have := cyst_out p p.length; unfold cyc; omega
  have hmu := hid (fun k c (hc : q[k]? = some c) W => (by
    have h := multiple_any (ordL (q.take k)) c (hpos.out k) (hqb.out k c hc) (by rw [← hst.out k c hc]; have := hle.out (k + 1); omega) W
    rw [← hst.out k c hc] at h; exact h : Calls Tryz.prog 196 #[.int .i64 (ordL (q.take k) : Nat), .int .i64 (c : Nat)] W fun e w' => e = .returned (.int .i64 (ordL (q.take (k + 1)) : Nat)) ∧ Below W.heap.size W w'))
  have h0 := hid (show ordL (q.take 0) = 1 from rfl)
  have hng := hid (fun (k c : Nat) (hc : q[k]? = some c) => (show (nats q)[k]? = some (.int .i64 (c : Nat)) by simp [nats, hc]))
  obtain ⟨F, hF⟩ : ∃ F : Nat → Nat, F = fun k => ordL (q.take k) := ⟨_, rfl⟩
  have hFe := hid (fun k => (show ordL (q.take k) = F k by rw [hF]))
  simp only [hFe.out] at hmu h0 hle ⊢
  clear hF hFe hst hord hqd hpos hqb h
  generalize hN : q.length = N at *
  replace hN := hid hN
  go_enter Tryz.func100, Tryz.ntmps100
  go_wp2_with (first
    | (go_at_call 102; (with_reducible refine (hcy.out).mono ?_); rintro e w1 ⟨v1, rfl, hO, hb⟩; obtain ⟨A, cp, rfl, _, hA⟩ := hO.form; rw [hl.out]; rw [hl.out] at hO; replace hO := hid hO; replace hA := hid hA; have hB := hid hb; clear hcy hb))
  go_loopw [3, 9] (fun o i wr => ∃ k : Nat, k ≤ N ∧ i = .int .i64 k ∧ o = .int .i64 (F k : Nat) ∧ Hid (Below w1.heap.size w1 wr)) (fun _ i _ => N - (intOf i).toNat)
  case atStart => exact ⟨0, Nat.zero_le _, rfl, by rw [h0.out]; rfl, Below.refl _ _⟩
  case round =>
    obtain ⟨k, hk, rfl, rfl, rB⟩ := hrel
    by_cases hlt : k < N
    · have dk : decide ((k : Int) < (N : Int)) = true := decide_eq_true (by omega)
      obtain ⟨c, hc⟩ : ∃ c, q[k]? = some c := ⟨_, List.getElem?_eq_getElem (by rw [hN.out]; exact hlt)⟩
      obtain ⟨g, rfl⟩ : ∃ g, A = some ⟨g, 0, none⟩ := by
        rcases hA.out with ⟨_, h1, _⟩ | ⟨g, h1, _⟩
        · have : N = 0 := by rw [← hl.out, h1]; rfl
          omega
        · exact ⟨g, h1⟩
      have ck := (hO.out.below rB.out).cellAt k _ (hng.out k c hc)
      have hmk := hid (hmu.out k c hc)
      generalize hfk1 : F (k + 1) = fk1 at *
      replace hfk1 := hid hfk1
      generalize F k = fk at *
      clear hc
      go_wp2_with (first
        | (go_at_call 196; (with_reducible refine (hmk.out _).mono ?_); rintro e w2 ⟨rfl, hb⟩; replace rB := hid (rB.out.trans (hb.mono rB.out.size)); clear hb))
      go_roundw
      case rel => exact ⟨k + 1, by omega, by go_num, by rw [hfk1.out], rB⟩
      case measure => simp [intOf]; omega
    · obtain rfl : k = N := by omega
      have dk : decide ((k : Int) < (k : Int)) = false := decide_eq_false (by omega)
      go_wp2
      go_ret
      exact ⟨rfl, hB.out.trans (rB.out.mono hB.out.size)⟩
end Go.Proofs.YthmcdfjijkecfaaGreat

/- slices.Sorted(slices.Values(..)) over []int64. -/
namespace Go.Proofs.YthmcdfjijkecfaaGreat
open Go.RowKit Go.Shelf
set_option linter.unusedVariables false
set_option linter.unusedSimpArgs false

attribute [local go_sem] Oper.semAt_some

/-- What has come when k rounds are over. -/
def upI (zs : List Int) (k : Nat) : List Int := (List.range k).map fun j => zs[j]?.getD 0
theorem upI_succ (zs : List Int) (k : Nat) : upI zs (k + 1) = upI zs k ++ [zs[k]?.getD 0] := by simp [upI, List.range_succ]
theorem upI_length (zs : List Int) (k : Nat) : (upI zs k).length = k := by simp [upI]
theorem upI_take (zs : List Int) {k : Nat} (hk : k ≤ zs.length) : upI zs k = zs.take k := by
  apply List.ext_getElem
  · simp [upI, hk]
  · intro i h1 h2
    have : i < zs.length := by simp [upI] at h1; omega
    simp [upI, this]
/-- A slice value holds numbers, in a block below n₀; or it is nil. -/
def HasI (n₀ : Nat) (W : World) (sv : Value) (zs : List Int) : Prop :=
  (sv = .slice none 0 0 ∧ zs = []) ∨ ∃ b cap, sv = .slice (some ⟨b, 0, none⟩) zs.length cap ∧ b < n₀ ∧ ∀ j, j < zs.length → W.cell? ⟨b, j, none⟩ = some (.int .i64 (zs[j]?.getD 0))
theorem HasI.below {n₀ : Nat} {A B : World} (h : Below n₀ A B) {sv : Value} {zs : List Int} : HasI n₀ A sv zs → HasI n₀ B sv zs
  | .inl e => .inl e
  | .inr ⟨b, cap, e, hb, hc⟩ => .inr ⟨b, cap, e, hb, fun j hj => (h.cell (p := ⟨b, j, none⟩) hb).trans (hc j hj)⟩
set_option maxRecDepth 100000 in
set_option maxHeartbeats 2000000 in
theorem vals1_in (F : Fence) (n : Nat) (hf : F.fn 240) (hro : F.round = none) (hn : 1 ≤ n) (l Bs n₀ b len cap : Nat) (zs : List Int) (hreach : len ≤ 1000000) (hb : b < n₀) (J Jx : List Int → World → Prop)
    (hY : ∀ pre x W, J pre W → pre.length < len → YieldAt F (n - 1) Tryz.prog l #[.int .i64 x] W fun e W' =>
      (e = .returned (.bool true) ∧ J (pre ++ [x]) W' ∧ Below n₀ W W') ∨ (e = .returned (.bool false) ∧ Jx (pre ++ [x]) W'))
    (W : World) (hBs : W.cell? ⟨Bs, 0, none⟩ = some (.slice (some ⟨b, 0, none⟩) len cap)) (hc : ∀ j, j < len → W.cell? ⟨b, j, none⟩ = some (.int .i64 (zs[j]?.getD 0))) (h0 : J [] W) :
    CallsIn F n Tryz.prog 240 #[.func (.yield l) #[] #[], .pointer (some ⟨Bs, 0, none⟩)] W fun e W' => (∃ v, e = .returned v) ∧
      ((∃ ys, ys = upI zs len ∧ J ys W') ∨ (∃ pre, (∃ k, k ≤ len ∧ pre = upI zs k) ∧ Jx pre W')) := by
  refine callsIn_of_wp Tryz.func240 rfl hf ?_ hro
  simp only [Tryz.ntmps240, List.size_toArray, List.length_cons, List.length_nil, Nat.reduceAdd, Nat.reduceSub, Array.replicate_succ, Array.replicate_zero, List.push_toArray, List.append_toArray, List.nil_append, List.cons_append]
  gi_wp2
  gi_loopw [7] (fun i wr => ∃ k : Nat, k ≤ len ∧ i = .int .i64 k ∧ J (upI zs k) wr ∧ Below n₀ W wr)
    (fun i _ => len - (intOf i).toNat)
  case atStart => exact ⟨0, Nat.zero_le _, rfl, h0, Below.refl _ _⟩
  case round =>
    obtain ⟨k, hk, rfl, hJs, hnx⟩ := hrel
    have hcx : k < len → wr.cell? ⟨b, k, none⟩ = some (.int .i64 (zs[k]?.getD 0)) := fun h => (hnx.cell (p := ⟨b, k, none⟩) hb).trans (hc k h)
    by_cases hlt : k < len
    · obtain ⟨fn, tmps, assign, body, hy, hR⟩ := hY _ (zs[k]?.getD 0) wr hJs (by rw [upI_length]; exact hlt)
      have hcx' := hcx hlt
      gi_wp2
      refine hR.mono ?_
      rintro e W3 (⟨rfl, hJ3, hk3⟩ | ⟨rfl, hJx3⟩)
      · gi_wp2
        go_roundw
        case rel => exact ⟨k + 1, by omega, by simp, by rw [upI_succ]; exact hJ3, hnx.trans hk3⟩
        case measure => simp [intOf]; omega
      · gi_wp2
        refine bodyPost_ret (results_none rfl _ _ _) rfl ?_
        exact ⟨⟨_, rfl⟩, .inr ⟨_, ⟨k + 1, by omega, (upI_succ _ _).symm⟩, hJx3⟩⟩
    · obtain rfl : k = len := by omega
      gi_wp2
      go_end0
      exact ⟨⟨_, rfl⟩, .inl ⟨_, rfl, hJs⟩⟩
set_option maxRecDepth 100000 in
set_option maxHeartbeats 1000000 in
theorem vals1_nil_in (F : Fence) (n : Nat) (hf : F.fn 240) (hro : F.round = none) (l Bs : Nat) (J : List Int → World → Prop) (W : World) (hBs : W.cell? ⟨Bs, 0, none⟩ = some (.slice none 0 0)) (h0 : J [] W) :
    CallsIn F n Tryz.prog 240 #[.func (.yield l) #[] #[], .pointer (some ⟨Bs, 0, none⟩)] W fun e W' => (∃ v, e = .returned v) ∧ J [] W' := by
  refine callsIn_of_wp Tryz.func240 rfl hf ?_ hro
  simp only [Tryz.ntmps240, List.size_toArray, List.length_cons, List.length_nil, Nat.reduceAdd, Nat.reduceSub, Array.replicate_succ, Array.replicate_zero, List.push_toArray, List.append_toArray, List.nil_append, List.cons_append]
  gi_wp2
  gi_loopw [7] (fun i wr => i = .int .i64 0 ∧ J [] wr) (fun _ _ => 0)
  case atStart => exact ⟨rfl, h0⟩
  case round =>
    obtain ⟨rfl, hJs⟩ := hrel
    gi_wp2
    go_end0
    exact ⟨⟨_, rfl⟩, hJs⟩
theorem vals_stops (F : Fence) (n : Nat) (hf : F.fn 240) (hro : F.round = none) (hn : 1 ≤ n) (Bs n₀ : Nat) (sv : Value) (zs : List Int) (hreach : zs.length ≤ 1000000) (w : World) (hBs : Bs < w.heap.size) (hn₀ : n₀ ≤ w.heap.size)
    (hc : w.cell? ⟨Bs, 0, none⟩ = some sv) (hI : HasI n₀ w sv zs) :
    SeqStopsK F n Tryz.prog 240 #[.pointer (some ⟨Bs, 0, none⟩)] (fun x : Int => #[Value.int .i64 x]) (Below n₀) (fun ys => ys = zs) (fun pre => pre <+: zs) zs.length w := fun l J Jx W hW _ _ hY h0 => by
  have hc' := (hW.cell (p := ⟨Bs, 0, none⟩) hBs).trans hc
  rcases hI.below (hW.mono hn₀) with ⟨rfl, rfl⟩ | ⟨b, cap, rfl, hb, hcs⟩
  · exact (vals1_nil_in F n hf hro l Bs J W hc' h0).mono fun e W' ⟨he, hj⟩ => ⟨he, .inl ⟨_, rfl, hj⟩⟩
  · refine (vals1_in F n hf hro hn l Bs n₀ b zs.length cap zs hreach hb J Jx hY W hc' hcs h0).mono ?_
    rintro e W' ⟨he, ⟨ys, rfl, hj⟩ | ⟨pre, ⟨k, hk, rfl⟩, hj⟩⟩
    · exact ⟨he, .inl ⟨_, by rw [upI_take zs (Nat.le_refl _), List.take_length], hj⟩⟩
    · exact ⟨he, .inr ⟨_, by rw [upI_take zs hk]; exact List.take_prefix _ _, hj⟩⟩
set_option maxHeartbeats 1000000 in
theorem vals_any (sv : Value) (w : World) (hsv : ∃ a len cap, sv = .slice a len cap) :
    Calls Tryz.prog 206 #[sv] w fun e w' => e = .returned (.func (.func 240) #[] #[.pointer (some ⟨w.heap.size, 0, none⟩)]) ∧ w' = w.alloc (.cells #[sv] 32) := by
  obtain ⟨a, len, cap, rfl⟩ := hsv
  have hmf : ∀ (fn : Fn) (first cap : Array Value) (w : World), (Instr.makeFunc fn first cap).run Tryz.prog w = .ok (.func fn first cap) w := fun _ _ _ _ => rfl
  go_enter Tryz.func206, Tryz.ntmps206
  go_wp2
  go_ret
  exact ⟨rfl, rfl⟩
theorem infoI : (Tryz.prog.info? 2).map (fun i => (i.zero, i.size, i.bytes)) = some (some (.int .i64 0), 1, 8) := by kernel_rfl
set_option maxRecDepth 100000 in
set_option maxHeartbeats 2000000 in
theorem apSeq_in (F : Fence) (n : Nat) (hf : F.fn 265) (hfv : F.fn 240) (hro : F.round = none) (hn : 3 ≤ n) (Bs : Nat) (sv : Value) (zs : List Int) (hlen : zs.length ≤ 1000000) (w : World) (hBs : Bs < w.heap.size) (hc : w.cell? ⟨Bs, 0, none⟩ = some sv) (hI : HasI w.heap.size w sv zs) :
    CallsIn F n Tryz.prog 265 #[.slice none 0 0, .func (.func 240) #[] #[.pointer (some ⟨Bs, 0, none⟩)]] w fun e W' => ∃ v, e = .returned v ∧ W'.ownsRow w.heap.size 2 1 v zs.length (zs.map (Value.int .i64)) ∧ Below w.heap.size w W' := by
  have h1 : 1 ≤ n := by omega
  have hmaxl : 1000001 ≤ maxLen := by simp only [maxLen]; omega
  obtain ⟨i0, hi, hz0, hz1, hz2⟩ := info_parts infoI
  refine callsIn_of_wp_marks Tryz.func265 rfl hf ?_ hro
  simp only [Tryz.ntmps265, List.size_toArray, List.length_cons, List.length_nil, Nat.reduceAdd, Nat.reduceSub, Array.replicate_succ, Array.replicate_zero, List.push_toArray, List.append_toArray, List.nil_append, List.cons_append]
  gi_wp2
  have bO := Boxed.new w 32 (.slice none 0 0)
  have hB0 : Below w.heap.size w (w.alloc (.cells #[.slice none 0 0] 32)) := (Below.refl _ w).alloc (Nat.le_refl _) _
  refine wpIn_rangeFunc_ownG hro h1 (gf := 240) (lb := #[.pointer (some ⟨Bs, 0, none⟩)]) rfl hfv (enters_of Tryz.func240 (by kernel_rfl) rfl)
    (vals_stops F (n - 1) hfv hro (by omega) Bs w.heap.size sv zs hlen _ (by simp; omega) (by simp) ((hB0.cell (p := ⟨Bs, 0, none⟩) hBs).trans hc) (hI.below hB0)) belowK_t (belowK_b (by simp)) (Below.refl _ _) (fun _ => rfl)
    (fun pre W => (∃ v, Boxed W w.heap.size 32 v ∧ W.ownsRow w.heap.size 2 1 v pre.length (pre.map (Value.int .i64)) ∧ True) ∧ Below w.heap.size w W)
    (fun _ _ _ => False)
    (OwnFrom.and (Own.from (holdsRow_own w.heap.size w.heap.size 32 2 1 (fun pre : List Int => pre.length) (fun pre : List Int => pre.map (Value.int .i64)) (fun _ _ => True)) _) (ownFrom_below (Nat.le_refl _) (by simp)))
    (fun _ _ _ _ _ hs _ _ => hs)
    ⟨⟨_, bO, World.ownsRow_nil _ _ _ _, trivial⟩, hB0⟩
    (fun x => { tmps := #[.slice none 0 0, .func (.func 240) #[] #[.pointer (some ⟨Bs, 0, none⟩)], .pointer (some ⟨w.heap.size, 0, none⟩), undef, .slice none 0 0, .int .i64 x, .func (.func 240) #[] #[.pointer (some ⟨Bs, 0, none⟩)], .int .i64 x, undef, undef, undef, undef, undef], defers := [] }) ?assign ?body ?done ?stop
  case assign =>
    intro l x W K hK
    gi_wp2
    exact hK
  case body =>
    rintro l pre x W ⟨⟨v, hv, hrow, _⟩, hB⟩ hlt
    have hc := hv.cell
    gi_wp2_with (gi_at_builtin; refine wpListIn_append_own _ rfl _ _ 32 rfl w.heap.size 2 i0 (.int .i64 0) 1 8 Tryz.underlying32 hi hz0 hz1 hz2 rfl (by decide) _ _ _ rfl (hrow.alloc _) ⟨W.heap.size, 0, none⟩ 1 1 [.int .i64 x] rfl rfl (cell_one_new _ _ _) (by simp [Value.oneCell']) (by omega) (by omega) (by have := hB.size; simp; omega) ?_; intro v' w1 hown' hgrow _; obtain ⟨g', cap', rfl⟩ := ownsRow_succ hown'; obtain ⟨hv1, hv2, hr2, hk2, hb2⟩ := hv.appended (by decide) hrow hB.size (Nat.le_refl _) hown' hgrow; have hc1 := hv1.cell; have hf1 := hv1.frozen)
    exact ⟨hk2.from _, hb2, ⟨_, hv2, by simpa using hr2, trivial⟩, hB.trans hb2⟩
  case done =>
    rintro D ys W hD rfl ⟨⟨v, hv, hrow, _⟩, hB⟩ hK
    have hc := hv.cell
    gi_wp2
    refine ⟨by simp, .inl ⟨_, _, rfl, run_takeDeferred hK, ?_⟩⟩
    exact ⟨_, results_tmp rfl _ _ _, v, rfl, ownsRow_putObj hrow _ hK rfl, hB.trans (belowK_b (w := w) (Nat.le_refl _) W D _ _ (by simp at hD; omega) hK rfl rfl)⟩
  case stop =>
    rintro D c pre W _ _ h _
    exact h.elim
theorem apSeq_any (Bs : Nat) (sv : Value) (zs : List Int) (hlen : zs.length ≤ 1000000) (w : World) (hBs : Bs < w.heap.size) (hc : w.cell? ⟨Bs, 0, none⟩ = some sv) (hI : HasI w.heap.size w sv zs) :
    Calls Tryz.prog 265 #[.slice none 0 0, .func (.func 240) #[] #[.pointer (some ⟨Bs, 0, none⟩)]] w fun e w' => ∃ v, e = .returned v ∧ Own w' w.heap.size 2 v (ints zs) ∧ Below w.heap.size w w' :=
  ((callsIn_wide (n := 3)).1 (apSeq_in Fence.wide 3 trivial trivial rfl (by omega) Bs sv zs hlen w hBs hc hI)).mono fun e w' ⟨v, h1, h2, h3⟩ => ⟨v, h1, by
    unfold Own
    rw [ints_length]
    exact h2, h3⟩
set_option maxHeartbeats 1000000 in
theorem collect_any (Bs : Nat) (sv : Value) (zs : List Int) (hlen : zs.length ≤ 1000000) (w : World) (hBs : Bs < w.heap.size) (hc : w.cell? ⟨Bs, 0, none⟩ = some sv) (hI : HasI w.heap.size w sv zs) :
    Calls Tryz.prog 239 #[.func (.func 240) #[] #[.pointer (some ⟨Bs, 0, none⟩)]] w fun e w' => ∃ v, e = .returned v ∧ Own w' w.heap.size 2 v (ints zs) ∧ Below w.heap.size w w' := by
  have ha := hid (apSeq_any Bs sv zs hlen w hBs hc hI)
  replace hI := hid hI
  go_enter Tryz.func239, Tryz.ntmps239
  go_wp2_with (first
    | (go_at_call 265; (with_reducible refine (ha.out).mono ?_); rintro e w1 ⟨v, rfl, hO, hb⟩; replace hO := hid hO; replace hb := hid hb))
  go_ret
  exact ⟨v, rfl, hO.out, hb.out⟩
set_option maxHeartbeats 1000000 in
theorem sorted_any (Bs : Nat) (sv : Value) (zs : List Int) (hlen : zs.length < 1000000) (w : World) (hBs : Bs < w.heap.size) (hc : w.cell? ⟨Bs, 0, none⟩ = some sv) (hI : HasI w.heap.size w sv zs) :
    Calls Tryz.prog 205 #[.func (.func 240) #[] #[.pointer (some ⟨Bs, 0, none⟩)]] w fun e w' => ∃ v, e = .returned v ∧ Own w' w.heap.size 2 v (ints (srt zs)) ∧ Below w.heap.size w w' := by
  have ha := hid (collect_any Bs sv zs (by omega) w hBs hc hI)
  replace hI := hid hI
  have hS := hid (St.start w)
  have hsrt := hid (fun W (vo : Value) (L : List Asn) (hS : St w.heap.size w (Asn.own w.heap.size 2 vo (ints zs) :: L) W) => slSort_st hS hlen)
  go_enter Tryz.func205, Tryz.ntmps205
  go_wp2_with (first
    | (go_at_call 239; (with_reducible refine (ha.out).mono ?_); rintro e w1 ⟨v, rfl, hO, hb⟩; replace hS := hid (hS.out.callOwn hb hO); clear hO hb)
    | (go_at_call 197; (with_reducible refine (hsrt.out _ _ _ hS.out).mono ?_); rintro e w2 ⟨rfl, rS'⟩; replace hS := hid rS'; clear rS' hsrt))
  go_ret
  exact ⟨v, rfl, hS.out.o0, hS.out.bel⟩
end Go.Proofs.YthmcdfjijkecfaaGreat

/- Orbits of a level: the program. -/
namespace Go.Proofs.YthmcdfjijkecfaaGreat
open Go.RowKit
set_option linter.unusedVariables false
set_option linter.unusedSimpArgs false
-- @LONG

def mkAll (s : List Bool) (o : List Nat) : List Bool := o.foldl (fun s x => s.set x true) s
theorem mkAll_len (o : List Nat) : ∀ s, (mkAll s o).length = s.length := by
  induction o with
  | nil => intro s; rfl
  | cons x o ih => intro s; show (mkAll (s.set x true) o).length = _; rw [ih, List.length_set]
theorem mkAll_snoc (s : List Bool) (o : List Nat) (x : Nat) : mkAll s (o ++ [x]) = (mkAll s o).set x true := by simp [mkAll]
theorem mkAll_take {s : List Bool} {o : List Nat} {j x : Nat} (h : o[j]? = some x) : mkAll s (o.take (j + 1)) = (mkAll s (o.take j)).set x true := by
  rw [List.take_add_one, h]; exact mkAll_snoc _ _ _
/-- The words that a tree reaches. -/
def orbT (far : List Int) (n : Nat) : List Nat := (List.range n).filter fun i => decide (0 ≤ far.getD i 0)
def natI (l : List Nat) : List Int := l.map Int.ofNat
theorem natI_length (l : List Nat) : (natI l).length = l.length := by simp [natI]
/-- What is met, and the orbits, before k. -/
def orbS (f : Nat → List Nat) (n : Nat) : Nat → List Bool × List (List Int)
  | 0 => (List.replicate n false, [])
  | k + 1 => if (orbS f n k).1.getD k false = true then orbS f n k else (mkAll (orbS f n k).1 (f k), (orbS f n k).2 ++ [natI (f k)])
theorem orbS_len (f : Nat → List Nat) (n : Nat) : ∀ k, (orbS f n k).1.length = n
  | 0 => by simp [orbS]
  | k + 1 => by
    rw [orbS]
    split
    · exact orbS_len f n k
    · show (mkAll _ _).length = n; rw [mkAll_len]; exact orbS_len f n k
theorem orbS_out (f : Nat → List Nat) (n : Nat) : ∀ k, (orbS f n k).2.length ≤ k
  | 0 => by simp [orbS]
  | k + 1 => by
    have := orbS_out f n k
    rw [orbS]
    split
    · omega
    · simp; omega
theorem orbS_rows {f : Nat → List Nat} {n b : Nat} (h : ∀ k, k < n → (f k).length ≤ b) : ∀ k, k ≤ n → ∀ r ∈ (orbS f n k).2, r.length ≤ b
  | 0, _, r, hr => by simp [orbS] at hr
  | k + 1, hk, r, hr => by
    rw [orbS] at hr
    split at hr
    · exact orbS_rows h k (by omega) r hr
    · rcases List.mem_append.1 hr with hr | hr
      · exact orbS_rows h k (by omega) r hr
      · rw [List.mem_singleton.1 hr, natI_length]; exact h k (by omega)
theorem orbS_met {f : Nat → List Nat} {n k : Nat} (h : (orbS f n k).1[k]? = some true) : orbS f n (k + 1) = orbS f n k := by
  rw [orbS, if_pos (by rw [List.getD_eq_getElem?_getD, h]; rfl)]
theorem orbS_new {f : Nat → List Nat} {n k : Nat} (h : (orbS f n k).1[k]? = some false) : orbS f n (k + 1) = (mkAll (orbS f n k).1 (f k), (orbS f n k).2 ++ [natI (f k)]) := by
  rw [orbS, if_neg (by rw [List.getD_eq_getElem?_getD, h]; exact Bool.false_ne_true)]
theorem orbT_lt {far : List Int} {n : Nat} : ∀ x ∈ orbT far n, x < n := fun x hx => List.mem_range.1 (List.mem_filter.1 hx).1
theorem orbT_len (far : List Int) (n : Nat) : (orbT far n).length ≤ n := Nat.le_trans (List.length_filter_le _ _) (by simp)
theorem orbT_srt {n : Nat} {t : Tr} (h : TrOk n t) : srt (natI t.q) = natI (orbT t.far n) := by
  have hmem : ∀ x, x ∈ orbT t.far n ↔ x ∈ t.q := fun x => by
    unfold orbT
    rw [List.mem_filter, List.mem_range]
    constructor
    · rintro ⟨hx, hd⟩
      have hg : t.far[x]? = some (t.far.getD x 0) := by rw [List.getD_eq_getElem?_getD, List.getElem?_eq_getElem (by rw [h.fl]; exact hx)]; rfl
      have hd' : 0 ≤ t.far.getD x 0 := of_decide_eq_true hd
      rcases h.fb x _ hg with ⟨h1, _⟩ | ⟨h1, _⟩
      · omega
      · exact h1
    · intro hx
      have hb := h.qb x hx
      have hg : t.far[x]? = some (t.far.getD x 0) := by rw [List.getD_eq_getElem?_getD, List.getElem?_eq_getElem (by rw [h.fl]; exact hb)]; rfl
      refine ⟨hb, decide_eq_true ?_⟩
      rcases h.fb x _ hg with ⟨_, h1⟩ | ⟨_, h1, _⟩
      · exact absurd hx h1
      · exact h1
  have hnd : (orbT t.far n).Nodup := List.Nodup.sublist List.filter_sublist List.nodup_range
  have hp : (orbT t.far n).Perm t.q := (List.perm_ext_iff_of_nodup hnd h.nd).2 hmem
  have hs : (natI (orbT t.far n)).Pairwise (· ≤ ·) := by
    unfold natI
    rw [List.pairwise_map]
    have h1 : (List.range n).Pairwise fun a b => Int.ofNat a ≤ Int.ofNat b := List.pairwise_lt_range.imp fun h => by simp only [Int.ofNat_eq_natCast]; omega
    exact h1.filter _
  exact (srt_eq (hp.map _) hs).symm
theorem hasI_of_own {w : World} {b0 : Nat} {v : Value} {l : List Int} (h : Own w b0 2 v (ints l)) : HasI w.heap.size w v l := by
  obtain ⟨A, c, rfl, _, hA⟩ := h.form
  rw [ints_length] at *
  rcases hA with ⟨rfl, he, rfl⟩ | ⟨g, rfl, _, hlt, hc⟩
  · have e : l = [] := by cases l with
      | nil => rfl
      | cons a t => simp [ints] at he
    subst e
    exact .inl ⟨rfl, rfl⟩
  · refine .inr ⟨g, c, rfl, hlt, fun j hj => ?_⟩
    have hx : l[j]? = some l[j] := List.getElem?_eq_getElem hj
    rw [hx]
    exact hc j _ (by simp [ints, hx])
theorem St.nilMat {base : Nat} {w0 w : World} {L : List Asn} (h : St base w0 L w) : St base w0 (Asn.mat base (.slice none 0 0) [] [] :: L) w :=
  h.push (a := Asn.mat base (.slice none 0 0) [] []) ⟨Own.nil _ _ _, rfl, fun i r l hr => by simp at hr⟩ fun k hk => by
    rcases hk with hk | ⟨r, hr, _⟩
    · simp [Value.ownBlock] at hk
    · cases hr
theorem sortedVals (W : World) (b0 : Nat) (vq : Value) (zs : List Int) (hO : Own W b0 2 vq (ints zs)) (hl : zs.length < 1000000) :
    Calls Tryz.prog 205 #[.func (.func 240) #[] #[.pointer (some ⟨W.heap.size, 0, none⟩)]] (W.alloc (.cells #[vq] 32)) fun e w' => ∃ v, e = .returned v ∧ Own w' (W.alloc (.cells #[vq] 32)).heap.size 2 v (ints (srt zs)) ∧ Below (W.alloc (.cells #[vq] 32)).heap.size (W.alloc (.cells #[vq] 32)) w' := by
  have hc : (W.alloc (.cells #[vq] 32)).cell? ⟨W.heap.size, 0, none⟩ = some vq := cell_of_row _ _ 0 _ _ _ (World.alloc_heap_new W _)
  have hlt : W.heap.size < (W.alloc (.cells #[vq] 32)).heap.size := by rw [heap_alloc_size]; omega
  have hB : Below W.heap.size W (W.alloc (.cells #[vq] 32)) := below_alloc (Below.refl _ _) (Nat.le_refl _) _
  exact sorted_any W.heap.size vq zs hl _ hlt hc (hasI_of_own (hO.below hB))
/-- No two rows share a block. -/
def Dj (rows : List Value) : Prop := rows.Pairwise fun r r' => ∀ k, r.ownBlock = some k → r'.ownBlock ≠ some k
theorem St.djSnoc {base t : Nat} {w0 w : World} {L : List Asn} {v r : Value} {rows : List Value} {M : List (List Int)} {cs : List Value} (h : St base w0 (Asn.mat base v rows M :: Asn.own base t r cs :: L) w) (hd : Dj rows) : Dj (rows ++ [r]) := by
  unfold Dj
  rw [List.pairwise_append]
  refine ⟨hd, List.pairwise_singleton _ _, fun a ha b hb k hk hk' => ?_⟩
  rw [List.mem_singleton.1 hb] at hk'
  exact h.star.2.1 k (.inr ⟨a, ha, hk⟩) (.inl hk')
/-- A slice of slices, its rows apart. -/
def MatD (w : World) (base : Nat) (v : Value) (M : List (List Int)) : Prop := ∃ rows, (Asn.mat base v rows M).holds w ∧ Dj rows
theorem MatD.mat {w : World} {base : Nat} {v : Value} {M : List (List Int)} (h : MatD w base v M) : Mat w base v M := h.elim fun _ h => Asn.toMat h.1
theorem MatD.mono {w : World} {base b' : Nat} {v : Value} {M : List (List Int)} (h : MatD w base v M) (hb : b' ≤ base) : MatD w b' v M := by
  obtain ⟨rows, ⟨h1, h2, h3⟩, hd⟩ := h
  exact ⟨rows, ⟨h1.mono hb, h2, fun i r l hr hl => (h3 i r l hr hl).mono hb⟩, hd⟩
set_option maxHeartbeats 4000000 in
set_option maxRecDepth 100000 in
theorem orbits_any (w : World) (G n s : Nat) (vA vB : Value) (A B : List (List Int)) (hG : GB w G n vA vB A B) (hf : Few n) (hA : A.length = s) (hB : B.length = s) (h1 : 1 ≤ s) (h16 : s ≤ 16) (T : Nat → Nat → Nat)
    (hTA : ∀ p, p < s → ∃ row, A[p]? = some row ∧ row.length = n ∧ ∀ i, i < n → row[i]? = some ((T p i : Nat) : Int)) (hTB : ∀ p, p < s → ∃ row, B[p]? = some row ∧ row.length = n ∧ ∀ i, i < n → row[i]? = some ((T (s + p) i : Nat) : Int))
    (hT : ∀ j fr, j < 2 * s → fr < n → T j fr < n) (hn : n ≤ 243) :
    Calls Tryz.prog 115 #[.pointer (some ⟨G, 0, none⟩)] w fun e w' => ∃ v, e = .returned v ∧ MatD w' w.heap.size v (orbS (fun k => orbT (treeT T s n k).far n) n n).2 ∧ Below w.heap.size w w' := by
  have htr := hid (fun k (hk : k < n) W (hW : Below w.heap.size w W) => tree_any W G n s k vA vB A B (hG.below hW) hf hk hA hB h1 h16 T hTA hTB hT)
  have hok := hid (fun k (hk : k < n) => (show TrOk n (treeT T s n k) from growT_ok hk hT _))
  have hsq := hid (fun k (hk : k < n) => orbT_srt (hok.out k hk))
  have hql := hid (fun k (hk : k < n) => (hok.out k hk).ql)
  have hmk := fun W : World => run_make_row' (P := Tryz.prog) 53 4 (.bool false) 1 Tryz.underlying53 info_bool rfl .i64 .i64 n (by omega) (by omega) W
  have hmc := hid (toList_madeCells_one (.bool false) n)
  generalize madeCells #[.bool false] n = mc at *
  have hmcs := hid (show mc.size = n by rw [← Array.length_toList, hmc.out, List.length_replicate])
  have hS := (St.start w).newArr mc n hmcs.out 4 (by omega)
  rw [hmc.out] at hS
  obtain ⟨f, hfd⟩ : ∃ f : Nat → List Nat, f = fun k => orbT (treeT T s n k).far n := ⟨_, rfl⟩
  have hfe := hid (fun k => (show orbT (treeT T s n k).far n = f k by rw [hfd]))
  have hflt := hid (fun k x (hx : x ∈ f k) => (show x < n from by rw [← hfe.out k] at hx; exact orbT_lt x hx))
  have hfl := hid (fun k => (show (f k).length ≤ n from by rw [← hfe.out k]; exact orbT_len _ _))
  simp only [hfe.out] at hsq ⊢
  rw [show (fun k => f k) = f from rfl]
  clear hfd hfe
  have hrep : List.replicate n (Value.bool false) = bls (orbS f n 0).1 := by simp [bls, orbS]
  rw [hrep] at hS
  have hS0 := hid (show Asn.mat w.heap.size (.slice none 0 0) [] [] = Asn.mat w.heap.size (.slice none 0 0) [] (orbS f n 0).2 from rfl)
  replace hS := hid hS.nilMat
  rw [hS0.out] at hS
  have hsl := hid (orbS_len f n)
  have hso := hid (orbS_out f n)
  have hmet := hid (fun k (h : (orbS f n k).1[k]? = some true) => orbS_met h)
  have hnew := hid (fun k (h : (orbS f n k).1[k]? = some false) => orbS_new h)
  have c0 := hid (fun W (hW : Below w.heap.size w W) => (hG.below hW).c0)
  have cG := hG.c0
  have cG2 := ((hG.below ((Below.refl _ w).alloc (Nat.le_refl _) (.cells mc 4))).c0)
  clear hrep hmc hG hTA hTB hT hS0
  go_enter Tryz.func115, Tryz.ntmps115
  go_wp2
  go_loopw [4, 18] (fun o i wr => ∃ (k : Nat) (vo : Value) (rows : List Value), k ≤ n ∧ i = .int .i64 k ∧ vo = o ∧ Hid (Dj rows) ∧ St w.heap.size w [Asn.mat w.heap.size vo rows (orbS f n k).2, Asn.own w.heap.size 4 (.slice (some ⟨w.heap.size, 0, none⟩) n n) (bls (orbS f n k).1)] wr) (fun _ i _ => n - (intOf i).toNat)
  case atStart => exact ⟨0, _, _, Nat.zero_le _, rfl, rfl, hid List.Pairwise.nil, hS.out⟩
  case round =>
    obtain ⟨k, vo, rows, hk, rfl, rfl, hDj, rS⟩ := hrel
    clear hS cG cG2
    have hob := hid rS.bel
    replace rS := hid rS
    by_cases hlk : k < n
    · have dk : decide ((k : Int) < (n : Int)) = true := decide_eq_true (by omega)
      have k0 : (0 : Int) ≤ (k : Int) := Int.natCast_nonneg _
      have k1 : (k : Int) < (n : Int) := by omega
      by_cases hm : (orbS f n k).1[k]? = some true
      · have ck := rS.out.o1.cellAt k _ (bls_get hm)
        have hs2 := hid (hmet.out k hm)
        clear hm
        go_wp2
        go_roundw
        case rel => exact ⟨k + 1, _, _, by omega, by go_num, rfl, hDj, by rw [hs2.out]; exact rS.out⟩
        case measure => simp [intOf]; omega
      · have hm2 := get_bool (by rw [hsl.out]; omega) hm
        have ck := rS.out.o1.cellAt k _ (bls_get hm2)
        have hs2 := hid (hnew.out k hm2)
        have htk := hid (htr.out k hlk _ hob.out)
        have hsqk := hid (hsq.out k hlk)
        have hqk := hid (hql.out k hlk)
        have hok2 := hso.out k
        have hnl := hid (natI_length (f k))
        have hfn := hfl.out k
        have hrlt := hid (hflt.out k)
        clear hm hm2
        generalize treeT T s n k = t at *
        generalize hst : (orbS f n k).1 = sn at *
        generalize hos : (orbS f n k).2 = os at *
        have hsl2 := hid (show sn.length = n from by rw [← hst]; exact hsl.out k)
        replace hst := hid hst; replace hos := hid hos
        generalize f k = O at *
        go_upto_region 8 with (first
          | (go_at_call 111; (with_reducible refine (htk.out).mono ?_); rintro e w4 ⟨bt, gf, gw, vq, rws, rfl, hT⟩; (have q1 := (show w4.cell? ⟨bt, 0, none⟩ = some vq from cell_of_row _ _ 0 _ _ _ hT.k0)); (have hO := hT.o1); rw [nats_ints] at hO; (have hvq := hid (fun W => vals_any vq W (by obtain ⟨A, c, e, _⟩ := hO.form; exact ⟨_, _, _, e⟩))); (have hso2 := hid (sortedVals w4 _ vq (natI t.q) hO (by rw [natI_length]; have := hqk.out; omega))); rw [hsqk.out] at hso2; clear hO; replace rS := hid (rS.out.outer hT); clear hT)
          | (go_at_call 206; (with_reducible refine (hvq.out _).mono ?_); rintro e w5 ⟨rfl, rfl⟩; replace rS := hid (rS.out.alloc (.cells #[vq] 32)))
          | (go_at_call 205; (with_reducible refine (hso2.out).mono ?_); rintro e w6 ⟨v6, rfl, hO6, hb⟩; replace rS := hid (rS.out.callOwn hb hO6); clear hO6 hb hso2 hvq q1))
        obtain ⟨A6, c6, rfl, _, hA6⟩ := rS.out.o0.form
        rw [ints_length, hnl.out] at rS ⊢
        replace rS := hid (show St w.heap.size w [Asn.own w.heap.size 4 (.slice (some ⟨w.heap.size, 0, none⟩) n n) (bls (mkAll sn (O.take 0))), Asn.own w.heap.size 2 (.slice A6 O.length c6) (ints (natI O)), Asn.mat w.heap.size vo rows os] w6 from rS.out.f2)
        replace hA6 := hid hA6
        generalize hOl : O.length = no at *
        go_wp2
        go_loopw [35] (fun i wi => ∃ j : Nat, j ≤ no ∧ i = .int .i64 j ∧ St w.heap.size w [Asn.own w.heap.size 4 (.slice (some ⟨w.heap.size, 0, none⟩) n n) (bls (mkAll sn (O.take j))), Asn.own w.heap.size 2 (.slice A6 no c6) (ints (natI O)), Asn.mat w.heap.size vo rows os] wi) (fun i _ => no - (intOf i).toNat)
        case atStart => exact ⟨0, Nat.zero_le _, rfl, rS.out⟩
        case round =>
          obtain ⟨j, hj, rfl, zS⟩ := hrel
          clear rS
          replace zS := hid zS
          by_cases hlj : j < no
          · have dj : decide ((j : Int) < (no : Int)) = true := decide_eq_true (by omega)
            obtain ⟨g6, rfl⟩ : ∃ g, A6 = some ⟨g, 0, none⟩ := by
              rcases hA6.out with ⟨_, h1, _⟩ | ⟨g, h1, _⟩
              · have : (ints (natI O)).length = 0 := by rw [h1]; rfl
                rw [ints_length, natI_length] at this
                omega
              · exact ⟨g, h1⟩
            obtain ⟨x, hx⟩ : ∃ x, O[j]? = some x := ⟨_, List.getElem?_eq_getElem (by rw [hOl]; exact hlj)⟩
            have cx := zS.out.o1.cellAt j (.int .i64 ((x : Nat) : Int)) (by simp [ints, natI, hx])
            have hxn := hrlt.out x (List.mem_of_getElem? hx)
            have hstp := hid (mkAll_take (s := sn) hx)
            have x0 : (0 : Int) ≤ (x : Int) := Int.natCast_nonneg _
            have x1 : (x : Int) < (n : Int) := by omega
            have hbl := hid (show (bls (mkAll sn (O.take j))).length = n by rw [bls_length, mkAll_len]; exact hsl2.out)
            have fs := Own.frozenAt zS.out.o0 hbl.out x
            obtain ⟨bb, hbb⟩ : ∃ b, (mkAll sn (O.take j))[x]? = some b := ⟨_, List.getElem?_eq_getElem (by rw [mkAll_len, hsl2.out]; exact hxn)⟩
            have cbb := zS.out.o0.cellAt x _ (bls_get hbb)
            clear hbb
            have hset := hid (bls_set (mkAll sn (O.take j)) x true)
            clear hx
            go_wp2
            replace zS := hid (zS.out.setOwn hbl.out x (.bool true) hxn)
            rw [hset.out, ← hstp.out] at zS
            go_roundw
            case rel => exact ⟨j + 1, by omega, by go_num, zS.out⟩
            case measure => simp [intOf]; omega
          · obtain rfl : no = j := by omega
            have dj : decide ((no : Int) < (no : Int)) = false := decide_eq_false (by omega)
            have htk2 := hid (show O.take no = O from by rw [← hOl]; exact List.take_length)
            rw [htk2.out] at zS
            have hDj2 := hid (zS.out.b2.f1.djSnoc hDj.out)
            go_wp2_with (first
              | ((with_reducible refine gate (N := 46) rfl ?_); refine St.appM rfl _ _ rfl _ _ rows os (natI O) rfl zS.out.b2.f1 rfl _ rfl (by omega) ?_; intro gn cn w7 zS'; replace zS := hid zS'; clear zS'))
            go_roundw
            case rel => exact ⟨k + 1, _, _, by omega, by go_num, rfl, hDj2, by rw [hs2.out]; exact zS.out⟩
            case measure => simp [intOf]; omega
    · obtain rfl : k = n := by omega
      have dk : decide ((k : Int) < (k : Int)) = false := decide_eq_false (by omega)
      go_wp2
      go_ret
      exact ⟨_, rfl, ⟨_, rS.out.g0, hDj.out⟩, rS.out.bel⟩
end Go.Proofs.YthmcdfjijkecfaaGreat

/- The tree of a word: where each word was met from (plain law). -/
namespace Go.Proofs.YthmcdfjijkecfaaGreat
set_option linter.unusedVariables false
set_option linter.unusedSimpArgs false

/-- What one step writes down of where a word was met from, and by which step. -/
def meetF (t : Tr) (X : List Int × List Int) (fr tx : Nat) (st : Int) : List Int × List Int :=
  if t.far.getD tx 0 < 0 then (X.1.set tx (fr : Int), X.2.set tx st) else X
structure Lk (n k : Nat) (t : Tr) (X : List Int × List Int) : Prop where
  l1 : X.1.length = n
  l2 : X.2.length = n
  q0 : t.q[0]? = some k
  wk : t.ways[k]? = some []
  lk : ∀ x ∈ t.q, x = k ∨ ∃ (f : Nat) (st : Int) (u : List Int), X.1[x]? = some (f : Int) ∧ X.2[x]? = some st ∧ f ∈ t.q ∧ t.ways[f]? = some u ∧ t.ways[x]? = some (u ++ [st])
theorem Lk.zero {n k : Nat} (hk : k < n) : Lk n k (tr0 n k) (List.replicate n 0, List.replicate n 0) where
  l1 := by simp
  l2 := by simp
  q0 := rfl
  wk := by simp [tr0, hk]
  lk := fun x hx => by simp [tr0] at hx; exact .inl hx
theorem Lk.meet {n k : Nat} {t : Tr} {X : List Int × List Int} (h : Lk n k t X) (ok : TrOk n t) {fr tx : Nat} (st : Int) (hfr : fr ∈ t.q) (hto : tx < n) : Lk n k (meetT t fr tx st) (meetF t X fr tx st) := by
  unfold meetT meetF
  split
  · rename_i hneg
    have hfn := ok.qb fr hfr
    have e1 : t.far[tx]? = some (t.far.getD tx 0) := by
      rw [List.getD_eq_getElem?_getD, List.getElem?_eq_getElem (by rw [ok.fl]; exact hto)]; rfl
    have e3 : t.ways[fr]? = some (t.ways.getD fr []) := by
      rw [List.getD_eq_getElem?_getD, List.getElem?_eq_getElem (by rw [ok.wl]; exact hfn)]; rfl
    have hnq : tx ∉ t.q := by
      rcases ok.fb tx _ e1 with h1 | h1
      · exact h1.2
      · omega
    have hne : ∀ x ∈ t.q, tx ≠ x := fun x hx e => hnq (e ▸ hx)
    have hkq : k ∈ t.q := List.mem_of_getElem? h.q0
    exact {
      l1 := by simp [h.l1]
      l2 := by simp [h.l2]
      q0 := by
        show (t.q ++ [tx])[0]? = some k
        rw [List.getElem?_append_left (List.getElem?_eq_some_iff.1 h.q0).1]; exact h.q0
      wk := by
        show (t.ways.set tx _)[k]? = some []
        rw [List.getElem?_set, if_neg (hne k hkq)]; exact h.wk
      lk := fun x hx => by
        rcases List.mem_append.1 hx with hx | hx
        · rcases h.lk x hx with h1 | ⟨f, s, u, h1, h2, h3, h4, h5⟩
          · exact .inl h1
          · refine .inr ⟨f, s, u, ?_, ?_, by simp [h3], ?_, ?_⟩
            · simp only [List.getElem?_set, if_neg (hne x hx)]; exact h1
            · simp only [List.getElem?_set, if_neg (hne x hx)]; exact h2
            · simp only [List.getElem?_set, if_neg (hne f h3)]; exact h4
            · simp only [List.getElem?_set, if_neg (hne x hx)]; exact h5
        · simp at hx
          subst hx
          refine .inr ⟨fr, st, t.ways.getD fr [], ?_, ?_, by simp [hfr], ?_, ?_⟩
          · simp only [List.getElem?_set, h.l1, hto, if_true]
          · simp only [List.getElem?_set, h.l2, hto, if_true]
          · simp only [List.getElem?_set, if_neg (hne fr hfr)]; exact e3
          · simp only [List.getElem?_set, ok.wl, hto, if_true] }
  · exact h
/-- A word's way by the links. -/
theorem Lk.way {n k : Nat} {t : Tr} {X : List Int × List Int} (h : Lk n k t X) (ok : TrOk n t) {x : Nat} (hx : x ∈ t.q) : x = k ∧ t.ways[x]? = some [] ∨ ∃ (f : Nat) (st : Int) (u : List Int), x ≠ k ∧ X.1[x]? = some (f : Int) ∧ X.2[x]? = some st ∧ f ∈ t.q ∧ t.ways[f]? = some u ∧ t.ways[x]? = some (u ++ [st]) := by
  by_cases e : x = k
  · exact .inl ⟨e, e ▸ h.wk⟩
  · rcases h.lk x hx with h1 | ⟨f, s, u, h1⟩
    · exact absurd h1 e
    · exact .inr ⟨f, s, u, e, h1⟩
end Go.Proofs.YthmcdfjijkecfaaGreat
