/- What the proof of FnPortraits leans on, part 21 of 26. -/
import Derived.Test.YtbmkkaecfogmoaaZFnPortraitsT
import Derived.OwnWalk
import Derived.Maps.AppendAt
/- Draws of portraits. -/
namespace Go.Proofs.Ytbmkkaecfogmoaa
open Go.RowKit
set_option linter.unusedVariables false
set_option linter.unusedSimpArgs false
-- @LONG

section
variable {w0 w : World} {S : Nat} {v : Value} {l : List Nat} {L : List Asn}
set_option maxHeartbeats 2000000 in
set_option maxRecDepth 100000 in
theorem Dg.sized (D : Dg w0 S v l) (hS : St w0.heap.size w0 (Asn.src S v l.length :: L) w) :
    Calls Try.prog 111 #[.pointer (some ⟨S, 0, none⟩)] w fun e w' => ∃ d n : Int, e = .returned (.tuple #[.int .i64 d, .int .i64 n]) ∧ Hid (-10 ≤ d ∧ d ≤ 10 ∧ -10 ≤ n ∧ n ≤ 10) ∧ St w0.heap.size w0 (Asn.src S v l.length :: L) w' := by
  have hN := hid (fun W L n (h0 : n ≤ 1000000000) hW => D.next (w := W) (L := L) n h0 hW)
  have hP := hid (fun W L b2 v2 M hM hMl hW => D.pick (w := W) (L := L) (b2 := b2) (v2 := v2) M hM hMl hW)
  have h1 := hid (fun (r : Int) (h : r ∈ [1, 4, (0 : Int)]) => (show 0 ≤ r ∧ r ≤ 4 from by simp only [List.mem_cons, List.not_mem_nil, or_false] at h; rcases h with rfl | rfl | rfl <;> omega))
  have h2 := hid (fun (r : Int) (h : r ∈ [0, 5, (-1 : Int)]) => (show -1 ≤ r ∧ r ≤ 5 from by simp only [List.mem_cons, List.not_mem_nil, or_false] at h; rcases h with rfl | rfl | rfl <;> omega))
  have h3 := hid (fun (r : Int) (h : r ∈ [2, 2, (3 : Int)]) => (show 2 ≤ r ∧ r ≤ 3 from by simp only [List.mem_cons, List.not_mem_nil, or_false] at h; rcases h with rfl | rfl | rfl <;> omega))
  replace hS := hid hS
  clear D
  go_enter Try.func111, Try.ntmps111
  go_upto_region 2 with (first
    | (go_at_call 132; (with_reducible refine (hN.out _ _ _ (by omega) hS.out).mono ?_); rintro e w1 ⟨z, rfl, _, hS'⟩; replace hS := hid hS'; clear hS'))
  by_cases z0 : z = 0
  · subst z0
    go_wp2_with (
      (go_at_call 133; (have hS2 := hS.out.list [.int .i64 1, .int .i64 4, .int .i64 0] (by simp)); (with_reducible refine (hP.out _ _ _ _ [1, 4, 0] (by simp) (by simp) hS2).mono ?_); rintro e w2 ⟨r, rfl, hr, hS'⟩; (have hr' := hid (h1.out _ hr)); replace hS := hid hS'; clear hS' hS2 hr))
    go_ret2
    exact ⟨r, 2, rfl, hid (by have := hr'.out; omega), hS.out⟩
  · have d0 : ((z : Int) == 0) = false := by simp; omega
    by_cases z1 : z = 1
    · subst z1
      go_wp2_with (
        (go_at_call 133; (have hS2 := hS.out.list [.int .i64 0, .int .i64 5, .int .i64 (-1)] (by simp)); (with_reducible refine (hP.out _ _ _ _ [0, 5, -1] (by simp) (by simp) hS2).mono ?_); rintro e w2 ⟨r, rfl, hr, hS'⟩; (have hr' := hid (h2.out _ hr)); replace hS := hid hS'; clear hS' hS2 hr))
      go_ret2
      exact ⟨2, r, rfl, hid (by have := hr'.out; omega), hS.out⟩
    · have d1 : ((z : Int) == 1) = false := by simp; omega
      go_upto_region 7 with (
        (go_at_call 133; (have hS2 := hS.out.list [.int .i64 2, .int .i64 2, .int .i64 3] (by simp)); (with_reducible refine (hP.out _ _ _ _ [2, 2, 3] (by simp) (by simp) hS2).mono ?_); rintro e w2 ⟨r, rfl, hr, hS'⟩; (have hr' := hid (h3.out _ hr)); replace hS := hid hS'; clear hS' hS2 hr))
      have hrb := hr'.out
      have e1 : wrap64 (6 - r) = 6 - r := w64 (by omega) (by omega)
      have e2 : IntKind.i64.wrap (6 - r) = 6 - r := IntWalk.i64_in _ (by omega)
      go_wp2_with (
        (go_at_call 132; (with_reducible refine (hN.out _ _ (6 - r) (by omega) hS.out).mono ?_); rintro e w3 ⟨y, rfl, hy, hS'⟩; (have e3 : wrap64 (1 + (y : Int)) = 1 + (y : Int) := w64 (by omega) (by omega)); (have e4 : IntKind.i64.wrap (1 + (y : Int)) = 1 + (y : Int) := IntWalk.i64_in _ (by omega)); replace hS := hid hS'; clear hS'))
      go_ret2
      exact ⟨r, 1 + (y : Int), rfl, hid (by omega), hS.out⟩
set_option maxHeartbeats 4000000 in
set_option maxRecDepth 100000 in
theorem Dg.prt (D : Dg w0 S v l) (d n : Int) (hS : St w0.heap.size w0 (Asn.src S v l.length :: L) w) :
    Calls Try.prog 112 #[.pointer (some ⟨S, 0, none⟩), .int .i64 d, .int .i64 n] w fun e w' => ∃ (u : Value) (g : List Int), e = .returned u ∧ Hid (g.length ≤ 50) ∧ St w0.heap.size w0 (Asn.src S v l.length :: Asn.own w0.heap.size 2 u (ints g) :: L) w' := by
  have hN := hid (fun W L n (h0 : n ≤ 1000000000) hW => D.next (w := W) (L := L) n h0 hW)
  have hP := hid (fun W L b2 v2 M hM hMl hW => D.pick (w := W) (L := L) (b2 := b2) (v2 := v2) M hM hMl hW)
  clear D
  by_cases hD : IsD d n
  · have hsz := hid (fun W => l03Sizes_any d n true (decide_eq_true hD).symm W)
    obtain ⟨d, n, rfl, rfl, hd, hn1, hn4⟩ := hD.nat
    have hct := hid (fun W => l03Count_any d hd W)
    have hst := hid (fun W => l03Start_any d n hd (by omega) W)
    have hs40 := (start_le hd hn4).1
    have hs1 : 1 ≤ start d n := by
      obtain ⟨j, hj⟩ : ∃ j, n = 1 + j := ⟨n - 1, by omega⟩
      rw [hj]
      have := start_mono d 1 j
      have h1 : start d 1 = 1 := rfl
      omega
    have hc6 : cnt d ≤ 6 := by rcases hd with rfl | rfl <;> decide
    have hc2 : 2 ≤ cnt d := by rcases hd with rfl | rfl <;> decide
    replace hD := hid hD
    have hS0 := hid ((hS.newOwn [] 2 (by simp)).f1)
    clear hS hD
    generalize start d n = N at *
    generalize cnt d = C at *
    go_enter Try.func112, Try.ntmps112
    go_upto_region 5 with (first
      | (go_at_call 126; (with_reducible refine (hsz.out _).mono ?_); rintro e w' ⟨rfl, rfl⟩)
      | (go_at_call 132; (with_reducible refine (hN.out _ _ _ (by omega) hS0.out).mono ?_); rintro e w1 ⟨cm, rfl, hcm, hS'⟩; replace hS0 := hid hS'; clear hS' hcm)
      | (go_at_call 205; (with_reducible refine (hst.out _).mono ?_); rintro e w' ⟨rfl, rfl⟩))
    go_loopw [7, 9] (fun o i wr => ∃ (g : List Int) (k : Nat), i = .int .i64 k ∧ g.length + k = N ∧ St w0.heap.size w0 (Asn.src S v l.length :: Asn.own w0.heap.size 2 o (ints g) :: L) wr) (fun _ i _ => (intOf i).toNat)
    case atStart => exact ⟨[], N, rfl, by simp, hS0.out⟩
    case round =>
      obtain ⟨g, k, rfl, hgk, rS⟩ := hrel
      clear hS0
      replace rS := hid rS
      have hil := hid (ints_length g)
      by_cases hlt : 0 < k
      · have dk : decide ((0 : Int) < (k : Int)) = true := decide_eq_true (by omega)
        have ek : IntKind.i64.wrap ((k : Int) - 1) = ((k - 1 : Nat) : Int) := by rw [show (k : Int) - 1 = ((k - 1 : Nat) : Int) by omega]; exact IntWalk.i64_in _ (by omega)
        go_wp2_with (first
          | (go_at_call 141; (with_reducible refine (hct.out _).mono ?_); rintro e w' ⟨rfl, rfl⟩)
          | (go_at_call 132; (with_reducible refine (hN.out _ _ (C : Int) (by omega) rS.out).mono ?_); rintro e w2 ⟨x, rfl, hx, hS'⟩; replace rS := hid hS'; clear hS' hx)
          | (go_at_call 132; (with_reducible refine (hN.out _ _ 2 (by omega) rS.out).mono ?_); rintro e w3 ⟨y, rfl, hy, hS'⟩; replace rS := hid hS'; clear hS' hy)
          | ((with_reducible refine gate (N := 40) rfl ?_); (refine St.app 29 2 (.int .i64 0) 8 Try.underlying29 info_i64 rfl (by omega) rfl _ _ rfl _ _ rfl rS.out.f1 _ rfl rfl g.length hil.out (by omega) ?_; intro gn cap w2 hO2; replace rS := hid hO2.f1; clear hO2)))
        all_goals go_roundw
        all_goals first
          | (exact ⟨g ++ [(x : Int)], k - 1, rfl, by simp; omega, by rw [ints_snoc]; exact rS.out⟩)
          | (exact ⟨g ++ [0], k - 1, rfl, by simp; omega, by rw [ints_snoc]; exact rS.out⟩)
          | (simp only [intOf]; omega)
      · obtain rfl : k = 0 := by omega
        have dk : decide ((0 : Int) < ((0 : Nat) : Int)) = false := by decide
        obtain ⟨ga, ca, rfl, _, _⟩ := rS.out.o1.blk (fun e => by have h1 := congrArg List.length e; rw [hil.out, List.length_nil] at h1; omega)
        have hgN : g.length = N := by omega
        rw [hil.out, hgN] at rS ⊢
        rw [hgN] at hil
        go_upto_region 12 with (
          (go_at_call 132; (with_reducible refine (hN.out _ _ _ (by omega) rS.out).mono ?_); rintro e w2 ⟨z, rfl, hz, hS'⟩; replace rS := hid hS'; clear hS' hz))
        have i0 : (0 : Int) < (N : Int) := by omega
        by_cases z0 : z = 0
        · subst z0
          obtain ⟨c0, hc0⟩ : ∃ c0, (ints g)[0]? = some c0 := ⟨_, List.getElem?_eq_getElem (by rw [hil.out]; omega)⟩
          go_wp2_with (first
            | (go_at_call 141; (with_reducible refine (hct.out _).mono ?_); rintro e w' ⟨rfl, rfl⟩)
            | (go_at_call 133; (have hS2 := rS.out.list [.int .i64 (-1), .int .i64 (C : Int), .int .i64 6] (by simp)); (with_reducible refine (hP.out _ _ _ _ [-1, (C : Int), 6] (by simp) (by simp) hS2).mono ?_); rintro e w3 ⟨r, rfl, hr, hS'⟩; (have co := Own.cellAt hS'.o1 0 c0 hc0); (have fo := Own.frozenAt hS'.o1 hil.out 0); replace rS := hid (hS'.f1.setOwn hil.out 0 (.int .i64 r) (by omega)).f1; clear hS' hS2 hr))
          go_ret
          exact ⟨_, g.set 0 r, rfl, hid (by rw [List.length_set]; omega), by rw [show ints (g.set 0 r) = (ints g).set 0 (.int .i64 r) from by simp [ints, List.map_set]]; exact rS.out⟩
        · have d0 : ((z : Int) == 0) = false := by simp; omega
          by_cases z1 : z = 1
          · subst z1
            go_wp2_with (
              ((with_reducible refine gate (N := 56) rfl ?_); (refine St.app 29 2 (.int .i64 0) 8 Try.underlying29 info_i64 rfl (by omega) rfl _ _ rfl _ _ rfl rS.out.f1 _ rfl rfl N hil.out (by omega) ?_; intro gn cap w3 hO2; replace rS := hid hO2.f1; clear hO2)))
            go_ret
            exact ⟨_, g ++ [0], rfl, hid (by simp; omega), by rw [ints_snoc]; exact rS.out⟩
          · have d1 : ((z : Int) == 1) = false := by simp; omega
            go_wp2
            go_ret
            exact ⟨_, g, rfl, hid (by omega), rS.out⟩
  · have hsz := hid (fun W => l03Sizes_any d n false (decide_eq_false hD).symm W)
    have hS0 := hid ((hS.newOwn [.int .i64 0, .int .i64 1] 2 (by simp)).f1)
    clear hS hD hN hP
    go_enter Try.func112, Try.ntmps112
    go_wp2_with (
      (go_at_call 126; (with_reducible refine (hsz.out _).mono ?_); rintro e w' ⟨rfl, rfl⟩))
    go_ret
    exact ⟨_, [0, 1], rfl, hid (by simp), hS0.out⟩
end
set_option maxHeartbeats 2000000 in
set_option maxRecDepth 100000 in
theorem drIsp_any (w : World) (v : Value) (l : List Nat) (hv : ArgB w v l) (hl : l.length ≤ 4096) :
    Calls Try.prog 130 #[v] w fun e w' => ∃ (d n : Int) (u : Value) (g : List Int), e = .returned (.tuple #[.int .i64 d, .int .i64 n, u]) ∧ Hid (-10 ≤ d ∧ d ≤ 10 ∧ -10 ≤ n ∧ n ≤ 10 ∧ g.length ≤ 50) ∧ Own w' w.heap.size 2 u (ints g) ∧ Below w.heap.size w w' := by
  have hS := hid (St.start w)
  have hfr := hid (fun W L hW => Dg.from (w := w) (W := W) (L := L) hv hl hW)
  replace hv := hid hv
  obtain ⟨A, c, rfl, _⟩ := hv.out
  go_enter Try.func130, Try.ntmps130
  go_wp2_with (first
    | (go_at_call 78; (with_reducible refine (hfr.out _ _ hS.out).mono ?_); rintro e w1 ⟨S, rfl, D, hS'⟩; replace hS := hid hS'; clear hS')
    | (go_at_call 111; (with_reducible refine (D.out.sized hS.out).mono ?_); rintro e w2 ⟨d, n, rfl, hd, hS'⟩; replace hS := hid hS'; clear hS')
    | (go_at_call 112; (with_reducible refine (D.out.prt d n hS.out).mono ?_); rintro e w3 ⟨u, g, rfl, hg, hS'⟩; replace hS := hid hS'; clear hS'))
  go_ret3
  exact ⟨d, n, u, g, rfl, hid (by have := hd.out; have := hg.out; omega), hS.out.o1, hS.out.bel⟩
theorem results_tmp4 {fn : Func} {t u v x : Tmp} (h : fn.results = #[.tmp t, .tmp u, .tmp v, .tmp x]) (tmps : Array Value) (P : Program) (w : World) :
    (results fn tmps).run P w = .ok (.tuple #[tmps.getD t undef, tmps.getD u undef, tmps.getD v undef, tmps.getD x undef]) w := by
  simp [results, h]
set_option maxHeartbeats 2000000 in
set_option maxRecDepth 100000 in
theorem drMul_any (w : World) (v : Value) (l : List Nat) (hv : ArgB w v l) (hl : l.length ≤ 4096) :
    Calls Try.prog 26 #[v] w fun e w' => ∃ (d n : Int) (u1 u2 : Value) (g1 g2 : List Int), e = .returned (.tuple #[.int .i64 d, .int .i64 n, u1, u2]) ∧ Hid (-10 ≤ d ∧ d ≤ 10 ∧ -10 ≤ n ∧ n ≤ 10 ∧ g1.length ≤ 50 ∧ g2.length ≤ 50) ∧ Own w' w.heap.size 2 u1 (ints g1) ∧ Own w' w.heap.size 2 u2 (ints g2) ∧ Below w.heap.size w w' := by
  have hS := hid (St.start w)
  have hfr := hid (fun W L hW => Dg.from (w := w) (W := W) (L := L) hv hl hW)
  replace hv := hid hv
  obtain ⟨A, c, rfl, _⟩ := hv.out
  go_enter Try.func26, Try.ntmps26
  have mk1 : True := trivial
  go_wp2_with (first
    | (go_at_call 78; (with_reducible refine (hfr.out _ _ hS.out).mono ?_); rintro e w1 ⟨S, rfl, D, hS'⟩; replace hS := hid hS'; clear hS')
    | (go_at_call 111; (with_reducible refine (D.out.sized hS.out).mono ?_); rintro e w2 ⟨d, n, rfl, hd, hS'⟩; replace hS := hid hS'; clear hS')
    | (go_at_call 112; clear mk1; (with_reducible refine (D.out.prt d n hS.out).mono ?_); rintro e w3 ⟨u, g, rfl, hg, hS'⟩; replace hS := hid hS'; clear hS')
    | (go_at_call 112; (with_reducible refine (D.out.prt d n hS.out).mono ?_); rintro e w4 ⟨u2, g2, rfl, hg2, hS'⟩; replace hS := hid hS'; clear hS'))
  try simp only [Exit.inBlock, Exit.then]
  refine bodyPost_ret (results_tmp4 rfl _ _ _) rfl ?_
  exact ⟨d, n, u, u2, g, g2, rfl, hid (by have := hd.out; have := hg.out; have := hg2.out; omega), hS.out.o2, hS.out.o1, hS.out.bel⟩
set_option maxHeartbeats 2000000 in
set_option maxRecDepth 100000 in
theorem drAcp_any (w : World) (v : Value) (l : List Nat) (hv : ArgB w v l) (hl : l.length ≤ 4096) :
    Calls Try.prog 40 #[v] w fun e w' => ∃ (d n : Int) (u : Value) (g : List Int) (ws : ByteArray), e = .returned (.tuple #[.int .i64 d, .int .i64 n, u, .string ws]) ∧ Hid (-10 ≤ d ∧ d ≤ 10 ∧ -10 ≤ n ∧ n ≤ 10 ∧ g.length ≤ 50 ∧ ws.size ≤ 60) ∧ Own w' w.heap.size 2 u (ints g) ∧ Below w.heap.size w w' := by
  have hS := hid (St.start w)
  have hfr := hid (fun W L hW => Dg.from (w := w) (W := W) (L := L) hv hl hW)
  replace hv := hid hv
  obtain ⟨A, c, rfl, _⟩ := hv.out
  go_enter Try.func40, Try.ntmps40
  go_upto_region 3 with (first
    | (go_at_call 78; (with_reducible refine (hfr.out _ _ hS.out).mono ?_); rintro e w1 ⟨S, rfl, D, hS'⟩; replace hS := hid hS'; clear hS')
    | (go_at_call 111; (with_reducible refine (D.out.sized hS.out).mono ?_); rintro e w2 ⟨d, n, rfl, hd, hS'⟩; replace hS := hid hS'; clear hS'))
  have hdb := hd.out
  by_cases n0 : n < 0
  · skip
    go_upto_region 5 with (first
      | (go_at_call 132; (with_reducible refine (D.out.next 20 (by omega) hS.out).mono ?_); rintro e w7 ⟨z, rfl, _, hS'⟩; replace hS := hid hS'; clear hS')
      | (go_at_call 132; (with_reducible refine (D.out.next _ (by omega) hS.out).mono ?_); rintro e w5 ⟨r, rfl, hr, hS'⟩; (have hr40 : (r : Int) ≤ 41 := by omega); replace hS := hid hS'; clear hS' hr)
      | (go_at_call 136; (with_reducible refine (D.out.word d r hr40 hS.out).mono ?_); rintro e w6 ⟨uw, rfl, hu, hS'⟩; (have hus := hid (show (wstr uw).size ≤ 50 from by rw [wstr_size]; have := hu.out.1; omega)); generalize wstr uw = us at *; replace hS := hid hS'; clear hS' hu))
    have hadd : us.size + ({ data := #[48, 48, 48, 48] } : ByteArray).size ≤ 9223372036854775807 := by have := hus.out; show us.size + 4 ≤ _; omega
    have hadd2 : us.size + 4 ≤ 9223372036854775807 := by have := hus.out; omega
    by_cases z0 : z = 0
    · subst z0
      go_wp2_with (first
        | (go_at_call 137; (with_reducible refine (D.out.damage us (by have := hus.out; omega) hS.out).mono ?_); rintro e w8 ⟨us2, rfl, hus2, hS'⟩; replace hS := hid hS'; clear hS')
        | (go_at_call 112; (with_reducible refine (D.out.prt d n hS.out).mono ?_); rintro e w9 ⟨u, g, rfl, hg, hS'⟩; replace hS := hid hS'; clear hS'))
      try simp only [Exit.inBlock, Exit.then]
      refine bodyPost_ret (results_tmp4 rfl _ _ _) rfl ?_
      exact ⟨d, n, u, g, _, rfl, hid (by have := hd.out; have := hg.out; have := hus.out; refine ⟨by omega, by omega, by omega, by omega, by omega, ?_⟩; rw [ByteArray.size_append]; show us.size + 4 ≤ 60; omega), hS.out.o1, hS.out.bel⟩
    · have d0 : ((z : Int) == 0) = false := by simp; omega
      by_cases z1 : z = 1
      · subst z1
        go_wp2_with (first
          | (go_at_call 137; (with_reducible refine (D.out.damage us (by have := hus.out; omega) hS.out).mono ?_); rintro e w8 ⟨us2, rfl, hus2, hS'⟩; replace hS := hid hS'; clear hS')
          | (go_at_call 112; (with_reducible refine (D.out.prt d n hS.out).mono ?_); rintro e w9 ⟨u, g, rfl, hg, hS'⟩; replace hS := hid hS'; clear hS'))
        try simp only [Exit.inBlock, Exit.then]
        refine bodyPost_ret (results_tmp4 rfl _ _ _) rfl ?_
        exact ⟨d, n, u, g, _, rfl, hid (by have := hd.out; have := hg.out; have := hus.out; have := hus2.out; omega), hS.out.o1, hS.out.bel⟩
      · have d1 : ((z : Int) == 1) = false := by simp; omega
        go_wp2_with (first
          | (go_at_call 137; (with_reducible refine (D.out.damage us (by have := hus.out; omega) hS.out).mono ?_); rintro e w8 ⟨us2, rfl, hus2, hS'⟩; replace hS := hid hS'; clear hS')
          | (go_at_call 112; (with_reducible refine (D.out.prt d n hS.out).mono ?_); rintro e w9 ⟨u, g, rfl, hg, hS'⟩; replace hS := hid hS'; clear hS'))
        try simp only [Exit.inBlock, Exit.then]
        refine bodyPost_ret (results_tmp4 rfl _ _ _) rfl ?_
        exact ⟨d, n, u, g, _, rfl, hid (by have := hd.out; have := hg.out; have := hus.out; omega), hS.out.o1, hS.out.bel⟩
  · by_cases n4 : n ≤ 4
    · have en : IntKind.i64.wrap (n + 1) = n + 1 := IntWalk.i64_in _ (by omega)
      have en2 : wrap64 (n + 1) = n + 1 := w64 (by omega) (by omega)
      go_upto_region 5 with (first
        | (go_at_call 132; (with_reducible refine (D.out.next 20 (by omega) hS.out).mono ?_); rintro e w7 ⟨z, rfl, _, hS'⟩; replace hS := hid hS'; clear hS')
        | (go_at_call 132; (with_reducible refine (D.out.next _ (by omega) hS.out).mono ?_); rintro e w5 ⟨r, rfl, hr, hS'⟩; (have hr40 : (r : Int) ≤ 41 := by omega); replace hS := hid hS'; clear hS' hr)
        | (go_at_call 136; (with_reducible refine (D.out.word d r hr40 hS.out).mono ?_); rintro e w6 ⟨uw, rfl, hu, hS'⟩; (have hus := hid (show (wstr uw).size ≤ 50 from by rw [wstr_size]; have := hu.out.1; omega)); generalize wstr uw = us at *; replace hS := hid hS'; clear hS' hu))
      have hadd : us.size + ({ data := #[48, 48, 48, 48] } : ByteArray).size ≤ 9223372036854775807 := by have := hus.out; show us.size + 4 ≤ _; omega
      have hadd2 : us.size + 4 ≤ 9223372036854775807 := by have := hus.out; omega
      by_cases z0 : z = 0
      · subst z0
        go_wp2_with (first
          | (go_at_call 137; (with_reducible refine (D.out.damage us (by have := hus.out; omega) hS.out).mono ?_); rintro e w8 ⟨us2, rfl, hus2, hS'⟩; replace hS := hid hS'; clear hS')
          | (go_at_call 112; (with_reducible refine (D.out.prt d n hS.out).mono ?_); rintro e w9 ⟨u, g, rfl, hg, hS'⟩; replace hS := hid hS'; clear hS'))
        try simp only [Exit.inBlock, Exit.then]
        refine bodyPost_ret (results_tmp4 rfl _ _ _) rfl ?_
        exact ⟨d, n, u, g, _, rfl, hid (by have := hd.out; have := hg.out; have := hus.out; refine ⟨by omega, by omega, by omega, by omega, by omega, ?_⟩; rw [ByteArray.size_append]; show us.size + 4 ≤ 60; omega), hS.out.o1, hS.out.bel⟩
      · have d0 : ((z : Int) == 0) = false := by simp; omega
        by_cases z1 : z = 1
        · subst z1
          go_wp2_with (first
            | (go_at_call 137; (with_reducible refine (D.out.damage us (by have := hus.out; omega) hS.out).mono ?_); rintro e w8 ⟨us2, rfl, hus2, hS'⟩; replace hS := hid hS'; clear hS')
            | (go_at_call 112; (with_reducible refine (D.out.prt d n hS.out).mono ?_); rintro e w9 ⟨u, g, rfl, hg, hS'⟩; replace hS := hid hS'; clear hS'))
          try simp only [Exit.inBlock, Exit.then]
          refine bodyPost_ret (results_tmp4 rfl _ _ _) rfl ?_
          exact ⟨d, n, u, g, _, rfl, hid (by have := hd.out; have := hg.out; have := hus.out; have := hus2.out; omega), hS.out.o1, hS.out.bel⟩
        · have d1 : ((z : Int) == 1) = false := by simp; omega
          go_wp2_with (first
            | (go_at_call 137; (with_reducible refine (D.out.damage us (by have := hus.out; omega) hS.out).mono ?_); rintro e w8 ⟨us2, rfl, hus2, hS'⟩; replace hS := hid hS'; clear hS')
            | (go_at_call 112; (with_reducible refine (D.out.prt d n hS.out).mono ?_); rintro e w9 ⟨u, g, rfl, hg, hS'⟩; replace hS := hid hS'; clear hS'))
          try simp only [Exit.inBlock, Exit.then]
          refine bodyPost_ret (results_tmp4 rfl _ _ _) rfl ?_
          exact ⟨d, n, u, g, _, rfl, hid (by have := hd.out; have := hg.out; have := hus.out; omega), hS.out.o1, hS.out.bel⟩
    · skip
      go_upto_region 5 with (first
        | (go_at_call 132; (with_reducible refine (D.out.next 20 (by omega) hS.out).mono ?_); rintro e w7 ⟨z, rfl, _, hS'⟩; replace hS := hid hS'; clear hS')
        | (go_at_call 132; (with_reducible refine (D.out.next _ (by omega) hS.out).mono ?_); rintro e w5 ⟨r, rfl, hr, hS'⟩; (have hr40 : (r : Int) ≤ 41 := by omega); replace hS := hid hS'; clear hS' hr)
        | (go_at_call 136; (with_reducible refine (D.out.word d r hr40 hS.out).mono ?_); rintro e w6 ⟨uw, rfl, hu, hS'⟩; (have hus := hid (show (wstr uw).size ≤ 50 from by rw [wstr_size]; have := hu.out.1; omega)); generalize wstr uw = us at *; replace hS := hid hS'; clear hS' hu))
      have hadd : us.size + ({ data := #[48, 48, 48, 48] } : ByteArray).size ≤ 9223372036854775807 := by have := hus.out; show us.size + 4 ≤ _; omega
      have hadd2 : us.size + 4 ≤ 9223372036854775807 := by have := hus.out; omega
      by_cases z0 : z = 0
      · subst z0
        go_wp2_with (first
          | (go_at_call 137; (with_reducible refine (D.out.damage us (by have := hus.out; omega) hS.out).mono ?_); rintro e w8 ⟨us2, rfl, hus2, hS'⟩; replace hS := hid hS'; clear hS')
          | (go_at_call 112; (with_reducible refine (D.out.prt d n hS.out).mono ?_); rintro e w9 ⟨u, g, rfl, hg, hS'⟩; replace hS := hid hS'; clear hS'))
        try simp only [Exit.inBlock, Exit.then]
        refine bodyPost_ret (results_tmp4 rfl _ _ _) rfl ?_
        exact ⟨d, n, u, g, _, rfl, hid (by have := hd.out; have := hg.out; have := hus.out; refine ⟨by omega, by omega, by omega, by omega, by omega, ?_⟩; rw [ByteArray.size_append]; show us.size + 4 ≤ 60; omega), hS.out.o1, hS.out.bel⟩
      · have d0 : ((z : Int) == 0) = false := by simp; omega
        by_cases z1 : z = 1
        · subst z1
          go_wp2_with (first
            | (go_at_call 137; (with_reducible refine (D.out.damage us (by have := hus.out; omega) hS.out).mono ?_); rintro e w8 ⟨us2, rfl, hus2, hS'⟩; replace hS := hid hS'; clear hS')
            | (go_at_call 112; (with_reducible refine (D.out.prt d n hS.out).mono ?_); rintro e w9 ⟨u, g, rfl, hg, hS'⟩; replace hS := hid hS'; clear hS'))
          try simp only [Exit.inBlock, Exit.then]
          refine bodyPost_ret (results_tmp4 rfl _ _ _) rfl ?_
          exact ⟨d, n, u, g, _, rfl, hid (by have := hd.out; have := hg.out; have := hus.out; have := hus2.out; omega), hS.out.o1, hS.out.bel⟩
        · have d1 : ((z : Int) == 1) = false := by simp; omega
          go_wp2_with (first
            | (go_at_call 137; (with_reducible refine (D.out.damage us (by have := hus.out; omega) hS.out).mono ?_); rintro e w8 ⟨us2, rfl, hus2, hS'⟩; replace hS := hid hS'; clear hS')
            | (go_at_call 112; (with_reducible refine (D.out.prt d n hS.out).mono ?_); rintro e w9 ⟨u, g, rfl, hg, hS'⟩; replace hS := hid hS'; clear hS'))
          try simp only [Exit.inBlock, Exit.then]
          refine bodyPost_ret (results_tmp4 rfl _ _ _) rfl ?_
          exact ⟨d, n, u, g, _, rfl, hid (by have := hd.out; have := hg.out; have := hus.out; omega), hS.out.o1, hS.out.bel⟩
def bts (l : List Nat) : List Value := l.map fun x => .int .u8 (x : Nat)
section
variable {ops : Array Oper} {rest : List Oper} {o : Oper} {act : Act} {W w0 : World} {Q : Exit → Act → World → Prop} {L : List Asn} {base : Nat}
/-- A code appended to a slice of one's own. -/
theorem St.appB (hgd : o.guard = none) (s x : Operand) (ho : o.op = .call { callee := .builtin .append, args := #[s, x], argTypes := #[22, 22] })
    (v : Value) (cs : List Value) (hs : act.eval s = v) (hS : St base w0 (Asn.own base 5 v cs :: L) W) (va : Value) (l : List Nat) (hx : act.eval x = va) (hv : ArgB W va l) (hl : l.length ≤ 100000) (hlen : cs.length ≤ 1000)
    (h : ∀ v' w', St base w0 (Asn.own base 5 v' (cs ++ bts l) :: L) w' → wpList Try.prog ops Q rest (act.put o.dst v') w') : wpList Try.prog ops Q (o :: rest) act W := by
  obtain ⟨i, hi, hz0, hz1, hz2⟩ := info_parts info_u8
  have hO : Own W base 5 v cs := hS.star.1
  obtain ⟨A, c, rfl, ⟨rfl, rfl⟩ | ⟨a, rfl, hc⟩⟩ := hv
  · have hr : (Builtin.append_ #[22, 22] o.type #[v, .slice none 0 c]).run Try.prog W = .ok v W := by
      have hO' : W.ownsRow base 5 1 v cs.length cs := hO
      rcases hO'.2 with ⟨rfl, e0⟩ | ⟨g, cap, cur, rfl, _, _, hnc, _⟩
      · simp [Builtin.append_, run_underlying Try.underlying22, sizeOf, typeInfo, hi, Builtin.lenOf, Builtin.firstCells]
      · simp [Builtin.append_, run_underlying Try.underlying22, sizeOf, typeInfo, hi, Builtin.lenOf, Builtin.firstCells, hnc, storeCells]
    refine wpList_plain hgd fun K hK => ?_
    unfold Oper.wp execOp
    simp only [ho, resolve, invoke, builtin, Sem.run_bind, Sem.run_pure, Result.andThen_ok, List.map_toArray, List.map_cons, List.map_nil, hs, hx, hr, List.length_nil]
    exact hK _ _ (h v W (by rw [show bts [] = [] from rfl, List.append_nil]; exact hS))
  · obtain ⟨v', w', hr, h3, h4, _, h5⟩ := run_append_own_at (P := Try.prog) W base 22 o.type 5 i (.int .u8 0) 1 1 Try.underlying22 hi hz0 hz1 hz2 rfl (by omega) v cs.length cs hO a l.length c (bts l) (by simp [bts]) (fun j u hu => by
      have hj : l[j]? = some (l.getD j 0) ∧ u = .int .u8 (l.getD j 0 : Nat) := by
        rw [bts, List.getElem?_map] at hu
        obtain ⟨y, hy1, hy2⟩ := Option.map_eq_some_iff.1 hu
        rw [List.getD_eq_getElem?_getD, hy1]
        exact ⟨rfl, hy2.symm⟩
      rw [hj.2]
      exact (hc j _ hj.1).2.1) (fun u hu => by
      obtain ⟨y, _, rfl⟩ := List.mem_map.1 hu; rfl) (by simp only [maxLen]; omega) (by omega) hS.le
    have hold : ∀ k, k < W.heap.size → v.ownBlock ≠ some k → w'.heap[k]? = W.heap[k]? := fun k hk hne => h4.block k hk (fun e => hne e.symm)
    have hb : Below base W w' := ⟨h4.os, h4.tape, h4.output, h4.size, fun k hk => hold k (Nat.lt_of_lt_of_le hk hS.le) (fun e => by have := (hO.lt k e).1; omega)⟩
    have hO3 : Own w' base 5 v' (cs ++ bts l) := by
      unfold Own
      rw [List.length_append, show (bts l).length = l.length by simp [bts]]; exact h3
    refine wpList_plain hgd fun K hK => ?_
    unfold Oper.wp execOp
    simp only [ho, resolve, invoke, builtin, Sem.run_bind, Sem.run_pure, Result.andThen_ok, List.map_toArray, List.map_cons, List.map_nil, hs, hx, hr]
    exact hK _ _ (h v' w' (hS.appdV hO3 hb hold h5))
end
theorem Own.argB {W : World} {b : Nat} {v : Value} {l : List Nat} (h : Own W b 5 v (bts l)) (hl : ∀ x ∈ l, x < 256) : ArgB W v l := by
  obtain ⟨A, c, rfl, _, hA⟩ := h.form
  have hlen : (bts l).length = l.length := by simp [bts]
  rw [hlen]
  refine ⟨A, c, rfl, ?_⟩
  rcases hA with ⟨rfl, h1, _⟩ | ⟨g, rfl, _, hlt, hc⟩
  · exact .inl ⟨rfl, List.eq_nil_of_length_eq_zero (by rw [← hlen, h1]; rfl)⟩
  · refine .inr ⟨_, rfl, fun i x hx => ⟨hl x (List.mem_of_getElem? hx), ?_, ?_⟩⟩
    · have := hc i (.int .u8 (x : Nat)) (by rw [bts, List.getElem?_map, hx]; rfl)
      rw [Addr.add_mid, Nat.zero_add]; exact this
    · rw [Addr.add_mid]; exact hlt
end Go.Proofs.Ytbmkkaecfogmoaa
