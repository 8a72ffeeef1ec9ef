/- LevelEdges: what the program and the reference answer. -/
import Derived.Test.YtapbcfnlcnboeaaEdge
import Derived.Test.YtapbcfnlcnboeaaWalksS
namespace Go.Proofs.Ytapbcfnlcnboeaa
open Go.RowKit
set_option linter.unusedVariables false
set_option linter.unusedSimpArgs false

open Classical in
noncomputable def edgesAns (m : Mach) (n : Int) : List (Nat × Nat × Nat) × Int :=
  if levelI m n = 0 then (edL (fun q i => pf m m.L.toNat q n.toNat i) m.S.toNat (pw m.L.toNat n.toNat) 0, 0) else ([], levelI m n)
theorem edgesAns_0 {m : Mach} {l s n : Nat} (g : Good m l s) (h : levelI m n = 0) : edgesAns m n = (edL (fun q i => pf m l q n i) s (pw l n) 0, 0) := by
  unfold edgesAns; rw [if_pos h, g.L, g.S]; rfl
theorem edgesAns_c {m : Mach} {n : Int} (h : levelI m n ≠ 0) : edgesAns m n = ([], levelI m n) := by unfold edgesAns; rw [if_neg h]
theorem edgesAns_len (m : Mach) (n : Int) : (edgesAns m n).1.length < 300000 := by
  by_cases h : levelI m n = 0
  · obtain ⟨l, s, n', g, rfl, _, _, hpw⟩ := levelI_good h
    rw [edgesAns_0 g h, edL_length]
    have := g.s16
    have h2 : pw l n' * s ≤ 243 * 16 := Nat.mul_le_mul hpw this
    omega
  · rw [edgesAns_c h]; simp
/-- The answer of edges as it comes back. -/
def AnsE (w : World) (A : List (Nat × Nat × Nat) × Int) (e : Ending) (w' : World) : Prop := ∃ v, e = .returned (.tuple #[v, .int .i64 A.2]) ∧ OwnN w' w.heap.size 81 3 v A.1.length (ecs A.1) ∧ Below w.heap.size w w'

theorem info_edge : (Try.prog.info? 81).map (fun i => (i.zero, i.size, i.bytes)) = some (some (.agg #[.int .i64 0, .int .i64 0, .int .i64 0]), 3, 24) := by kernel_rfl

set_option maxHeartbeats 4000000 in
set_option maxRecDepth 100000 in
theorem specEdges_any (w : World) (m : Mach) (hk : m.Ok) (n : Int) : Calls Try.prog 36 #[.agg (mcells m), .int .i64 n] w (AnsE w (edgesAns m n)) := by
  have hS := hid ((St.start w).newMB m 31)
  have hcode := hid (fun W => l05Code_any W m hk n)
  by_cases h0 : levelI m n = 0
  · obtain ⟨l, s, n, g, rfl, hn5, hnl, hpw⟩ := levelI_good h0
    rw [h0] at hcode
    rw [edgesAns_0 g h0]
    have gL := hid g.L
    have gS := hid g.S
    have l2 := g.l2
    have s16 := g.s16
    have s1 := g.s1
    have hgr := hid (fun W => l05Tables_any W m l s g hk n (by omega) (by omega))
    have hpo := hid (fun W => l01Power_any l n (by omega) (by omega) (by omega) W)
    have htl := hid (show (tabA m l n s ++ tabA (inv m l s) l n s).length = 2 * s by rw [List.length_append, tabA_length, tabA_length]; omega)
    have hrow := hid (fun q (hq : q < s) => tabs_get m l n s q hq)
    have hpl := hid (fun q => permZ_length m l q n)
    have hget := hid (fun q i (hi : i < pw l n) => permZ_get m l q n i hi)
    have hpos := pw_pos l (by omega) n
    generalize hT : tabA m l n s ++ tabA (inv m l s) l n s = T at *
    replace hT := hid hT
    clear h0
    replace hk := hid hk; replace g := hid g
    generalize hMn : pw l n = M at *
    replace hMn := hid hMn
    go_enter Try.func36, Try.ntmps36
    go_wp2_with (first
      | ((with_reducible refine gate (N := 11) rfl ?_); refine load_mach rfl _ rfl w.heap.size rfl m hS.out.m0 ?_)
      | ((with_reducible refine gate (N := 17) rfl ?_); refine load_mach rfl _ rfl w.heap.size rfl m hS.out.m0 ?_)
      | (go_at_call 64; (with_reducible refine (hcode.out _).mono ?_); rintro e w1 ⟨rfl, hb⟩; replace hS := hid (hS.out.call hb); clear hb hcode)
      | (go_at_call 67; (with_reducible refine (hgr.out _).mono ?_); rintro e w2 ⟨vT, rfl, hG, hb⟩; obtain ⟨rows, hS'⟩ := hS.out.callMat hb hG; obtain ⟨gT, cT, rfl, _, _⟩ := hG.blk (fun e => by have h1 := congrArg List.length e; rw [htl.out] at h1; simp at h1; omega); rw [htl.out] at hS' ⊢; replace hS := hid (hS'.newN 81 3); clear hb hgr hG hS'))
    go_loopw [8, 9] (fun v i wr => ∃ k : Nat, k ≤ M ∧ i = .int .i64 k ∧ St w.heap.size w [Asn.ownN w.heap.size 81 3 v (k * s) (ecs (edL (fun q i => pf m l q n i) s k 0)), Asn.mat w.heap.size (.slice (some ⟨gT, 0, none⟩) (2 * s) cT) rows T, Asn.mb 31 w.heap.size m] wr) (fun _ i _ => M - (intOf i).toNat)
    case atStart => exact ⟨0, Nat.zero_le _, rfl, by rw [Nat.zero_mul]; exact hS.out⟩
    case round =>
      obtain ⟨k, hk', rfl, rS⟩ := hrel
      clear hS
      have cL := rS.m2.cL
      rw [gL.out] at cL
      replace rS := hid rS
      by_cases hkM : k < M
      · have dk : decide ((k : Int) < (M : Int)) = true := decide_eq_true (by omega)
        go_wp2_with (first
          | (go_at_call 48; (with_reducible refine (hpo.out _).mono ?_); rintro e w3 ⟨rfl, rfl⟩))
        clear cL
        go_loopw [8, 10] (fun v i wr => ∃ q : Nat, q ≤ s ∧ i = .int .i64 q ∧ St w.heap.size w [Asn.ownN w.heap.size 81 3 v (k * s + q) (ecs (edL (fun q i => pf m l q n i) s k q)), Asn.mat w.heap.size (.slice (some ⟨gT, 0, none⟩) (2 * s) cT) rows T, Asn.mb 31 w.heap.size m] wr) (fun _ i _ => s - (intOf i).toNat)
        case atStart => exact ⟨0, Nat.zero_le _, rfl, rS.out⟩
        case round =>
          obtain ⟨q, hq, rfl, yS⟩ := hrel
          clear rS
          have cS := yS.m2.cS
          rw [gS.out] at cS
          by_cases hqs : q < s
          · have dq : decide ((q : Int) < (s : Int)) = true := decide_eq_true (by omega)
            obtain ⟨r, cr, hr⟩ := Asn.row yS.g1 q _ (hrow.out q hqs)
            obtain ⟨gr, cc, rfl, _, _⟩ := hr.blk (fun e => by have h1 := congrArg List.length e; rw [ints_length, hpl.out] at h1; simp at h1; omega)
            rw [ints_length, hpl.out] at cr hr
            have cR := hr.cellAt k (.int .i64 ((pf m l q n k : Nat) : Int)) (by simp [ints, hget.out q k hkM])
            have hsn := hid (edL_snoc (fun q i => pf m l q n i) s k q)
            have hks := hid (show k * s + q ≤ 1000000 from by have h2 : k * s ≤ 243 * 16 := Nat.mul_le_mul (by omega) s16; omega)
            replace yS := hid yS
            clear hr
            generalize pf m l q n k = pk at *
            go_wp2_with (first
              | ((with_reducible refine gate (N := 47) rfl ?_); refine St.appNw 49 81 _ 3 24 Try.underlying49 info_edge rfl (by omega) (by omega) rfl _ _ rfl _ _ _ rfl yS.out (c3 k q pk) rfl (c3_one _ _ _) rfl (by have := hks.out; omega) ?_; intro gn cap w4 yS'; replace yS := hid yS'; clear yS'))
            go_roundw
            case rel => exact ⟨q + 1, by omega, by go_num, by rw [hsn.out, ecs_snoc]; exact yS.out⟩
            case measure => simp [intOf]; omega
          · obtain rfl : s = q := by omega
            have hrw := hid (edL_row (fun q i => pf m l q n i) s k)
            replace yS := hid yS
            go_wp2
            go_roundw
            case rel => exact ⟨k + 1, by omega, by go_num, by rw [← hrw.out, Nat.succ_mul]; exact yS.out⟩
            case measure => simp [intOf]; omega
      · obtain rfl : M = k := by omega
        go_wp2_with (first
          | (go_at_call 48; (with_reducible refine (hpo.out _).mono ?_); rintro e w3 ⟨rfl, rfl⟩))
        go_ret2
        exact ⟨_, rfl, by rw [edL_length]; exact rS.out.n0, rS.out.bel⟩
  · rw [edgesAns_c h0]
    have hc : levelI m n = 1 ∨ levelI m n = 2 := by rcases levelI_cases m n with h | h; exact absurd h h0; exact h
    generalize levelI m n = c at *
    clear h0
    rcases hc with rfl | rfl
    all_goals
      go_enter Try.func36, Try.ntmps36
      go_wp2_with (first
        | ((with_reducible refine gate (N := 11) rfl ?_); refine load_mach rfl _ rfl w.heap.size rfl m hS.out.m0 ?_)
        | (go_at_call 64; (with_reducible refine (hcode.out _).mono ?_); rintro e w1 ⟨rfl, hb⟩; replace hS := hid (hS.out.call hb); clear hb hcode))
      go_ret2
      exact ⟨_, rfl, OwnN.nil _ _ _ _, hS.out.bel⟩

set_option maxHeartbeats 4000000 in
set_option maxRecDepth 100000 in
theorem implEdges_any (w : World) (m : Mach) (hk : m.Ok) (n : Int) : Calls Try.prog 37 #[.agg (mcells m), .int .i64 n] w (AnsE w (edgesAns m n)) := by
  have hS := hid ((St.start w).newMB m 31)
  have hcode := hid (fun W => levelCode_any W m hk n)
  by_cases h0 : levelI m n = 0
  · obtain ⟨l, s, n, g, rfl, hn5, hnl, hpw⟩ := levelI_good h0
    rw [h0] at hcode
    rw [edgesAns_0 g h0]
    have l2 := g.l2
    have s16 := g.s16
    have s1 := g.s1
    have hgr := hid (fun W hW => graph_any w.heap.size W m hW l s g n (by omega) (by omega))
    have hpl := hid (fun q => permZ_length m l q n)
    have hget := hid (fun q i (hi : i < pw l n) => permZ_get m l q n i hi)
    have hpos := pw_pos l (by omega) n
    generalize hI : inv m l s = I at *
    clear h0
    replace hI := hid hI
    replace hk := hid hk; replace g := hid g
    generalize hMn : pw l n = M at *
    replace hMn := hid hMn
    go_enter Try.func37, Try.ntmps37
    go_wp2_with (first
      | ((with_reducible refine gate (N := 12) rfl ?_); refine load_mach rfl _ rfl w.heap.size rfl m hS.out.m0 ?_)
      | (go_at_call 65; (with_reducible refine (hcode.out _).mono ?_); rintro e w1 ⟨rfl, hb⟩; replace hS := hid (hS.out.call hb); clear hb hcode)
      | (go_at_call 66; (with_reducible refine (hgr.out _ hS.out.m0).mono ?_); rintro e w2 ⟨vA, vB, rfl, hG, hb⟩; replace hS := hid (hS.out.call hb); obtain ⟨gA, cA, rfl, _, _⟩ := hG.2.1.blk (fun e => by have h1 := congrArg List.length e; rw [tabA_length] at h1; simp at h1; omega); rw [tabA_length] at hG; replace hG := hid hG; have hgc0 := hG.out.c0; clear hb hgr))
    generalize w1.heap.size = G at *
    go_loopw [8, 24] (fun v i wr => ∃ k : Nat, k ≤ M ∧ i = .int .i64 k ∧ St w2.heap.size w2 [Asn.ownN w2.heap.size 81 3 v (k * s) (ecs (edL (fun q i => pf m l q n i) s k 0))] wr) (fun _ i _ => M - (intOf i).toNat)
    case atStart => exact ⟨0, Nat.zero_le _, rfl, by rw [Nat.zero_mul]; exact (St.start _).nilN _ _⟩
    case round =>
      obtain ⟨k, hk', rfl, rS⟩ := hrel
      clear hgc0
      have hgc1 := (hG.out.below rS.bel).c1
      replace rS := hid rS
      by_cases hkM : k < M
      · go_wp2
        clear hgc1
        go_loopw [8, 32] (fun v i wr => ∃ q : Nat, q ≤ s ∧ i = .int .i64 q ∧ St w2.heap.size w2 [Asn.ownN w2.heap.size 81 3 v (k * s + q) (ecs (edL (fun q i => pf m l q n i) s k q))] wr) (fun _ i _ => s - (intOf i).toNat)
        case atStart => exact ⟨0, Nat.zero_le _, rfl, rS.out⟩
        case round =>
          obtain ⟨q, hq, rfl, yS⟩ := hrel
          clear rS
          by_cases hqs : q < s
          · obtain ⟨r, cr, hr⟩ := (hG.out.below yS.bel).2.1.row q _ (tabA_get m l n s q hqs)
            obtain ⟨gr, cc, rfl, _, _⟩ := hr.blk (fun e => by have h1 := congrArg List.length e; rw [ints_length, hpl.out] at h1; simp at h1; omega)
            rw [ints_length, hpl.out] at cr hr
            have cR := hr.cellAt k (.int .i64 ((pf m l q n k : Nat) : Int)) (by simp [ints, hget.out q k hkM])
            have hsn := hid (edL_snoc (fun q i => pf m l q n i) s k q)
            have hks := hid (show k * s + q ≤ 1000000 from by have h2 : k * s ≤ 243 * 16 := Nat.mul_le_mul (by omega) s16; omega)
            replace yS := hid yS
            clear hr
            generalize pf m l q n k = pk at *
            go_wp2_with (first
              | ((with_reducible refine gate (N := 46) rfl ?_); refine St.appNw 49 81 _ 3 24 Try.underlying49 info_edge rfl (by omega) (by omega) rfl _ _ rfl _ _ _ rfl yS.out (c3 k q pk) rfl (c3_one _ _ _) rfl (by have := hks.out; omega) ?_; intro gn cap w4 yS'; replace yS := hid yS'; clear yS'))
            go_roundw
            case rel => exact ⟨q + 1, by omega, by go_num, by rw [hsn.out, ecs_snoc]; exact yS.out⟩
            case measure => simp [intOf]; omega
          · obtain rfl : s = q := by omega
            have hrw := hid (edL_row (fun q i => pf m l q n i) s k)
            replace yS := hid yS
            go_wp2
            go_roundw
            case rel => exact ⟨k + 1, by omega, by go_num, by rw [← hrw.out, Nat.succ_mul]; exact yS.out⟩
            case measure => simp [intOf]; omega
      · obtain rfl : M = k := by omega
        go_wp2
        go_ret2
        exact ⟨_, rfl, by rw [edL_length]; exact rS.out.n0.mono (hS.out.le), (hS.out.call rS.out.bel).bel⟩
  · rw [edgesAns_c h0]
    have hc : levelI m n = 1 ∨ levelI m n = 2 := by rcases levelI_cases m n with h | h; exact absurd h h0; exact h
    generalize levelI m n = c at *
    clear h0
    rcases hc with rfl | rfl
    all_goals
      go_enter Try.func37, Try.ntmps37
      go_wp2_with (first
        | ((with_reducible refine gate (N := 12) rfl ?_); refine load_mach rfl _ rfl w.heap.size rfl m hS.out.m0 ?_)
        | (go_at_call 65; (with_reducible refine (hcode.out _).mono ?_); rintro e w1 ⟨rfl, hb⟩; replace hS := hid (hS.out.call hb); clear hb hcode))
      go_ret2
      exact ⟨_, rfl, OwnN.nil _ _ _ _, hS.out.bel⟩
end Go.Proofs.Ytapbcfnlcnboeaa
