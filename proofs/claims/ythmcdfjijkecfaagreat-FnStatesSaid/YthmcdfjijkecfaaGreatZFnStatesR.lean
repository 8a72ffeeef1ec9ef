/- What the proof of FnStates leans on, part 18 of 29. -/
import Derived.Test.YthmcdfjijkecfaaGreatZFnStatesQ
/- SectionOfPortrait: what the reference answers, and the law. -/
namespace Go.Proofs.YthmcdfjijkecfaaGreat
open Go.RowKit
set_option linter.unusedVariables false
set_option linter.unusedSimpArgs false
-- @LONG

open Classical in
theorem wcode_sop (d n : Int) (g : List Int) (ws : ByteArray) : wcode d n g ws (n - 1) = (sopAns d n g ws).2 := by
  unfold wcode sopAns
  by_cases hp : pcode d n [g] = 0
  · rw [if_pos hp, if_pos hp]
    by_cases hw : IsWd d ws
    · rw [if_pos hw, if_pos hw]
      by_cases hn : (ws.size : Int) < n
      · rw [if_pos hn, if_pos (by omega)]
      · rw [if_neg hn, if_neg (by omega)]
    · rw [if_neg hw, if_neg hw]
  · rw [if_neg hp, if_neg hp]
set_option maxHeartbeats 4000000 in
set_option maxRecDepth 100000 in
theorem specSop_any (w : World) (d n : Int) (hn64 : -9223372036854775808 ≤ n ∧ n ≤ 9223372036854775807) (b0 : Nat) (v : Value) (g : List Int) (hg : Own w b0 2 v (ints g)) (hl : g.length < 2000000) (ws : ByteArray) (hws : ws.size < 1000000000000) :
    Calls Tryz.prog 60 #[.int .i64 d, .int .i64 n, v, .string ws] w fun e w' => ∃ v', e = .returned (.tuple #[v', .int .i64 (sopAns d n g ws).2]) ∧ Own w' w.heap.size 2 v' (ints (sopAns d n g ws).1) ∧ Below w.heap.size w w' := by
  classical
  have hS := hid (St.arg w hg)
  by_cases hz : (sopAns d n g ws).2 = 0
  · have hwo := hid (fun W (hO : Own W 0 2 v (ints g)) => (by have h := l03Wordy_any W d n 0 v g hO hl ws hws (n - 1); rw [wcode_sop, hz] at h; exact h : Calls Tryz.prog 161 #[.int .i64 d, .int .i64 n, v, .string ws, .int .i64 (n - 1)] W fun e w' => e = .returned (.int .i64 0) ∧ Below W.heap.size W w'))
    rcases pcode_cases d n g with hp | hp | ⟨hp, d, n, rfl, rfl, hd, hn1, hn4, hgp⟩
    · rw [sopAns_p hp (by decide)] at hz; exact absurd hz (by decide)
    · rw [sopAns_p hp (by decide)] at hz; exact absurd hz (by decide)
    · by_cases hw : IsWd d ws
      · by_cases hlt : (ws.size : Int) < n
        · rw [sopAns_0 hp, if_pos hw, if_pos hlt]
          obtain ⟨hwe, hwl, hw40⟩ := lets_wstr ws hw
          have hwsz : (lets ws).length = ws.size := by have h := wstr_size (lets ws); rw [← hwe] at h; omega
          obtain ⟨N, hN⟩ : ∃ N, n - ws.size = N := ⟨_, rfl⟩
          have eN : (n : Int) - (ws.size : Int) = (N : Int) := by omega
          have ew : IntKind.i64.wrap ((n : Int) - (ws.size : Int)) = (N : Int) := by rw [eN]; exact IntWalk.i64_in _ (by omega)
          have en : IntKind.i64.wrap ((n : Int) - 1) = (n : Int) - 1 := IntWalk.i64_in _ (by omega)
          have hpo := hid (fun k (hk : k < N) W => l01Power_any d k (by omega) (by have := pw5 (n := k) hd (by omega); omega) (by omega) W)
          have hwo2 := hid (fun k j (hk : k < N) (hj : j < pw d k) W => l01WordOf_any d (by omega) (by omega) k j (by omega) (by have := pw5 (n := k) hd (by omega); omega) W)
          have hat := hid (fun k j (hk : k < N) (W : World) (hO : Own W 0 2 v (ints g)) => (by
            have h := l03At_any W d n hd hn4 0 v g hO hgp (lets ws ++ wrd d k j) (fun x hx => (List.mem_append.1 hx).elim (hwl x) (wrd_lt d (by omega) k j x)) (by rw [List.length_append, wrd_length]; omega)
            rw [wstr_append, ← hwe] at h; exact h : Calls Tryz.prog 162 #[.int .i64 d, v, .string (ws ++ wstr (wrd d k j))] W fun e w' => e = .returned (.int .i64 (gAt d g (lets ws ++ wrd d k j))) ∧ W = w'))
          have hss := hid (fun k j (hk : k < N) => (show ws.size + (wstr (wrd d k j)).size ≤ 9223372036854775807 by rw [wstr_size, wrd_length]; omega))
          have hnO := hid (fun L W (h : St w.heap.size w L W) => h.newOwn [] 2 (by simp))
          simp only [List.length_nil] at hnO
          have hsn := hid (fun k j => byP_snoc d (fun u => gAt d g (lets ws ++ u)) k j)
          have hbl := hid (fun k j => byP_length d (fun u => gAt d g (lets ws ++ u)) k j)
          have hend := hid (fun k => byP_full d (fun u => gAt d g (lets ws ++ u)) k)
          have hb00 := hid (show byL d (fun u => gAt d g (lets ws ++ u)) 0 = [] from rfl)
          have hz0 := hid (fun k => byP_zero d (fun u => gAt d g (lets ws ++ u)) k)
          have hp5 := hid (fun k (hk : k < N) => pw5 (n := k) hd (by omega))
          have hst := hid (fun k (hk : k < N) => (start_le hd (show k ≤ 4 by omega)).1)
          rw [hN]
          replace hg := hid hg; replace hw := hid hw; replace hgp := hid hgp; replace hwe := hid hwe; replace hwl := hid hwl
          generalize byL d (fun u => gAt d g (lets ws ++ u)) = BL at *
          generalize byP d (fun u => gAt d g (lets ws ++ u)) = BP at *
          clear hwsz hz hp
          go_enter Tryz.func60, Tryz.ntmps60
          go_upto_region 5 with (first
            | (go_at_call 161; (with_reducible refine (hwo.out _ hS.out.o0).mono ?_); rintro e w1 ⟨rfl, hb⟩; replace hS := hid (hnO.out _ _ (hS.out.call hb)); clear hb))
          go_wp2
          go_loopw [11, 12] (fun o i wr => ∃ k : Nat, k ≤ N ∧ i = .int .i64 k ∧ St w.heap.size w [Asn.own w.heap.size 2 o (ints (BL k)), Asn.own 0 2 v (ints g)] wr) (fun _ i _ => N - (intOf i).toNat)
          case atStart => exact ⟨0, Nat.zero_le _, rfl, by rw [hb00.out]; exact hS.out⟩
          case round =>
            obtain ⟨k, hk, rfl, rS⟩ := hrel
            clear hS
            replace rS := hid rS
            by_cases hlk : k < N
            · have dk : decide ((k : Int) < (N : Int)) = true := decide_eq_true (by omega)
              have hpk := hid (hpo.out k hlk)
              have hwk := hid (fun j => hwo2.out k j hlk)
              have hak := hid (fun j => hat.out k j hlk)
              have hsk := hid (fun j => hss.out k j hlk)
              have hM5 := hp5.out k hlk
              have hs4 := hst.out k hlk
              have hek := hid (hend.out k)
              rw [← hz0.out] at rS
              generalize pw d k = M at *
              go_wp2
              go_loopw [11, 13] (fun o i wr => ∃ j : Nat, j ≤ M ∧ i = .int .i64 j ∧ St w.heap.size w [Asn.own w.heap.size 2 o (ints (BP k j)), Asn.own 0 2 v (ints g)] wr) (fun _ i _ => M - (intOf i).toNat)
              case atStart => exact ⟨0, Nat.zero_le _, rfl, rS.out⟩
              case round =>
                obtain ⟨j, hj, rfl, rS⟩ := hrel
                replace rS := hid rS
                by_cases hlj : j < M
                · have dj : decide ((j : Int) < (M : Int)) = true := decide_eq_true (by omega)
                  have hwj := hid (hwk.out j hlj)
                  have haj := hid (hak.out j)
                  have hsj := hsk.out j
                  have hsn2 := hid (hsn.out k j)
                  have hil := hid (ints_length (BP k j))
                  have hbl2 := hid (hbl.out k j)
                  generalize gAt d g (lets ws ++ wrd d k j) = fu at *
                  generalize wstr (wrd d k j) = su at *
                  go_wp2_with (first
                    | (go_at_call 120; (with_reducible refine (hpk.out _).mono ?_); rintro e w' ⟨rfl, rfl⟩)
                    | (go_at_call 128; (with_reducible refine (hwj.out _).mono ?_); rintro e w2 ⟨rfl, hb⟩; replace rS := hid (rS.out.call hb); clear hb)
                    | (go_at_call 162; (with_reducible refine (haj.out _ rS.out.o1).mono ?_); rintro e w' ⟨rfl, rfl⟩)
                    | ((with_reducible refine gate (N := 51) rfl ?_); refine St.app 32 2 (.int .i64 0) 8 Tryz.underlying32 info_i64 rfl (by omega) rfl _ _ rfl _ _ rfl rS.out _ rfl rfl (start d k + j) (by rw [hil.out, hbl2.out]) (by omega) ?_; intro gn cn w5 rS'; replace rS := hid rS'; clear rS'))
                  rw [← ints_snoc, ← hsn2.out] at rS
                  go_roundw
                  case rel => exact ⟨j + 1, by omega, by go_num, rS.out⟩
                  case measure => simp [intOf]; omega
                · obtain rfl : j = M := by omega
                  have dj : decide ((j : Int) < (j : Int)) = false := decide_eq_false (by omega)
                  rw [hek.out] at rS
                  go_wp2_with (first
                    | (go_at_call 120; (with_reducible refine (hpk.out _).mono ?_); rintro e w' ⟨rfl, rfl⟩))
                  go_roundw
                  case rel => exact ⟨k + 1, by omega, by go_num, rS.out⟩
                  case measure => simp [intOf]; omega
            · obtain rfl : k = N := by omega
              have dk : decide ((k : Int) < (k : Int)) = false := decide_eq_false (by omega)
              go_wp2
              go_ret2
              exact ⟨_, rfl, rS.out.o0, rS.out.bel⟩
        · rw [sopAns_0 hp, if_pos hw, if_neg hlt] at hz; exact absurd hz (by decide)
      · rw [sopAns_0 hp, if_neg hw] at hz; exact absurd hz (by decide)
  · have hwo := hid (fun W (hO : Own W 0 2 v (ints g)) m (hm : m = n - 1 ∨ (n = -9223372036854775808)) => l03Wordy_any W d n 0 v g hO hl ws hws m)
    obtain ⟨c, hc, he⟩ : ∃ c, c ≠ 0 ∧ sopAns d n g ws = ([], c) := by
      refine ⟨(sopAns d n g ws).2, hz, ?_⟩
      unfold sopAns at hz ⊢
      by_cases hp : pcode d n [g] = 0
      · rw [if_pos hp] at hz ⊢
        by_cases hw : IsWd d ws
        · rw [if_pos hw] at hz ⊢
          by_cases hn : (ws.size : Int) < n
          · rw [if_pos hn] at hz; exact absurd rfl hz
          · rw [if_neg hn]
        · rw [if_neg hw]
      · rw [if_neg hp]
    have hwc : ∀ m : Int, m = IntKind.i64.wrap (n - 1) → wcode d n g ws m = c := fun m hm => by
      by_cases hb : n = -9223372036854775808
      · have hp : pcode d n [g] = 2 := by unfold pcode; rw [if_neg (by unfold IsD; omega)]
        have h1 : wcode d n g ws m = 2 := by unfold wcode; rw [hp]; rfl
        have h2 : sopAns d n g ws = ([], 2) := sopAns_p hp (by decide)
        rw [he] at h2; injection h2 with _ h2
        rw [h1, h2]
      · have e1 : IntKind.i64.wrap (n - 1) = n - 1 := IntWalk.i64_in _ (by omega)
        rw [hm, e1, wcode_sop, he]
    have hwo := hid (fun W (hO : Own W 0 2 v (ints g)) => (by have h := l03Wordy_any W d n 0 v g hO hl ws hws (IntKind.i64.wrap (n - 1)); rw [hwc _ rfl] at h; exact h : Calls Tryz.prog 161 #[.int .i64 d, .int .i64 n, v, .string ws, .int .i64 (IntKind.i64.wrap (n - 1))] W fun e w' => e = .returned (.int .i64 c) ∧ Below W.heap.size W w'))
    rw [he]
    have dn : (c != 0) = true := by simpa using hc
    replace hg := hid hg
    clear hz hwc he
    generalize hwr : IntKind.i64.wrap (n - 1) = n1 at *
    go_enter Tryz.func60, Tryz.ntmps60
    go_wp2_with (first
      | (go_at_call 161; (with_reducible refine (hwo.out _ hS.out.o0).mono ?_); rintro e w1 ⟨rfl, hb⟩; replace hS := hid (hS.out.call hb); clear hb))
    go_ret2
    exact ⟨_, rfl, Own.nil _ _ _, hS.out.bel⟩
end Go.Proofs.YthmcdfjijkecfaaGreat
