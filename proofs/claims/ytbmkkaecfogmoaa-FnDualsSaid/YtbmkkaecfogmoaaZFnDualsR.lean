/- What the proof of FnDuals leans on, part 18 of 26. -/
import Derived.Test.YtbmkkaecfogmoaaZFnDualsQ
/- The reference's least equal states of a large machine. -/
namespace Go.Proofs.Ytbmkkaecfogmoaa
open Go.RowKit
set_option linter.unusedVariables false
set_option linter.unusedSimpArgs false

/-- Equal rows of bytes. -/
theorem rc1_iff (f : Nat → Nat → Nat) (L a b : Nat) (hL : L ≤ 3) : rc1 .u8 f L a = rc1 .u8 f L b ↔ (alls L fun x => f a x == f b x) = true := by
  rw [alls_iff]
  constructor
  · intro h x hx
    have h1 := rc1_get .u8 f L a x (by omega)
    rw [h, rc1_get .u8 f L b x (by omega), if_pos hx, if_pos hx] at h1
    simp at h1; simp; omega
  · intro h
    unfold rc1
    apply List.map_congr_left
    intro x _
    by_cases hx : x < L
    · have := h x hx
      simp at this
      rw [if_pos hx, if_pos hx, this]
    · rw [if_neg hx, if_neg hx]
theorem lit3_iff {a b c a' b' c' : Nat} : ([Value.int .u8 (a : Int), .int .u8 (b : Int), .int .u8 (c : Int)] = [.int .u8 (a' : Int), .int .u8 (b' : Int), .int .u8 (c' : Int)]) ↔ a = a' ∧ b = b' ∧ c = c' := by
  constructor
  · intro h; simp at h; omega
  · rintro ⟨rfl, rfl, rfl⟩; rfl
theorem rc1_lit256 (f : Nat → Nat → Nat) (L q : Nat) (h : ∀ x, x < L → f q x < 256) : ∃ a b c : Nat, rc1 .u8 f L q = [.int .u8 (a : Int), .int .u8 (b : Int), .int .u8 (c : Int)] ∧ a < 256 ∧ b < 256 ∧ c < 256 := by
  have hx : ∀ x, (if x < L then f q x else 0) < 256 := fun x => by
    by_cases hx : x < L
    · rw [if_pos hx]; exact h x hx
    · rw [if_neg hx]; omega
  exact ⟨_, _, _, rfl, hx 0, hx 1, hx 2⟩
theorem clsL_stable {T : Tab} {k : Nat} (h : Stable T k) : clsL T (k + 1) T.n = clsL T k T.n := by
  unfold clsL
  apply List.map_congr_left
  intro q hq
  exact h q (List.mem_range.1 hq)
/-- A list filled up to q, with x at q. -/
theorem filL_at (f : Nat → Nat) (q n x : Nat) (hq : q < n) : ∀ j, j < n → ((nats (filL f q n)).set q (.int .i64 (x : Int)))[j]? = some (.int .i64 ((if j = q then x else if j < q then f j else 0 : Nat) : Int)) := fun j hj => by
  rw [List.getElem?_set]
  by_cases e : q = j
  · subst e; rw [if_pos rfl, if_pos (by rw [nats_length, filL_length]; exact hj), if_pos rfl]
  · rw [if_neg e, if_neg (Ne.symm e)]
    simp [nats, filL, hj]
theorem filL_done (f : Nat → Nat) (q n x : Nat) (h : x = f q) : (nats (filL f q n)).set q (.int .i64 (x : Int)) = nats (filL f (q + 1) n) := by subst h; exact filL_set f q n

set_option maxHeartbeats 8000000 in
set_option maxRecDepth 100000 in
theorem l07Classes_any (w : World) (base : Nat) (vN vO : Value) (T : Tab) (hT : T.Ok) (hL : T.L ≤ 3) (hL0 : 0 < T.L) (hn : T.n < 100000) (hot : ∀ q x, q < T.n → x < T.L → T.ot q x < 256) (hG : LG w base vN vO T) :
    Calls Try.prog 246 #[.agg #[.int .i64 T.L, vN, vO]] w fun e w' => ∃ v, e = .returned v ∧ Own w' w.heap.size 2 v (nats ((List.range T.n).map (fix T))) ∧ Below w.heap.size w w' := by
  have hpos := hT.pos
  obtain ⟨gN, cN, rfl⟩ := hG.1.blk hpos
  obtain ⟨gO, cO, rfl⟩ := hG.2.blk hpos
  have hGW := hid (fun W (hb : Below w.heap.size w W) => hG.below hb)
  have hcN := hid (fun W (hb : Below w.heap.size w W) q x (hq : q < T.n) (hx : x < T.L) => (hG.below hb).1.cellAt (q * 3 + x) _ (rcs_in .i64 T.nx T.L T.n q x hq hx hL))
  have hrO := hid (fun W (hb : Below w.heap.size w W) q (hq : q < T.n) => (hG.below hb).2.range (q * 3) (rc1 .u8 T.ot T.L q) (rcs_row .u8 T.ot T.L T.n q hq))
  have hrw := hid (fun a b => rc1_iff T.ot T.L a b hL)
  have hS := hid ((St.start w).newBlk #[.int .i64 T.L, .slice (some ⟨gN, 0, none⟩) T.n cN, .slice (some ⟨gO, 0, none⟩) T.n cO] 232)
  have hmk := fun W : World => run_make_row' (P := Try.prog) 29 2 (.int .i64 0) 8 Try.underlying29 info_i64 rfl .i64 .i64 T.n (by omega) (by omega) W
  have hmc := hid (toList_madeCells_one (.int .i64 0) T.n)
  generalize madeCells #[.int .i64 0] T.n = mc at *
  have hmcs := hid (show mc.size = T.n by rw [← Array.length_toList, hmc.out, List.length_replicate])
  have hcb := hid (fun k => cnt1_le T (k + 1) T.n)
  have hcp := hid (fun k => cnt1_pos T k T.n hpos)
  have hst := hid (fun k => stable_or T k)
  have hsc := hid (fun k (h : Stable T (k + 1)) => stable_cnt h)
  have hfx := hid (fun k hk h => clsL_fix hT (k := k) hk h)
  have hnx := hid (fun q x (hq : q < T.n) (hx : x < T.L) => hT.nx q x hq hx)
  have hc0 := hid (show clsL T 0 T.n = filL (cls T 0) 0 T.n by unfold clsL filL; apply List.map_congr_left; intro j _; simp [cls])
  have hlk := hid (fun k r q => like_iff T (cls T k) r q)
  have hci := hid (fun k r q => cls_iff T k r q)
  have hcle := hid (fun k q => cls_le T k q)
  have hcs' := hid (fun k q (h : ∀ j, j < q → like T (cls T k) j q = false) => (show cls T (k + 1) q = q from by rw [cls_succ]; exact fst_eq _ _ _ (Nat.le_refl _) h (fun h' => absurd h' (Nat.lt_irrefl _))))
  have hlit := hid (fun q (hq : q < T.n) => rc1_lit256 T.ot T.L q (fun x hx => hot q x hq hx))
  have hcst := hid (fun k (h : Stable T k) => clsL_stable h)
  have hgd := guard_b3
  have hall := hid (fun L' p => alls_iff L' p)
  replace hT := hid hT
  clear hG
  generalize hnn : T.n = n at *
  replace hnn := hid hnn
  generalize hLL : T.L = L at *
  replace hLL := hid hLL
  have hcl : w.heap.size < w.heap.size + 1 := Nat.lt_succ_self _
  have e0 : (w.alloc (.cells #[.int .i64 L, .slice (some ⟨gN, 0, none⟩) n cN, .slice (some ⟨gO, 0, none⟩) n cO] 232)).cell? ⟨w.heap.size, 1, none⟩ = some (.slice (some ⟨gN, 0, none⟩) n cN) := cell_of_row _ _ 1 _ _ _ hS.out.k0
  go_enter Try.func246, Try.ntmps246
  go_wp2
  have yS := hid (hS.out.newArr mc n hmcs.out 2 (by omega))
  rw [hmc.out, filL_zero (cls T 0) n, ← hc0.out, heap_alloc_size] at yS
  clear hS e0
  generalize (w.alloc (.cells #[.int .i64 L, .slice (some ⟨gN, 0, none⟩) n cN, .slice (some ⟨gO, 0, none⟩) n cO] 232)).alloc (.cells mc 2) = w1 at *
  go_loopg [4, 5] n (fun gk v ks wr => ∃ k K : Nat, ks = .int .i64 K ∧ k ≤ K ∧ (k = 0 → K = 0) ∧ (k ≠ 0 → K = cnt1 T k n) ∧ gk = n - k ∧ St w.heap.size w [Asn.own w.heap.size 2 v (nats (clsL T k n)), Asn.blk w.heap.size #[.int .i64 L, .slice (some ⟨gN, 0, none⟩) n cN, .slice (some ⟨gO, 0, none⟩) n cO] 232] wr)
  case atStart => exact ⟨0, 0, rfl, Nat.le_refl _, fun _ => rfl, fun h => absurd rfl h, rfl, yS.out⟩
  case round =>
    obtain ⟨k, K, rfl, hkK, hK0, hK1, rfl, rS⟩ := hrel
    clear yS
    replace hK0 := hid hK0; replace hK1 := hid hK1
    obtain ⟨g1, c1, rfl, _, _⟩ := rS.o0.blk (fun e => by have h1 := congrArg List.length e; rw [nats_length, clsL_length, List.length_nil] at h1; omega)
    rw [nats_length, clsL_length] at rS ⊢
    have yS := hid (rS.newArr mc n hmcs.out 2 (by omega))
    rw [hmc.out, filL_zero (cls T (k + 1)) n] at yS
    clear rS
    go_wp2
    generalize wr.alloc (.cells mc 2) = wa at *
    generalize wr.heap.size = g2 at *
    go_loopw [7, 8] (fun ct i wr => ∃ q : Nat, q ≤ n ∧ i = .int .i64 q ∧ ct = .int .i64 (cnt1 T (k + 1) q : Nat) ∧ St w.heap.size w [Asn.own w.heap.size 2 (.slice (some ⟨g2, 0, none⟩) n n) (nats (filL (cls T (k + 1)) q n)), Asn.own w.heap.size 2 (.slice (some ⟨g1, 0, none⟩) n c1) (nats (clsL T k n)), Asn.blk w.heap.size #[.int .i64 L, .slice (some ⟨gN, 0, none⟩) n cN, .slice (some ⟨gO, 0, none⟩) n cO] 232] wr) (fun _ i _ => n - (intOf i).toNat)
    case atStart => exact ⟨0, Nat.zero_le _, rfl, rfl, yS.out⟩
    case round =>
      obtain ⟨q, hq, rfl, rfl, zS⟩ := hrel
      clear yS
      replace zS := hid zS
      by_cases hqn : q < n
      · have dq : decide ((q : Int) < (n : Int)) = true := decide_eq_true (by omega)
        obtain ⟨u, hu⟩ := filL_get (cls T (k + 1)) q n q hqn
        have co := Own.cellAt zS.out.o0 q u hu
        have fo := Own.frozenAt zS.out.o0 (by rw [nats_length, filL_length]) q
        have tS := hid (zS.out.setOwn (by rw [nats_length, filL_length]) q (.int .i64 (q : Int)) hqn)
        have hct := cnt1_le T (k + 1) q
        have hcs := hid (show cnt1 T (k + 1) (q + 1) = cnt1 T (k + 1) q + if cls T (k + 1) q = q then 1 else 0 from rfl)
        clear hu zS
        generalize cnt1 T (k + 1) q = ct at *
        go_upto_region 8 with (fail)
        clear co fo
        generalize wr.setCell ⟨g2, q, none⟩ (.int .i64 (q : Int)) = wb at *
        go_wp2
        go_loopw [9] (fun i wr => ∃ r : Nat, r ≤ q ∧ i = .int .i64 r ∧ Hid (∀ j, j < r → like T (cls T k) j q = false) ∧ St w.heap.size w [Asn.own w.heap.size 2 (.slice (some ⟨g2, 0, none⟩) n n) ((nats (filL (cls T (k + 1)) q n)).set q (.int .i64 (q : Int))), Asn.own w.heap.size 2 (.slice (some ⟨g1, 0, none⟩) n c1) (nats (clsL T k n)), Asn.blk w.heap.size #[.int .i64 L, .slice (some ⟨gN, 0, none⟩) n cN, .slice (some ⟨gO, 0, none⟩) n cO] 232] wr) (fun i _ => q - (intOf i).toNat)
        case atStart => exact ⟨0, Nat.zero_le _, rfl, fun j hj => absurd hj (by omega), tS.out⟩
        case round =>
          obtain ⟨r, hr, rfl, hno, uS⟩ := hrel
          clear tS
          replace uS := hid uS
          have hat := hid (filL_at (cls T (k + 1)) q n q hqn)
          by_cases hrq : r < q
          · have hrn : r < n := by omega
            have e1 := Own.cellAt uS.out.o1 q _ (clsL_get T k n q hqn)
            have e2 := Own.cellAt uS.out.o1 r _ (clsL_get T k n r hrn)
            have e3 : wr.cell? ⟨w.heap.size, 2, none⟩ = some (.slice (some ⟨gO, 0, none⟩) n cO) := cell_of_row _ _ 2 _ _ _ uS.out.k2
            have rq := hid (hrO.out wr uS.out.bel q hqn)
            have rr := hid (hrO.out wr uS.out.bel r hrn)
            have hoe := hid (hrw.out r q)
            have hl := hid (hlk.out k r q)
            obtain ⟨a0, a1, a2, hra, ha⟩ := hlit.out q hqn
            obtain ⟨b0, b1, b2, hrb, hb⟩ := hlit.out r hrn
            rw [hra, hrb, lit3_iff] at hoe
            rw [hra] at rq
            rw [hrb] at rr
            clear hra hrb
            have ea0 : wr.cell? ⟨gO, q * 3, none⟩ = some (.int .u8 (a0 : Int)) := rq.out 0 _ rfl
            have ea1 : wr.cell? ⟨gO, q * 3 + 1, none⟩ = some (.int .u8 (a1 : Int)) := rq.out 1 _ rfl
            have ea2 : wr.cell? ⟨gO, q * 3 + 2, none⟩ = some (.int .u8 (a2 : Int)) := rq.out 2 _ rfl
            have eb0 : wr.cell? ⟨gO, r * 3, none⟩ = some (.int .u8 (b0 : Int)) := rr.out 0 _ rfl
            have eb1 : wr.cell? ⟨gO, r * 3 + 1, none⟩ = some (.int .u8 (b1 : Int)) := rr.out 1 _ rfl
            have eb2 : wr.cell? ⟨gO, r * 3 + 2, none⟩ = some (.int .u8 (b2 : Int)) := rr.out 2 _ rfl
            generalize hcq : cls T k q = cq at *
            generalize hcr : cls T k r = cr at *
            replace hcq := hid hcq; replace hcr := hid hcr
            have hnext : Hid (like T (cls T k) r q = false → ∀ j, j < r + 1 → like T (cls T k) j q = false) := fun h j hj => by
              by_cases e : j = r
              · subst e; exact h
              · exact hno.out j (by omega)
            have dr : decide ((r : Int) < (q : Int)) = true := decide_eq_true (by omega)
            by_cases hcc : cq = cr
            · subst hcc
              have hbz : ((cq : Int) == (cq : Int)) = true := by simp
              obtain ⟨ro, hro⟩ : ∃ ro : Bool, Hid (Tells ro (a0 = b0 ∧ a1 = b1 ∧ a2 = b2)) := ⟨decide _, decide_eq_true_iff⟩
              have heq := fun W : World => eq_b3 W a0 a1 a2 b0 b1 b2 ha hb ro hro.out
              clear ha hb
              go_upto_region 11 with (fail)
              go_quiet (fail)
              clear ea0 ea1 ea2 eb0 eb1 eb2 e1 e2 e3 heq rq rr hbz
              replace uS := hid (uS.out.drewN nq)
              generalize wr.drewN nq = wc at *
              go_wp2
              go_loopw [10, 11] (fun sm i wr => ∃ x : Nat, x ≤ L ∧ i = .int .i64 x ∧ sm = .bool (ro && alls x fun y => cls T k (T.nx q y) == cls T k (T.nx r y)) ∧ St w.heap.size w [Asn.own w.heap.size 2 (.slice (some ⟨g2, 0, none⟩) n n) ((nats (filL (cls T (k + 1)) q n)).set q (.int .i64 (q : Int))), Asn.own w.heap.size 2 (.slice (some ⟨g1, 0, none⟩) n c1) (nats (clsL T k n)), Asn.blk w.heap.size #[.int .i64 L, .slice (some ⟨gN, 0, none⟩) n cN, .slice (some ⟨gO, 0, none⟩) n cO] 232] wr) (fun _ i _ => L - (intOf i).toNat)
              case atStart => exact ⟨0, Nat.zero_le _, rfl, by simp [alls], uS.out⟩
              case round =>
                obtain ⟨x, hx, rfl, rfl, vS⟩ := hrel
                clear uS
                replace vS := hid vS
                have e0 : wr.cell? ⟨w.heap.size, 0, none⟩ = some (.int .i64 (L : Int)) := cell_of_row _ _ 0 _ _ _ vS.out.k2
                have hsx := hid (alls_succ x fun y => cls T k (T.nx q y) == cls T k (T.nx r y))
                cases hsv : (ro && alls x fun y => cls T k (T.nx q y) == cls T k (T.nx r y)) with
                | false =>
                  have hlf := hid (hnext.out (by
                    cases hlv : like T (cls T k) r q with
                    | false => rfl
                    | true =>
                      obtain ⟨_, ho1, hx1⟩ := hl.out.1 hlv
                      have h1 : ro = true := hro.out.out.2 (by
                        obtain ⟨u1, u2, u3⟩ := hoe.out.2 ((hall.out _ _).2 fun x hx => by simpa using ho1 x hx)
                        exact ⟨u1.symm, u2.symm, u3.symm⟩)
                      have h2 : (alls x fun y => cls T k (T.nx q y) == cls T k (T.nx r y)) = true := (hall.out _ _).2 fun y hy => by simpa using (hx1 y (by omega)).symm
                      rw [h1, h2] at hsv
                      cases hsv))
                  clear hsv
                  by_cases hxL : x < L
                  · have dx : decide ((x : Int) < (L : Int)) = true := decide_eq_true (by omega)
                    go_wp2
                    go_roundw
                    case rel => exact ⟨r + 1, by omega, by go_num, hlf, vS.out⟩
                    case measure => simp [intOf]; omega
                  · have dx : decide ((x : Int) < (L : Int)) = false := decide_eq_false (by omega)
                    go_wp2
                    go_roundw
                    case rel => exact ⟨r + 1, by omega, by go_num, hlf, vS.out⟩
                    case measure => simp [intOf]; omega
                | true =>
                  rw [Bool.and_eq_true] at hsv
                  have hro1 := hsv.1
                  subst hro1
                  by_cases hxL : x < L
                  · have dx : decide ((x : Int) < (L : Int)) = true := decide_eq_true (by omega)
                    rw [hsv.2] at hsx
                    clear hsv
                    have e1 : wr.cell? ⟨w.heap.size, 1, none⟩ = some (.slice (some ⟨gN, 0, none⟩) n cN) := cell_of_row _ _ 1 _ _ _ vS.out.k2
                    have e2 := hcN.out wr vS.out.bel q x hqn hxL
                    have e3 := hcN.out wr vS.out.bel r x hrn hxL
                    have h1 := hnx.out q x hqn hxL
                    have h2 := hnx.out r x hrn hxL
                    have e4 := Own.cellAt vS.out.o1 _ _ (clsL_get T k n _ h1)
                    have e5 := Own.cellAt vS.out.o1 _ _ (clsL_get T k n _ h2)
                    generalize T.nx q x = a at *
                    generalize T.nx r x = b at *
                    generalize cls T k a = ca at *
                    generalize cls T k b = cb at *
                    have hbeq : (((ca : Nat) : Int) == ((cb : Nat) : Int)) = (ca == cb) := by
                      by_cases e : ca = cb
                      · subst e; simp
                      · have h1 : (ca == cb) = false := by simpa using e
                        rw [h1]
                        have : ((ca : Nat) : Int) ≠ ((cb : Nat) : Int) := by omega
                        simpa using this
                    replace hbeq := hid hbeq
                    have x3 : (x : Int) < 3 := by omega
                    have x0 : (0 : Int) ≤ (x : Int) := Int.natCast_nonneg _
                    go_upto_region 15 with (fail)
                    go_quiet (fail)
                    go_wp2
                    go_roundw
                    case rel => exact ⟨x + 1, by omega, by go_num, by rw [hsx.out]; simp; first | exact hbeq.out | (rw [← hbeq.out]; simp), vS.out.drewN _⟩
                    case measure => simp [intOf]; omega
                  · obtain rfl : L = x := by omega
                    have dx : decide ((L : Int) < (L : Int)) = false := decide_eq_false (by omega)
                    have hlv := hid (show like T (cls T k) r q = true from hl.out.2 ⟨by first | trivial | rfl, fun x hx => by
                        obtain ⟨u1, u2, u3⟩ := hro.out.out.1 rfl
                        have := (hall.out _ _).1 (hoe.out.1 ⟨u1.symm, u2.symm, u3.symm⟩) x hx
                        simpa using this, fun x hx => by have := (hall.out _ _).1 hsv.2 x hx; simpa using (by simpa using this : cls T k (T.nx q x) = cls T k (T.nx r x)).symm⟩)
                    clear hsv
                    have hce := hid ((hci.out k r q).2 hlv.out)
                    have hrr := hid (hcle.out (k + 1) r)
                    have e1 := Own.cellAt vS.out.o0 r _ (hat.out r hrn)
                    rw [if_neg (show ¬ r = q by omega), if_pos hrq] at e1
                    have e2 := Own.cellAt vS.out.o0 q _ (hat.out q hqn)
                    rw [if_pos rfl] at e2
                    have fo := Own.frozenAt vS.out.o0 (by rw [List.length_set, nats_length, filL_length]) q
                    have hdn := hid (filL_done (cls T (k + 1)) q n (cls T (k + 1) r) hce.out)
                    have hsk := hid (show cls T (k + 1) q ≠ q from by have h1 := hce.out; have h2 := hrr.out; omega)
                    have hcrr : cls T (k + 1) r < q := by have h2 := hrr.out; omega
                    generalize hcv : cls T (k + 1) r = cv at *
                    replace hcv := hid hcv
                    have vS2 := hid (vS.out.setOwn (by rw [List.length_set, nats_length, filL_length]) q (.int .i64 (cv : Int)) hqn)
                    rw [List.set_set, hdn.out] at vS2
                    rw [if_neg hsk.out] at hcs
                    have hne : ((cv : Int) == (q : Int)) = false := by simp; omega
                    go_wp2
                    go_roundw
                    case rel => exact ⟨q + 1, by omega, by go_num, by rw [hcs.out]; rfl, vS2.out⟩
                    case measure => simp [intOf]; omega
            · have hcz : ((cq : Int) == (cr : Int)) = false := by simp; omega
              have hlf := hid (hnext.out (by
                cases hlv : like T (cls T k) r q with
                | false => rfl
                | true => exact absurd (hl.out.1 hlv).1.symm hcc))
              have e0 : ∀ d, (wr.drewN d).cell? ⟨w.heap.size, 0, none⟩ = some (.int .i64 (L : Int)) := fun d => cell_of_row _ _ 0 _ _ _ uS.out.k2
              replace e0 := hid e0
              go_upto_region 11 with (fail)
              go_quiet (fail)
              have e00 := e0.out nq
              clear e1 e2 e3 ea0 ea1 ea2 eb0 eb1 eb2 ha hb rq rr hcc
              replace uS := hid (uS.out.drewN nq)
              generalize wr.drewN nq = wc at *
              go_wp2
              go_loopw [10, 11] (fun sm i wr => i = .int .i64 0 ∧ sm = .bool false ∧ wr = wc) (fun _ _ _ => 0)
              case atStart => exact ⟨rfl, rfl, rfl⟩
              case round =>
                obtain ⟨rfl, rfl, rfl⟩ := hrel
                go_wp2
                go_roundw
                case rel => exact ⟨r + 1, by omega, by go_num, hlf, uS.out⟩
                case measure => simp [intOf]; omega
          · obtain rfl : q = r := by omega
            have dr : decide ((q : Int) < (q : Int)) = false := decide_eq_false (by omega)
            have hqq := hid (hcs'.out k q hno.out)
            have e2 := Own.cellAt uS.out.o0 q _ (hat.out q hqn)
            rw [if_pos rfl] at e2
            have hdn := hid (filL_done (cls T (k + 1)) q n q hqq.out.symm)
            rw [hdn.out] at uS
            rw [if_pos hqq.out] at hcs
            have hne : ((q : Int) == (q : Int)) = true := by simp
            go_wp2
            go_roundw
            case rel => exact ⟨q + 1, by omega, by go_num, by rw [hcs.out]; go_num, uS.out⟩
            case measure => simp [intOf]; omega
      · obtain rfl : n = q := by omega
        have dq : decide ((n : Int) < (n : Int)) = false := decide_eq_false (by omega)
        have hS2 := zS.out
        rw [← hnn.out, filL_all, hnn.out] at hS2
        replace hS2 := hid hS2
        clear zS
        have hcn1 := hcb.out k
        have hcn2 := hcp.out k
        by_cases hcK : cnt1 T (k + 1) n = K
        · have hk0 : k ≠ 0 := fun e => by have := hK0.out e; omega
          have hKk := hK1.out hk0
          have hstab := hid (show Stable T k from by
            obtain ⟨k', rfl⟩ : ∃ k', k = k' + 1 := ⟨k - 1, by omega⟩
            apply Classical.byContradiction
            intro h
            have h1 := hst.out k' h
            have h2 : cnt1 T (k' + 2) n = K := hcK
            omega)
          have hf := hid (hfx.out k (by omega) hstab.out)
          have hf2 := hid (hcst.out k hstab.out)
          have hz : ((K : Int) == (K : Int)) = true := by simp
          subst hcK
          have hres := hid (show clsL T (k + 1) n = (List.range n).map (fix T) by rw [hf2.out, hf.out])
          generalize cnt1 T (k + 1) n = K at *
          clear hKk
          go_wp2
          go_ret
          exact ⟨_, rfl, by rw [← hres.out]; exact hS2.out.o0, hS2.out.bel⟩
        · have hz : (((cnt1 T (k + 1) n : Nat) : Int) == (K : Int)) = false := by simp; omega
          have hk1 : k + 1 ≤ cnt1 T (k + 1) n := by
            by_cases hk0 : k = 0
            · omega
            · have hKk := hK1.out hk0
              obtain ⟨k', rfl⟩ : ∃ k', k = k' + 1 := ⟨k - 1, by omega⟩
              by_cases hs : Stable T (k' + 1)
              · have h1 := hsc.out k' hs
                have h2 : cnt1 T (k' + 1 + 1) n ≠ K := hcK
                have h3 : cnt1 T (k' + 1 + 1) n = cnt1 T (k' + 1) n := h1
                omega
              · have h1 := hst.out k' hs
                have h3 : cnt1 T (k' + 1) n < cnt1 T (k' + 1 + 1) n := h1
                omega
          have hmm : n - (k + 1) < n - k := by omega
          replace hk1 := hid hk1
          generalize hKK : cnt1 T (k + 1) n = K2 at *
          replace hKK := hid hKK
          clear hcK
          go_wp2
          go_roundg (n - (k + 1))
          case measure => exact hmm
          case rel => exact ⟨k + 1, K2, rfl, hk1.out, fun h => absurd h (by omega), fun _ => hKK.out.symm, rfl, hS2.out.f1.drop⟩
end Go.Proofs.Ytbmkkaecfogmoaa

/- The product of two states, the first machine lying anywhere in a block (an element of a slice of machines). -/
namespace Go.Proofs.Ytbmkkaecfogmoaa
open Go.RowKit
set_option linter.unusedVariables false
set_option linter.unusedSimpArgs false

/-- A machine lies at a place of a block. -/
def MO (w : World) (b o : Nat) (m : Mach) : Prop := b < w.heap.size ∧ ∀ i, i < 98 → w.cell? ⟨b, o + i, none⟩ = some (mf m i)
theorem MO.below {w w' : World} {b o : Nat} {m : Mach} (h : MO w b o m) (hb : Below w.heap.size w w') : MO w' b o m := ⟨Nat.lt_of_lt_of_le h.1 hb.size, fun i hi => (hb.cell (p := ⟨b, o + i, none⟩) h.1).trans (h.2 i hi)⟩
theorem MO.cL {w : World} {b o : Nat} {m : Mach} (h : MO w b o m) : w.cell? ⟨b, o, none⟩ = some (.int .i64 m.L) := h.2 0 (by omega)
theorem MO.cS {w : World} {b o : Nat} {m : Mach} (h : MO w b o m) : w.cell? ⟨b, o + 1, none⟩ = some (.int .i64 m.S) := h.2 1 (by omega)
theorem MO.cnx {w : World} {b o : Nat} {m : Mach} (h : MO w b o m) (q x : Nat) (hq : q < 16) (hx : x < 3) : w.cell? ⟨b, o + 2 + q * 3 + x, none⟩ = some (.int .u8 (m.nx (q * 3 + x) : Nat)) := by
  have := h.2 (2 + q * 3 + x) (by omega)
  rw [mf_nx m q x hq hx] at this
  rw [← this]; congr 2; omega
theorem MO.cot {w : World} {b o : Nat} {m : Mach} (h : MO w b o m) (q x : Nat) (hq : q < 16) (hx : x < 3) : w.cell? ⟨b, o + 50 + q * 3 + x, none⟩ = some (.int .u8 (m.ot (q * 3 + x) : Nat)) := by
  have := h.2 (50 + q * 3 + x) (by omega)
  rw [mf_ot m q x] at this
  rw [← this]; congr 2; omega
theorem next_o (G o : Nat) (w : World) (q x v : Nat) (hq : q < 16) (hx : x < 3) (hk : v < 256) (h1 : w.cell? ⟨G, o + 2 + q * 3 + x, none⟩ = some (.int .u8 (v : Nat))) :
    Calls Try.prog 184 #[.pointer (some ⟨G, o, none⟩), .int .i64 q, .int .i64 x] w fun e w' => e = .returned (.int .i64 (v : Nat)) ∧ w = w' := by
  go_enter Try.func184, Try.ntmps184
  go_wp2
  go_ret
  exact ⟨by simp, rfl⟩
theorem out_o (G o : Nat) (w : World) (q x v : Nat) (hq : q < 16) (hx : x < 3) (hk : v < 256) (h1 : w.cell? ⟨G, o + 50 + q * 3 + x, none⟩ = some (.int .u8 (v : Nat))) :
    Calls Try.prog 185 #[.pointer (some ⟨G, o, none⟩), .int .i64 q, .int .i64 x] w fun e w' => e = .returned (.int .i64 (v : Nat)) ∧ w = w' := by
  go_enter Try.func185, Try.ntmps185
  go_wp2
  go_ret
  exact ⟨by simp, rfl⟩
set_option maxHeartbeats 8000000 in
set_option maxRecDepth 100000 in
theorem product_o (b1 o1 b2 : Nat) (w : World) (m k : Mach) (hm : MO w b1 o1 m) (hk : MB w 27 b2 k) (l s s' : Nat) (g : Good m l s) (g' : Good k l s') (q r : Nat) (hq : q < s) (hr : r < s') :
    Calls Try.prog 170 #[.pointer (some ⟨b1, o1, none⟩), .int .i64 q, .pointer (some ⟨b2, 0, none⟩), .int .i64 r] w fun e w' => e = .returned (.tuple #[.agg (mcells (fromM (prodT m k l s s') (q * s' + r))), .int .i64 (fromC (prodT m k l s s') (q * s' + r))]) ∧ Below w.heap.size w w' := by
  have hz := zero_mach
  have hB0 := below_alloc (Below.refl w.heap.size w) (Nat.le_refl _) (.cells (mcells ⟨0, 0, fun _ => 0, fun _ => 0⟩) 27)
  have hBel := hid (fun W (hb : Below (w.heap.size + 1) (w.alloc (.cells (mcells ⟨0, 0, fun _ => 0, fun _ => 0⟩) 27)) W) => hB0.trans (hb.mono (Nat.le_succ _)))
  have hml := hid (fun W (hb : Below w.heap.size w W) => (show MO W b1 o1 m ∧ W.cell? ⟨b1, o1, none⟩ = some (.int .i64 (l : Int)) ∧ W.cell? ⟨b1, o1 + 1, none⟩ = some (.int .i64 (s : Int)) from ⟨hm.below hb, by have h := (hm.below hb).cL; rw [g.L] at h; exact h, by have h := (hm.below hb).cS; rw [g.S] at h; exact h⟩))
  have hkl := hid (fun W (hb : Below w.heap.size w W) => (show MB W 27 b2 k ∧ W.cell? ⟨b2, 1, none⟩ = some (.int .i64 (s' : Int)) from ⟨hk.below hb hk.lt, by have h := (hk.below hb hk.lt).cS; rw [g'.S] at h; exact h⟩))
  have hZ := hid (fun W (hb : Below (w.heap.size + 1) (w.alloc (.cells (mcells ⟨0, 0, fun _ => 0, fun _ => 0⟩) 27)) W) => (MB.new w ⟨0, 0, fun _ => 0, fun _ => 0⟩ 27).below hb (Nat.lt_succ_self _))
  have l2 := g.l2
  have l3 := g.l3
  have s16 := g.s16
  have s16' := g'.s16
  have hlt := hid (fun a b x (ha : a < s) (hb : b < s') (hx : x < l) => (show m.nx (a * 3 + x) < 16 ∧ m.ot (a * 3 + x) < 3 ∧ k.nx (b * 3 + m.ot (a * 3 + x)) < 16 ∧ k.ot (b * 3 + m.ot (a * 3 + x)) < 3 from by
    have h1 := g.nx a x ha hx; have h2 := g.ot a x ha hx; have h3 := g'.nx b _ hb h2; have h4 := g'.ot b _ hb h2
    exact ⟨by omega, by omega, by omega, by omega⟩))
  have hTn := hid (show (prodT m k l s s').n = s * s' from rfl)
  have hTL := hid (show (prodT m k l s s').L = l from rfl)
  have hmf := hid (fun W G vN vO hW => machineFrom_any W G (q * s' + r) vN vO (prodT m k l s s') (prod_ok g g') g.l3 (by show 0 < l; omega) (Nat.lt_of_le_of_lt (prod_n g g') (by omega)) hW (prod_o256 g g') (prod_in hq hr))
  rw [hTL.out] at hmf
  have eN := hid (fun a b P x => prod_nx (a := a) (b := b) (P := P) (s' := s') m k l s x)
  have eO := hid (fun a b P x => prod_ot (a := a) (b := b) (P := P) (s' := s') m k l s x)
  have hS := (St.start (w.alloc (.cells (mcells ⟨0, 0, fun _ => 0, fun _ => 0⟩) 27))).newBlk #[.slice none 0 0, .slice none 0 0] 189
  simp only [heap_alloc_size] at hS
  have hS2 := hid (show St (w.heap.size + 1) _ [Asn.blk (w.heap.size + 1) #[.slice none 0 0, .slice none 0 0] 189, Asn.mat (w.heap.size + 1) (.slice none 0 0) [] [], Asn.mat (w.heap.size + 1) (.slice none 0 0) [] []] _ from
    ((hS.push (a := Asn.mat (w.heap.size + 1) (.slice none 0 0) [] []) ⟨Own.nil _ _ _, rfl, fun i r l h => by simp at h⟩ (fun k hk => by rcases hk with hk | ⟨r, hr, _⟩ <;> simp [Value.ownBlock] at *)).push (a := Asn.mat (w.heap.size + 1) (.slice none 0 0) [] []) ⟨Own.nil _ _ _, rfl, fun i r l h => by simp at h⟩ (fun k hk => by rcases hk with hk | ⟨r, hr, _⟩ <;> simp [Value.ownBlock] at *)).f2)
  have c0 := (hml.out _ (hBel.out _ hS2.out.bel)).2.2
  have hqs := hid hq; have hrs := hid hr
  obtain ⟨V0, hV0⟩ : ∃ V, V = q * s' := ⟨_, rfl⟩
  have hVb0 : V0 ≤ 256 := by rw [hV0]; exact Nat.mul_le_mul (Nat.le_trans (Nat.le_of_lt hq) s16) s16'
  have hu1 : IntKind.i64.wrap ((q : Int) * (s' : Int)) = (V0 : Int) := by rw [show (q : Int) * (s' : Int) = (V0 : Int) by rw [hV0]; exact (Int.natCast_mul _ _).symm]; exact IntWalk.i64_in _ (by omega)
  rw [← hV0] at hmf ⊢
  replace hV0 := hid hV0
  clear hS hm hk g g' hB0 hq hr
  have hS := hS2
  clear hS2
  generalize fromC (prodT m k l s s') (V0 + r) = fc at *
  generalize fromM (prodT m k l s s') (V0 + r) = fm at *
  generalize hgT : prodT m k l s s' = T at *
  clear hgT
  generalize mcells ⟨0, 0, fun _ => 0, fun _ => 0⟩ = zs at *
  replace hu1 := hid hu1
  go_enter Try.func170, Try.ntmps170
  go_wp2
  clear c0
  go_loopw [23] (fun i wr => ∃ a P : Nat, a ≤ s ∧ Hid (P = a * s') ∧ i = .int .i64 a ∧ ∃ vN vO rN rO, St (w.heap.size + 1) (w.alloc (.cells zs 27)) [Asn.blk (w.heap.size + 1) #[vN, vO] 189, Asn.mat (w.heap.size + 1) vN rN (tbL T.nx P l), Asn.mat (w.heap.size + 1) vO rO (tbL T.ot P l)] wr) (fun i _ => s - (intOf i).toNat)
  case atStart => exact ⟨0, 0, Nat.zero_le _, hid (Nat.zero_mul _).symm, rfl, _, _, _, _, hS.out⟩
  case round =>
    obtain ⟨a, P, ha, hP, rfl, vN, vO, rN, rO, rS⟩ := hrel
    clear hS
    replace rS := hid rS
    by_cases has : a < s
    · have hc := (hkl.out _ (hBel.out _ rS.out.bel)).2
      go_wp2
      clear hc
      go_loopw [30] (fun i wr => ∃ b : Nat, b ≤ s' ∧ i = .int .i64 b ∧ ∃ vN vO rN rO, St (w.heap.size + 1) (w.alloc (.cells zs 27)) [Asn.blk (w.heap.size + 1) #[vN, vO] 189, Asn.mat (w.heap.size + 1) vN rN (tbL T.nx (P + b) l), Asn.mat (w.heap.size + 1) vO rO (tbL T.ot (P + b) l)] wr) (fun i _ => s' - (intOf i).toNat)
      case atStart => exact ⟨0, Nat.zero_le _, rfl, _, _, _, _, rS.out⟩
      case round =>
        obtain ⟨b, hb, rfl, vN, vO, rN, rO, tS⟩ := hrel
        clear rS
        replace tS := hid tS
        by_cases hbs : b < s'
        · have hc := (hml.out _ (hBel.out _ tS.out.bel)).2.1
          have rS2 := hid ((tS.out.nilOwn 2).nilOwn 2)
          go_wp2
          clear hc
          go_loopw [13, 14, 37] (fun u v i wr => ∃ x : Nat, x ≤ l ∧ i = .int .i64 x ∧ St (w.heap.size + 1) (w.alloc (.cells zs 27)) [Asn.own (w.heap.size + 1) 2 u (ints (rwI T.nx (P + b) x)), Asn.own (w.heap.size + 1) 2 v (ints (rwI T.ot (P + b) x)), Asn.blk (w.heap.size + 1) #[vN, vO] 189, Asn.mat (w.heap.size + 1) vN rN (tbL T.nx (P + b) l), Asn.mat (w.heap.size + 1) vO rO (tbL T.ot (P + b) l)] wr) (fun _ _ i _ => l - (intOf i).toNat)
          case atStart => exact ⟨0, Nat.zero_le _, rfl, rS2.out⟩
          case round =>
            obtain ⟨x, hx, rfl, yS⟩ := hrel
            clear tS rS2
            replace yS := hid yS
            have hlN := hid (show (ints (rwI T.nx (P + b) x)).length = x by rw [ints_length, rwI_length])
            have hlO := hid (show (ints (rwI T.ot (P + b) x)).length = x by rw [ints_length, rwI_length])
            by_cases hxl : x < l
            · obtain ⟨t1, t2, t3, t4⟩ := hlt.out a b x has hbs hxl
              have hn1 := hid (fun W hW => next_o b1 o1 W a x _ (by omega) (by omega) (by omega) (MO.cnx (m := m) hW a x (by omega) (by omega)))
              have ho1 := hid (fun W hW => out_o b1 o1 W a x _ (by omega) (by omega) (by omega) (MO.cot (m := m) hW a x (by omega) (by omega)))
              have hn2 := hid (fun W hW => next_any b2 W k hW b (m.ot (a * 3 + x)) (by omega) (by omega) (by omega))
              have ho2 := hid (fun W hW => out_any b2 W k hW b (m.ot (a * 3 + x)) (by omega) (by omega) (by omega))
              have eF := eN.out a b P x hbs hP.out
              have eG := eO.out a b P x hbs hP.out
              obtain ⟨V, hV⟩ : ∃ V, V = m.nx (a * 3 + x) * s' := ⟨_, rfl⟩
              have hVb : V ≤ 256 := by rw [hV]; exact Nat.mul_le_mul (Nat.le_of_lt t1) s16'
              have hw1 : IntKind.i64.wrap ((m.nx (a * 3 + x) : Int) * (s' : Int)) = (V : Int) := by rw [show (m.nx (a * 3 + x) : Int) * (s' : Int) = (V : Int) by rw [hV]; exact (Int.natCast_mul _ _).symm]; exact IntWalk.i64_in _ (by omega)
              rw [← hV] at eF
              clear hV
              generalize k.ot (b * 3 + m.ot (a * 3 + x)) = o2 at *
              generalize k.nx (b * 3 + m.ot (a * 3 + x)) = v2 at *
              generalize m.ot (a * 3 + x) = y at *
              generalize m.nx (a * 3 + x) = v1 at *
              have hw2 : IntKind.i64.wrap ((V : Int) + (v2 : Int)) = ((V + v2 : Nat) : Int) := by rw [show (V : Int) + (v2 : Int) = ((V + v2 : Nat) : Int) by omega]; exact IntWalk.i64_in _ (by omega)
              have hsN := hid (rwI_snoc T.nx (P + b) x)
              have hsO := hid (rwI_snoc T.ot (P + b) x)
              rw [eF] at hsN
              rw [eG] at hsO
              clear eF eG
              generalize V + v2 = F at *
              go_upto_region 13 with (first
                | (go_at_call 185; (with_reducible refine (ho1.out _ (hml.out _ (hBel.out _ yS.out.bel)).1).mono ?_); rintro e w3 ⟨rfl, rfl⟩))
              have hg' := hid yS.out.drew; clear yS; have yS := hg'; clear hg'
              refine wp_region_heldL (L := [(23, (fun w' : World => w'.cell? ⟨b2, 1, none⟩ = some (.int .i64 (s' : Int))))]) (by kernel_rfl) (HeldL.cons (fun _ => (hkl.out _ (hBel.out _ yS.out.bel)).2) HeldL.nil) (fun hHeld => ?_)
              generalize wr.drew = wd at *
              refine wpAnyL_take0 (i := 0) (v := ?_) rfl (by kernel_rfl) (by kernel_rfl) (by kernel_rfl) (by rfl) (fun _ _ _ h => h) (Or.inl ⟨by rfl, ?_⟩) (by assumption) ?_
              rotate_left
              · (intro W _; go_simp; (with_reducible rfl))
              intro hHeld'
              clear hHeld; have hHeld := hHeld'; clear hHeld'
              try simp only [Act.put, List.setIfInBounds_toArray, List.set_cons_zero, List.set_cons_succ]
              refine wpAnyL_take0 (i := 1) (v := ?_) rfl (by kernel_rfl) (by kernel_rfl) (by kernel_rfl) (by rfl) (fun _ _ _ h => h) (Or.inl ⟨by rfl, ?_⟩) (by assumption) ?_
              rotate_left
              · (intro W _; go_simp; (with_reducible rfl))
              intro hHeld'
              clear hHeld; have hHeld := hHeld'; clear hHeld'
              try simp only [Act.put, List.setIfInBounds_toArray, List.set_cons_zero, List.set_cons_succ]
              refine wpAnyL_take0 (i := 2) (v := ?_) rfl (by kernel_rfl) (by kernel_rfl) (by kernel_rfl) (by rfl) (fun _ _ _ h => h) (Or.inl ⟨by rfl, ?_⟩) (by assumption) ?_
              rotate_left
              · (intro W _; go_simp; (with_reducible rfl))
              intro hHeld'
              clear hHeld; have hHeld := hHeld'; clear hHeld'
              try simp only [Act.put, List.setIfInBounds_toArray, List.set_cons_zero, List.set_cons_succ]
              refine wpAnyL_take0 (i := 3) (v := ?_) rfl (by kernel_rfl) (by kernel_rfl) (by kernel_rfl) (by rfl) (fun _ _ _ h => h) (Or.inl ⟨by rfl, ?_⟩) (by assumption) ?_
              rotate_left
              · (intro W _; go_simp; (with_reducible rfl))
              intro hHeld'
              clear hHeld; have hHeld := hHeld'; clear hHeld'
              try simp only [Act.put, List.setIfInBounds_toArray, List.set_cons_zero, List.set_cons_succ]
              refine wpAnyL_take0 (i := 5) (v := ?_) rfl (by kernel_rfl) (by kernel_rfl) (by kernel_rfl) (by rfl) (fun _ _ _ h => h) (Or.inl ⟨by rfl, ?_⟩) (by assumption) ?_
              rotate_left
              · (intro W _; go_simp; (with_reducible rfl))
              intro hHeld'
              clear hHeld; have hHeld := hHeld'; clear hHeld'
              try simp only [Act.put, List.setIfInBounds_toArray, List.set_cons_zero, List.set_cons_succ]
              refine wpAnyL_take0 (i := 6) (v := ?_) rfl (by kernel_rfl) (by kernel_rfl) (by kernel_rfl) (by rfl) (fun _ _ _ h => h) (Or.inl ⟨by rfl, ?_⟩) (by assumption) ?_
              rotate_left
              · (intro W _; go_simp; (with_reducible rfl))
              intro hHeld'
              clear hHeld; have hHeld := hHeld'; clear hHeld'
              try simp only [Act.put, List.setIfInBounds_toArray, List.set_cons_zero, List.set_cons_succ]
              refine wpAnyL_take0 (i := 7) (v := ?_) rfl (by kernel_rfl) (by kernel_rfl) (by kernel_rfl) (by rfl) (fun _ _ _ h => h) (Or.inl ⟨by rfl, ?_⟩) (by assumption) ?_
              rotate_left
              · (intro W _; go_simp; (with_reducible rfl))
              intro hHeld'
              clear hHeld; have hHeld := hHeld'; clear hHeld'
              try simp only [Act.put, List.setIfInBounds_toArray, List.set_cons_zero, List.set_cons_succ]
              refine wpAnyL_takeP (i := 8) 23 [21, 16, 15, 14, 9] (v := ?_) (fun w' : World => w'.cell? ⟨b2, 1, none⟩ = some (.int .i64 (s' : Int))) rfl (by kernel_rfl) (by kernel_rfl) (by kernel_rfl) (by rfl) (by kernel_rfl) (by simp) (fun _ _ _ h => h) (Or.inl ⟨by rfl, ?_⟩) (by assumption) ?_
              rotate_left
              · (intro W hW; go_simp; (with_reducible rfl))
              intro hHeld'
              clear hHeld; have hHeld := hHeld'; clear hHeld'
              try simp only [Act.put, List.setIfInBounds_toArray, List.set_cons_zero, List.set_cons_succ]
              refine wpAnyL_take0 (i := 10) (v := ?_) rfl (by kernel_rfl) (by kernel_rfl) (by kernel_rfl) (by rfl) (fun _ _ _ h => h) (Or.inl ⟨by rfl, ?_⟩) (by assumption) ?_
              rotate_left
              · (intro W _; go_simp; (with_reducible rfl))
              intro hHeld'
              clear hHeld; have hHeld := hHeld'; clear hHeld'
              try simp only [Act.put, List.setIfInBounds_toArray, List.set_cons_zero, List.set_cons_succ]
              refine wpAnyL_take0 (i := 11) (v := ?_) rfl (by kernel_rfl) (by kernel_rfl) (by kernel_rfl) (by rfl) (fun _ _ _ h => h) (Or.inl ⟨by rfl, ?_⟩) (by assumption) ?_
              rotate_left
              · (intro W _; go_simp; (with_reducible rfl))
              intro hHeld'
              clear hHeld; have hHeld := hHeld'; clear hHeld'
              try simp only [Act.put, List.setIfInBounds_toArray, List.set_cons_zero, List.set_cons_succ]
              refine wpAnyL_take0 (i := 12) (v := ?_) rfl (by kernel_rfl) (by kernel_rfl) (by kernel_rfl) (by rfl) (fun _ _ _ h => h) (Or.inl ⟨by rfl, ?_⟩) (by assumption) ?_
              rotate_left
              · (intro W _; go_simp; (with_reducible rfl))
              intro hHeld'
              clear hHeld; have hHeld := hHeld'; clear hHeld'
              try simp only [Act.put, List.setIfInBounds_toArray, List.set_cons_zero, List.set_cons_succ]
              refine wpAnyL_take0 (i := 17) (v := ?_) rfl (by kernel_rfl) (by kernel_rfl) (by kernel_rfl) (by rfl) (fun _ _ _ h => h) (Or.inl ⟨by rfl, ?_⟩) (by assumption) ?_
              rotate_left
              · (intro W _; go_simp; (with_reducible rfl))
              intro hHeld'
              clear hHeld; have hHeld := hHeld'; clear hHeld'
              try simp only [Act.put, List.setIfInBounds_toArray, List.set_cons_zero, List.set_cons_succ]
              refine wpAnyL_take0 (i := 18) (v := ?_) rfl (by kernel_rfl) (by kernel_rfl) (by kernel_rfl) (by rfl) (fun _ _ _ h => h) (Or.inl ⟨by rfl, ?_⟩) (by assumption) ?_
              rotate_left
              · (intro W _; go_simp; (with_reducible rfl))
              intro hHeld'
              clear hHeld; have hHeld := hHeld'; clear hHeld'
              try simp only [Act.put, List.setIfInBounds_toArray, List.set_cons_zero, List.set_cons_succ]
              refine wpAnyL_take0 (i := 19) (v := ?_) rfl (by kernel_rfl) (by kernel_rfl) (by kernel_rfl) (by rfl) (fun _ _ _ h => h) (Or.inl ⟨by rfl, ?_⟩) (by assumption) ?_
              rotate_left
              · (intro W _; go_simp; (with_reducible rfl))
              intro hHeld'
              clear hHeld; have hHeld := hHeld'; clear hHeld'
              try simp only [Act.put, List.setIfInBounds_toArray, List.set_cons_zero, List.set_cons_succ]
              refine wpAnyL_take0 (i := 20) (v := ?_) rfl (by kernel_rfl) (by kernel_rfl) (by kernel_rfl) (by rfl) (fun _ _ _ h => h) (Or.inl ⟨by rfl, ?_⟩) (by assumption) ?_
              rotate_left
              · (intro W _; go_simp; (with_reducible rfl))
              intro hHeld'
              clear hHeld; have hHeld := hHeld'; clear hHeld'
              try simp only [Act.put, List.setIfInBounds_toArray, List.set_cons_zero, List.set_cons_succ]
              refine wpAnyL_ready (rs := [4]) (by kernel_rfl) (by simp) ?_
              refine AllReadyL.cons rfl (fun K hK => ?_) AllReadyL.nil
              go_simp
              go_at_call 184
              (with_reducible refine (hn1.out _ (hml.out _ (hBel.out _ yS.out.bel)).1).mono ?_)
              rintro e w3 ⟨rfl, rfl⟩
              go_simp
              refine hK.out _ _ (HeldL.cons (fun _ => (hkl.out _ (hBel.out _ yS.out.bel)).2) HeldL.nil) (fun hHeld' => ?_)
              clear hK K hHeld; have hHeld := hHeld'; clear hHeld'
              try simp only [Act.put, List.setIfInBounds_toArray, List.set_cons_zero, List.set_cons_succ]
              refine wpAnyL_take0 (i := 9) (v := ?_) rfl (by kernel_rfl) (by kernel_rfl) (by kernel_rfl) (by rfl) (fun _ _ _ h => h) (Or.inl ⟨by rfl, ?_⟩) (by assumption) ?_
              rotate_left
              · (intro W _; go_simp; (with_reducible rfl))
              intro hHeld'
              clear hHeld; have hHeld := hHeld'; clear hHeld'
              try simp only [Act.put, List.setIfInBounds_toArray, List.set_cons_zero, List.set_cons_succ]
              refine wpAnyL_ready (rs := [13]) (by kernel_rfl) (by simp) ?_
              refine AllReadyL.cons rfl (fun K hK => ?_) AllReadyL.nil
              go_simp
              go_at_call 184
              (with_reducible refine (hn2.out _ (hkl.out _ (hBel.out _ yS.out.bel)).1).mono ?_)
              rintro e w3 ⟨rfl, rfl⟩
              go_simp
              refine hK.out _ _ (HeldL.cons (fun _ => (hkl.out _ (hBel.out _ yS.out.bel)).2) HeldL.nil) (fun hHeld' => ?_)
              clear hK K hHeld; have hHeld := hHeld'; clear hHeld'
              try simp only [Act.put, List.setIfInBounds_toArray, List.set_cons_zero, List.set_cons_succ]
              refine wpAnyL_take0 (i := 14) (v := ?_) rfl (by kernel_rfl) (by kernel_rfl) (by kernel_rfl) (by rfl) (fun _ _ _ h => h) (Or.inl ⟨by rfl, ?_⟩) (by assumption) ?_
              rotate_left
              · (intro W _; go_simp; (with_reducible rfl))
              intro hHeld'
              clear hHeld; have hHeld := hHeld'; clear hHeld'
              try simp only [Act.put, List.setIfInBounds_toArray, List.set_cons_zero, List.set_cons_succ]
              refine wpAnyL_ready (rs := [15]) (by kernel_rfl) (by simp) ?_
              refine AllReadyL.cons rfl (fun K hK => ?_) AllReadyL.nil
              go_simp
              replace yS := hid (yS.out.newBlk #[.int .i64 (F : Int)] 2)
              generalize wd.heap.size = bB at *
              generalize wd.alloc (.cells #[.int .i64 (F : Int)] 2) = we at *
              refine hK.out _ _ (HeldL.cons (fun _ => (hkl.out _ (hBel.out _ yS.out.bel)).2) HeldL.nil) (fun hHeld' => ?_)
              clear hK K hHeld; have hHeld := hHeld'; clear hHeld'
              try simp only [Act.put, List.setIfInBounds_toArray, List.set_cons_zero, List.set_cons_succ]
              refine wpAnyL_ready (rs := [16]) (by kernel_rfl) (by simp) ?_
              refine AllReadyL.cons rfl (fun K hK => ?_) AllReadyL.nil
              refine St.step1 29 2 2 (.int .i64 0) 8 Try.underlying29 info_i64 rfl (by omega) rfl _ _ rfl _ _ rfl (yS.out.f1) rfl rfl x hlN.out (by omega) ?_
              intro gn cn wf yS'
              replace yS := hid yS'.f1.drop; clear yS'
              refine hK.out _ _ (HeldL.cons (fun _ => (hkl.out _ (hBel.out _ yS.out.bel)).2) HeldL.nil) (fun hHeld' => ?_)
              clear hK K hHeld; have hHeld := hHeld'; clear hHeld'
              try simp only [Act.put, List.setIfInBounds_toArray, List.set_cons_zero, List.set_cons_succ]
              refine wpAnyL_ready (rs := [21]) (by kernel_rfl) (by simp) ?_
              refine AllReadyL.cons rfl (fun K hK => ?_) AllReadyL.nil
              go_simp
              go_at_call 185
              (with_reducible refine (ho2.out _ (hkl.out _ (hBel.out _ yS.out.bel)).1).mono ?_)
              rintro e w3 ⟨rfl, rfl⟩
              go_simp
              refine hK.out _ _ (HeldL.cons (fun _ => (hkl.out _ (hBel.out _ yS.out.bel)).2) HeldL.nil) (fun hHeld' => ?_)
              clear hK K hHeld; have hHeld := hHeld'; clear hHeld'
              try simp only [Act.put, List.setIfInBounds_toArray, List.set_cons_zero, List.set_cons_succ]
              refine wpAnyL_ready (rs := [22]) (by kernel_rfl) (by simp) ?_
              refine AllReadyL.cons rfl (fun K hK => ?_) AllReadyL.nil
              go_simp
              replace yS := hid (yS.out.newBlk #[.int .i64 (o2 : Int)] 2)
              generalize wf.heap.size = bC at *
              generalize wf.alloc (.cells #[.int .i64 (o2 : Int)] 2) = wg at *
              refine hK.out _ _ (HeldL.cons (fun _ => (hkl.out _ (hBel.out _ yS.out.bel)).2) HeldL.nil) (fun hHeld' => ?_)
              clear hK K hHeld; have hHeld := hHeld'; clear hHeld'
              try simp only [Act.put, List.setIfInBounds_toArray, List.set_cons_zero, List.set_cons_succ]
              refine wpAnyL_ready (rs := [23]) (by kernel_rfl) (by simp) ?_
              refine AllReadyL.cons rfl (fun K hK => ?_) AllReadyL.nil
              refine St.step1 29 2 2 (.int .i64 0) 8 Try.underlying29 info_i64 rfl (by omega) rfl _ _ rfl _ _ rfl (yS.out.f2) rfl rfl x hlO.out (by omega) ?_
              intro go co wh yS'
              replace yS := hid yS'.f1.drop.f1; clear yS'
              refine hK.out _ _ (HeldL.cons (fun h => absurd h (by decide +kernel)) HeldL.nil) (fun hHeld' => ?_)
              clear hK K hHeld; have hHeld := hHeld'; clear hHeld'
              try simp only [Act.put, List.setIfInBounds_toArray, List.set_cons_zero, List.set_cons_succ]
              refine wpAnyL_take0 (i := 24) (v := ?_) rfl (by kernel_rfl) (by kernel_rfl) (by kernel_rfl) (by rfl) (fun _ _ _ h => h) (Or.inl ⟨by rfl, ?_⟩) (by assumption) ?_
              rotate_left
              · (intro W _; go_simp; (with_reducible rfl))
              intro hHeld'
              clear hHeld; have hHeld := hHeld'; clear hHeld'
              try simp only [Act.put, List.setIfInBounds_toArray, List.set_cons_zero, List.set_cons_succ]
              refine wpAnyL_take0 (i := 25) (v := ?_) rfl (by kernel_rfl) (by kernel_rfl) (by kernel_rfl) (by rfl) (fun _ _ _ h => h) (Or.inl ⟨by rfl, ?_⟩) (by assumption) ?_
              rotate_left
              · (intro W _; go_simp; (with_reducible rfl))
              intro hHeld'
              clear hHeld; have hHeld := hHeld'; clear hHeld'
              try simp only [Act.put, List.setIfInBounds_toArray, List.set_cons_zero, List.set_cons_succ]
              refine wpAnyL_done (by kernel_rfl) ?_ _
              simp only [Act.put, List.getElem_toArray, List.getElem_cons_succ, List.getElem_cons_zero, List.setIfInBounds_toArray, List.set_cons_zero, List.set_cons_succ]
              go_wp2
              go_roundw
              case rel => exact ⟨x + 1, by omega, by go_num, by rw [hsN.out, hsO.out, ints_snoc, ints_snoc]; exact yS.out⟩
              case measure => simp [intOf]; omega
            · obtain rfl : l = x := by omega
              obtain ⟨g1, c1, rfl, _, _⟩ := yS.out.o0.blk (fun e => by have h1 := congrArg List.length e; rw [hlN.out] at h1; simp at h1; omega)
              obtain ⟨g2, c2, rfl, _, _⟩ := yS.out.o1.blk (fun e => by have h1 := congrArg List.length e; rw [hlO.out] at h1; simp at h1; omega)
              rw [hlN.out, hlO.out] at yS ⊢
              have hg := hid yS.out.f2.s2.s1.s3
              have hle := hid (Nat.le_refl (w.heap.size + 1))
              have hsN := hid (show tbL T.nx (P + (b + 1)) l = tbL T.nx (P + b) l ++ [rwI T.nx (P + b) l] from tbL_snoc T.nx (P + b) l)
              have hsO := hid (show tbL T.ot (P + (b + 1)) l = tbL T.ot (P + b) l ++ [rwI T.ot (P + b) l] from tbL_snoc T.ot (P + b) l)
              have hPb := hid (show P + b ≤ 256 from by have h1 := prod_in has hbs; have h2 : s * s' ≤ 256 := Nat.mul_le_mul s16 s16'; rw [hP.out]; omega)
              have hPb' : P + b ≤ 256 := hPb.out
              clear yS
              go_upto_region 15 with (fail)
              have hg' := hid hg.out.drew; clear hg; have hg := hg'; clear hg'
              refine wp_region_heldL (L := [(8, (fun w' : World => w'.cell? ⟨(w.heap.size + 1), 0, none⟩ = some vN)), (15, (fun w' : World => w'.cell? ⟨(w.heap.size + 1), 1, none⟩ = some vO))]) (by kernel_rfl) (HeldL.cons (fun _ => (cell_of_row _ _ 0 _ _ _ hg.out.k0)) (HeldL.cons (fun _ => (cell_of_row _ _ 1 _ _ _ hg.out.k0)) HeldL.nil)) (fun hHeld => ?_)
              generalize wr.drew = wd at *
              refine wpAnyL_take0 (i := 0) (v := ?_) rfl (by kernel_rfl) (by kernel_rfl) (by kernel_rfl) (by rfl) (fun _ _ _ h => h) (Or.inl ⟨by rfl, ?_⟩) (by assumption) ?_
              rotate_left
              · (intro W _; go_simp; (with_reducible rfl))
              intro hHeld'
              clear hHeld; have hHeld := hHeld'; clear hHeld'
              try simp only [Act.put, List.setIfInBounds_toArray, List.set_cons_zero, List.set_cons_succ]
              refine wpAnyL_take0 (i := 1) (v := ?_) rfl (by kernel_rfl) (by kernel_rfl) (by kernel_rfl) (by rfl) (fun _ _ _ h => h) (Or.inl ⟨by rfl, ?_⟩) (by assumption) ?_
              rotate_left
              · (intro W _; go_simp; (with_reducible rfl))
              intro hHeld'
              clear hHeld; have hHeld := hHeld'; clear hHeld'
              try simp only [Act.put, List.setIfInBounds_toArray, List.set_cons_zero, List.set_cons_succ]
              refine wpAnyL_take0 (i := 2) (v := ?_) rfl (by kernel_rfl) (by kernel_rfl) (by kernel_rfl) (by rfl) (fun _ _ _ h => h) (Or.inl ⟨by rfl, ?_⟩) (by assumption) ?_
              rotate_left
              · (intro W _; go_simp; (with_reducible rfl))
              intro hHeld'
              clear hHeld; have hHeld := hHeld'; clear hHeld'
              try simp only [Act.put, List.setIfInBounds_toArray, List.set_cons_zero, List.set_cons_succ]
              refine wpAnyL_take0 (i := 3) (v := ?_) rfl (by kernel_rfl) (by kernel_rfl) (by kernel_rfl) (by rfl) (fun _ _ _ h => h) (Or.inl ⟨by rfl, ?_⟩) (by assumption) ?_
              rotate_left
              · (intro W _; go_simp; (with_reducible rfl))
              intro hHeld'
              clear hHeld; have hHeld := hHeld'; clear hHeld'
              try simp only [Act.put, List.setIfInBounds_toArray, List.set_cons_zero, List.set_cons_succ]
              refine wpAnyL_take0 (i := 4) (v := ?_) rfl (by kernel_rfl) (by kernel_rfl) (by kernel_rfl) (by rfl) (fun _ _ _ h => h) (Or.inl ⟨by rfl, ?_⟩) (by assumption) ?_
              rotate_left
              · (intro W _; go_simp; (with_reducible rfl))
              intro hHeld'
              clear hHeld; have hHeld := hHeld'; clear hHeld'
              try simp only [Act.put, List.setIfInBounds_toArray, List.set_cons_zero, List.set_cons_succ]
              refine wpAnyL_takeT (i := 5) 8 (v := vN) (fun w' : World => w'.cell? ⟨(w.heap.size + 1), 0, none⟩ = some vN) rfl rfl (by kernel_rfl) (by kernel_rfl) (by kernel_rfl) (by rfl) (by decide +kernel) (by decide +kernel) (by decide +kernel) (by simp) (fun _ _ _ h => h) (Or.inl ⟨by rfl, ?_⟩) (by assumption) ?_
              · (intro W hW; (try dsimp only at hW); go_simp)
              intro hHeld'
              clear hHeld; have hHeld := hHeld'; clear hHeld'
              try simp only [Act.put, List.setIfInBounds_toArray, List.set_cons_zero, List.set_cons_succ]
              refine wpAnyL_take0 (i := 6) (v := ?_) rfl (by kernel_rfl) (by kernel_rfl) (by kernel_rfl) (by rfl) (fun _ _ _ h => h) (Or.inl ⟨by rfl, ?_⟩) (by assumption) ?_
              rotate_left
              · (intro W _; go_simp; (with_reducible rfl))
              intro hHeld'
              clear hHeld; have hHeld := hHeld'; clear hHeld'
              try simp only [Act.put, List.setIfInBounds_toArray, List.set_cons_zero, List.set_cons_succ]
              refine wpAnyL_take0 (i := 9) (v := ?_) rfl (by kernel_rfl) (by kernel_rfl) (by kernel_rfl) (by rfl) (fun _ _ _ h => h) (Or.inl ⟨by rfl, ?_⟩) (by assumption) ?_
              rotate_left
              · (intro W _; go_simp; (with_reducible rfl))
              intro hHeld'
              clear hHeld; have hHeld := hHeld'; clear hHeld'
              try simp only [Act.put, List.setIfInBounds_toArray, List.set_cons_zero, List.set_cons_succ]
              refine wpAnyL_take0 (i := 10) (v := ?_) rfl (by kernel_rfl) (by kernel_rfl) (by kernel_rfl) (by rfl) (fun _ _ _ h => h) (Or.inl ⟨by rfl, ?_⟩) (by assumption) ?_
              rotate_left
              · (intro W _; go_simp; (with_reducible rfl))
              intro hHeld'
              clear hHeld; have hHeld := hHeld'; clear hHeld'
              try simp only [Act.put, List.setIfInBounds_toArray, List.set_cons_zero, List.set_cons_succ]
              refine wpAnyL_take0 (i := 11) (v := ?_) rfl (by kernel_rfl) (by kernel_rfl) (by kernel_rfl) (by rfl) (fun _ _ _ h => h) (Or.inl ⟨by rfl, ?_⟩) (by assumption) ?_
              rotate_left
              · (intro W _; go_simp; (with_reducible rfl))
              intro hHeld'
              clear hHeld; have hHeld := hHeld'; clear hHeld'
              try simp only [Act.put, List.setIfInBounds_toArray, List.set_cons_zero, List.set_cons_succ]
              refine wpAnyL_takeT (i := 12) 15 (v := vO) (fun w' : World => w'.cell? ⟨(w.heap.size + 1), 1, none⟩ = some vO) rfl rfl (by kernel_rfl) (by kernel_rfl) (by kernel_rfl) (by rfl) (by decide +kernel) (by decide +kernel) (by decide +kernel) (by simp) (fun _ _ _ h => h) (Or.inl ⟨by rfl, ?_⟩) (by assumption) ?_
              · (intro W hW; (try dsimp only at hW); go_simp)
              intro hHeld'
              clear hHeld; have hHeld := hHeld'; clear hHeld'
              try simp only [Act.put, List.setIfInBounds_toArray, List.set_cons_zero, List.set_cons_succ]
              refine wpAnyL_take0 (i := 13) (v := ?_) rfl (by kernel_rfl) (by kernel_rfl) (by kernel_rfl) (by rfl) (fun _ _ _ h => h) (Or.inl ⟨by rfl, ?_⟩) (by assumption) ?_
              rotate_left
              · (intro W _; go_simp; (with_reducible rfl))
              intro hHeld'
              clear hHeld; have hHeld := hHeld'; clear hHeld'
              try simp only [Act.put, List.setIfInBounds_toArray, List.set_cons_zero, List.set_cons_succ]
              refine wpAnyL_ready (rs := [7, 14]) (by kernel_rfl) (by simp) ?_
              refine AllReadyL.cons rfl (fun K hK => ?_) ?_
              · skip
                go_simp
                have hg' := hid (hg.out.newBlk #[(Value.slice (some ⟨g1, 0, none⟩) l c1)] 29); clear hg; have hg := hg'; clear hg'
                generalize wd.heap.size = bA at *
                generalize wd.alloc (.cells #[(Value.slice (some ⟨g1, 0, none⟩) l c1)] 29) = we at *
                refine hK.out _ _ (HeldL.cons (fun _ => (cell_of_row _ _ 0 _ _ _ hg.out.k1)) (HeldL.cons (fun _ => (cell_of_row _ _ 1 _ _ _ hg.out.k1)) HeldL.nil)) (fun hHeld' => ?_)
                clear hK K hHeld; have hHeld := hHeld'; clear hHeld'
                try simp only [Act.put, List.setIfInBounds_toArray, List.set_cons_zero, List.set_cons_succ]
                refine wpAnyL_ready (rs := [8, 14]) (by kernel_rfl) (by simp) ?_
                refine AllReadyL.cons rfl (fun K hK => ?_) ?_
                · skip
                  refine St.stepM 29 rfl _ _ rfl _ _ _ _ _ rfl (hg.out.f2.f3.f1) bA rfl _ (tbL_length _ _ _) (by omega) ?_
                  intro ga ca wf hg'
                  replace hg := hid hg'.f1.drop; clear hg'
                  refine hK.out _ _ (HeldL.cons (fun _ => (cell_of_row _ _ 0 _ _ _ hg.out.k1)) (HeldL.cons (fun _ => (cell_of_row _ _ 1 _ _ _ hg.out.k1)) HeldL.nil)) (fun hHeld' => ?_)
                  clear hK K hHeld; have hHeld := hHeld'; clear hHeld'
                  try simp only [Act.put, List.setIfInBounds_toArray, List.set_cons_zero, List.set_cons_succ]
                  refine wpAnyL_ready (rs := [14]) (by kernel_rfl) (by simp) ?_
                  refine AllReadyL.cons rfl (fun K hK => ?_) AllReadyL.nil
                  go_simp
                  have hg' := hid (hg.out.newBlk #[(Value.slice (some ⟨g2, 0, none⟩) l c2)] 29); clear hg; have hg := hg'; clear hg'
                  generalize wf.heap.size = bB at *
                  generalize wf.alloc (.cells #[(Value.slice (some ⟨g2, 0, none⟩) l c2)] 29) = wg at *
                  refine hK.out _ _ (HeldL.cons (fun _ => (cell_of_row _ _ 0 _ _ _ hg.out.k2)) (HeldL.cons (fun _ => (cell_of_row _ _ 1 _ _ _ hg.out.k2)) HeldL.nil)) (fun hHeld' => ?_)
                  clear hK K hHeld; have hHeld := hHeld'; clear hHeld'
                  try simp only [Act.put, List.setIfInBounds_toArray, List.set_cons_zero, List.set_cons_succ]
                  refine wpAnyL_ready (rs := [15]) (by kernel_rfl) (by simp) ?_
                  refine AllReadyL.cons rfl (fun K hK => ?_) AllReadyL.nil
                  refine St.stepM 29 rfl _ _ rfl _ _ _ _ _ rfl (hg.out.f3.f4.f1) bB rfl _ (tbL_length _ _ _) (by omega) ?_
                  intro gb cb wx hg'
                  replace hg := hid hg'.f1.drop; clear hg'
                  replace hg := hid hg.out.f2
                  refine hK.out _ _ (HeldL.cons (fun _ => (cell_of_row _ _ 0 _ _ _ hg.out.k0)) (HeldL.cons (fun _ => (cell_of_row _ _ 1 _ _ _ hg.out.k0)) HeldL.nil)) (fun hHeld' => ?_)
                  clear hK K hHeld; have hHeld := hHeld'; clear hHeld'
                  try simp only [Act.put, List.setIfInBounds_toArray, List.set_cons_zero, List.set_cons_succ]
                  refine wpAnyL_take0 (i := 16) (v := ?_) rfl (by kernel_rfl) (by kernel_rfl) (by kernel_rfl) (by rfl) (fun _ _ _ h => h) (Or.inl ⟨by rfl, ?_⟩) (by assumption) ?_
                  rotate_left
                  · (intro W _; go_simp; (with_reducible rfl))
                  intro hHeld'
                  clear hHeld; have hHeld := hHeld'; clear hHeld'
                  try simp only [Act.put, List.setIfInBounds_toArray, List.set_cons_zero, List.set_cons_succ]
                  refine wpAnyL_take0 (i := 17) (v := ?_) rfl (by kernel_rfl) (by kernel_rfl) (by kernel_rfl) (by rfl) (fun _ _ _ h => h) (Or.inl ⟨by rfl, ?_⟩) (by assumption) ?_
                  rotate_left
                  · (intro W _; go_simp; (with_reducible rfl))
                  intro hHeld'
                  clear hHeld; have hHeld := hHeld'; clear hHeld'
                  try simp only [Act.put, List.setIfInBounds_toArray, List.set_cons_zero, List.set_cons_succ]
                  have q1 := (cell_of_row _ _ 0 _ _ _ hg.out.k0)
                  have q2 := frozen_of_row _ _ 0 _ _ hg.out.k0
                  refine wpAnyL_ready (rs := [18]) (by kernel_rfl) (by simp) ?_
                  refine AllReadyL.cons rfl (fun K hK => ?_) AllReadyL.nil
                  go_simp
                  replace hg := hid (hg.out.setBlk (hle.out) 0 (.slice (some ⟨ga, 0, none⟩) ((P + b) + 1) ca)); clear q1 q2
                  refine hK.out _ _ (HeldL.cons (fun h => absurd h (by decide +kernel)) (HeldL.cons (fun h => absurd h (by decide +kernel)) HeldL.nil)) (fun hHeld' => ?_)
                  clear hK K hHeld; have hHeld := hHeld'; clear hHeld'
                  try simp only [Act.put, List.setIfInBounds_toArray, List.set_cons_zero, List.set_cons_succ]
                  refine wpAnyL_take0 (i := 19) (v := ?_) rfl (by kernel_rfl) (by kernel_rfl) (by kernel_rfl) (by rfl) (fun _ _ _ h => h) (Or.inl ⟨by rfl, ?_⟩) (by assumption) ?_
                  rotate_left
                  · (intro W _; go_simp; (with_reducible rfl))
                  intro hHeld'
                  clear hHeld; have hHeld := hHeld'; clear hHeld'
                  try simp only [Act.put, List.setIfInBounds_toArray, List.set_cons_zero, List.set_cons_succ]
                  refine wpAnyL_take0 (i := 20) (v := ?_) rfl (by kernel_rfl) (by kernel_rfl) (by kernel_rfl) (by rfl) (fun _ _ _ h => h) (Or.inl ⟨by rfl, ?_⟩) (by assumption) ?_
                  rotate_left
                  · (intro W _; go_simp; (with_reducible rfl))
                  intro hHeld'
                  clear hHeld; have hHeld := hHeld'; clear hHeld'
                  try simp only [Act.put, List.setIfInBounds_toArray, List.set_cons_zero, List.set_cons_succ]
                  have q1 := (cell_of_row _ _ 1 _ _ _ hg.out.k0)
                  have q2 := frozen_of_row _ _ 1 _ _ hg.out.k0
                  refine wpAnyL_ready (rs := [21]) (by kernel_rfl) (by simp) ?_
                  refine AllReadyL.cons rfl (fun K hK => ?_) AllReadyL.nil
                  go_simp
                  replace hg := hid (hg.out.setBlk (hle.out) 1 (.slice (some ⟨gb, 0, none⟩) ((P + b) + 1) cb)); clear q1 q2
                  refine hK.out _ _ (HeldL.cons (fun h => absurd h (by decide +kernel)) (HeldL.cons (fun h => absurd h (by decide +kernel)) HeldL.nil)) (fun hHeld' => ?_)
                  clear hK K hHeld; have hHeld := hHeld'; clear hHeld'
                  try simp only [Act.put, List.setIfInBounds_toArray, List.set_cons_zero, List.set_cons_succ]
                  refine wpAnyL_done (by kernel_rfl) ?_ _
                  replace hg := hid (show St _ _ (Asn.blk (w.heap.size + 1) #[(.slice (some ⟨ga, 0, none⟩) ((P + b) + 1) ca), (.slice (some ⟨gb, 0, none⟩) ((P + b) + 1) cb)] 189 :: _) _ from hg.out)
                  try simp only [List.setIfInBounds_toArray, List.set_cons_zero, List.set_cons_succ] at hg
                  go_wp2
                  go_roundw
                  case rel => exact ⟨b + 1, by omega, by go_num, _, _, _, _, by rw [hsN.out, hsO.out]; exact hg.out.s1⟩
                  case measure => simp [intOf]; omega
                refine AllReadyL.cons rfl (fun K hK => ?_) AllReadyL.nil
                go_simp
                have hg' := hid (hg.out.newBlk #[(Value.slice (some ⟨g2, 0, none⟩) l c2)] 29); clear hg; have hg := hg'; clear hg'
                generalize we.heap.size = bB at *
                generalize we.alloc (.cells #[(Value.slice (some ⟨g2, 0, none⟩) l c2)] 29) = wf at *
                refine hK.out _ _ (HeldL.cons (fun _ => (cell_of_row _ _ 0 _ _ _ hg.out.k2)) (HeldL.cons (fun _ => (cell_of_row _ _ 1 _ _ _ hg.out.k2)) HeldL.nil)) (fun hHeld' => ?_)
                clear hK K hHeld; have hHeld := hHeld'; clear hHeld'
                try simp only [Act.put, List.setIfInBounds_toArray, List.set_cons_zero, List.set_cons_succ]
                refine wpAnyL_ready (rs := [8]) (by kernel_rfl) (by simp) ?_
                refine AllReadyL.cons rfl (fun K hK => ?_) AllReadyL.nil
                refine St.stepM 29 rfl _ _ rfl _ _ _ _ _ rfl (hg.out.f3.f4.f1.s2) bA rfl _ (tbL_length _ _ _) (by omega) ?_
                intro ga ca wg hg'
                replace hg := hid hg'.f1.drop; clear hg'
                refine hK.out _ _ (HeldL.cons (fun _ => (cell_of_row _ _ 0 _ _ _ hg.out.k2)) (HeldL.cons (fun _ => (cell_of_row _ _ 1 _ _ _ hg.out.k2)) HeldL.nil)) (fun hHeld' => ?_)
                clear hK K hHeld; have hHeld := hHeld'; clear hHeld'
                try simp only [Act.put, List.setIfInBounds_toArray, List.set_cons_zero, List.set_cons_succ]
                refine wpAnyL_ready (rs := [15]) (by kernel_rfl) (by simp) ?_
                refine AllReadyL.cons rfl (fun K hK => ?_) AllReadyL.nil
                refine St.stepM 29 rfl _ _ rfl _ _ _ _ _ rfl (hg.out.f3.f4.f1.s2) bB rfl _ (tbL_length _ _ _) (by omega) ?_
                intro gb cb wx hg'
                replace hg := hid hg'.f1.drop; clear hg'
                replace hg := hid hg.out.f2
                refine hK.out _ _ (HeldL.cons (fun _ => (cell_of_row _ _ 0 _ _ _ hg.out.k0)) (HeldL.cons (fun _ => (cell_of_row _ _ 1 _ _ _ hg.out.k0)) HeldL.nil)) (fun hHeld' => ?_)
                clear hK K hHeld; have hHeld := hHeld'; clear hHeld'
                try simp only [Act.put, List.setIfInBounds_toArray, List.set_cons_zero, List.set_cons_succ]
                refine wpAnyL_take0 (i := 16) (v := ?_) rfl (by kernel_rfl) (by kernel_rfl) (by kernel_rfl) (by rfl) (fun _ _ _ h => h) (Or.inl ⟨by rfl, ?_⟩) (by assumption) ?_
                rotate_left
                · (intro W _; go_simp; (with_reducible rfl))
                intro hHeld'
                clear hHeld; have hHeld := hHeld'; clear hHeld'
                try simp only [Act.put, List.setIfInBounds_toArray, List.set_cons_zero, List.set_cons_succ]
                refine wpAnyL_take0 (i := 17) (v := ?_) rfl (by kernel_rfl) (by kernel_rfl) (by kernel_rfl) (by rfl) (fun _ _ _ h => h) (Or.inl ⟨by rfl, ?_⟩) (by assumption) ?_
                rotate_left
                · (intro W _; go_simp; (with_reducible rfl))
                intro hHeld'
                clear hHeld; have hHeld := hHeld'; clear hHeld'
                try simp only [Act.put, List.setIfInBounds_toArray, List.set_cons_zero, List.set_cons_succ]
                have q1 := (cell_of_row _ _ 0 _ _ _ hg.out.k0)
                have q2 := frozen_of_row _ _ 0 _ _ hg.out.k0
                refine wpAnyL_ready (rs := [18]) (by kernel_rfl) (by simp) ?_
                refine AllReadyL.cons rfl (fun K hK => ?_) AllReadyL.nil
                go_simp
                replace hg := hid (hg.out.setBlk (hle.out) 0 (.slice (some ⟨ga, 0, none⟩) ((P + b) + 1) ca)); clear q1 q2
                refine hK.out _ _ (HeldL.cons (fun h => absurd h (by decide +kernel)) (HeldL.cons (fun h => absurd h (by decide +kernel)) HeldL.nil)) (fun hHeld' => ?_)
                clear hK K hHeld; have hHeld := hHeld'; clear hHeld'
                try simp only [Act.put, List.setIfInBounds_toArray, List.set_cons_zero, List.set_cons_succ]
                refine wpAnyL_take0 (i := 19) (v := ?_) rfl (by kernel_rfl) (by kernel_rfl) (by kernel_rfl) (by rfl) (fun _ _ _ h => h) (Or.inl ⟨by rfl, ?_⟩) (by assumption) ?_
                rotate_left
                · (intro W _; go_simp; (with_reducible rfl))
                intro hHeld'
                clear hHeld; have hHeld := hHeld'; clear hHeld'
                try simp only [Act.put, List.setIfInBounds_toArray, List.set_cons_zero, List.set_cons_succ]
                refine wpAnyL_take0 (i := 20) (v := ?_) rfl (by kernel_rfl) (by kernel_rfl) (by kernel_rfl) (by rfl) (fun _ _ _ h => h) (Or.inl ⟨by rfl, ?_⟩) (by assumption) ?_
                rotate_left
                · (intro W _; go_simp; (with_reducible rfl))
                intro hHeld'
                clear hHeld; have hHeld := hHeld'; clear hHeld'
                try simp only [Act.put, List.setIfInBounds_toArray, List.set_cons_zero, List.set_cons_succ]
                have q1 := (cell_of_row _ _ 1 _ _ _ hg.out.k0)
                have q2 := frozen_of_row _ _ 1 _ _ hg.out.k0
                refine wpAnyL_ready (rs := [21]) (by kernel_rfl) (by simp) ?_
                refine AllReadyL.cons rfl (fun K hK => ?_) AllReadyL.nil
                go_simp
                replace hg := hid (hg.out.setBlk (hle.out) 1 (.slice (some ⟨gb, 0, none⟩) ((P + b) + 1) cb)); clear q1 q2
                refine hK.out _ _ (HeldL.cons (fun h => absurd h (by decide +kernel)) (HeldL.cons (fun h => absurd h (by decide +kernel)) HeldL.nil)) (fun hHeld' => ?_)
                clear hK K hHeld; have hHeld := hHeld'; clear hHeld'
                try simp only [Act.put, List.setIfInBounds_toArray, List.set_cons_zero, List.set_cons_succ]
                refine wpAnyL_done (by kernel_rfl) ?_ _
                replace hg := hid (show St _ _ (Asn.blk (w.heap.size + 1) #[(.slice (some ⟨ga, 0, none⟩) ((P + b) + 1) ca), (.slice (some ⟨gb, 0, none⟩) ((P + b) + 1) cb)] 189 :: _) _ from hg.out)
                try simp only [List.setIfInBounds_toArray, List.set_cons_zero, List.set_cons_succ] at hg
                go_wp2
                go_roundw
                case rel => exact ⟨b + 1, by omega, by go_num, _, _, _, _, by rw [hsN.out, hsO.out]; exact hg.out.s1⟩
                case measure => simp [intOf]; omega
              refine AllReadyL.cons rfl (fun K hK => ?_) AllReadyL.nil
              go_simp
              have hg' := hid (hg.out.newBlk #[(Value.slice (some ⟨g2, 0, none⟩) l c2)] 29); clear hg; have hg := hg'; clear hg'
              generalize wd.heap.size = bB at *
              generalize wd.alloc (.cells #[(Value.slice (some ⟨g2, 0, none⟩) l c2)] 29) = we at *
              refine hK.out _ _ (HeldL.cons (fun _ => (cell_of_row _ _ 0 _ _ _ hg.out.k1)) (HeldL.cons (fun _ => (cell_of_row _ _ 1 _ _ _ hg.out.k1)) HeldL.nil)) (fun hHeld' => ?_)
              clear hK K hHeld; have hHeld := hHeld'; clear hHeld'
              try simp only [Act.put, List.setIfInBounds_toArray, List.set_cons_zero, List.set_cons_succ]
              refine wpAnyL_ready (rs := [7]) (by kernel_rfl) (by simp) ?_
              refine AllReadyL.cons rfl (fun K hK => ?_) AllReadyL.nil
              go_simp
              have hg' := hid (hg.out.newBlk #[(Value.slice (some ⟨g1, 0, none⟩) l c1)] 29); clear hg; have hg := hg'; clear hg'
              generalize we.heap.size = bA at *
              generalize we.alloc (.cells #[(Value.slice (some ⟨g1, 0, none⟩) l c1)] 29) = wf at *
              refine hK.out _ _ (HeldL.cons (fun _ => (cell_of_row _ _ 0 _ _ _ hg.out.k2)) (HeldL.cons (fun _ => (cell_of_row _ _ 1 _ _ _ hg.out.k2)) HeldL.nil)) (fun hHeld' => ?_)
              clear hK K hHeld; have hHeld := hHeld'; clear hHeld'
              try simp only [Act.put, List.setIfInBounds_toArray, List.set_cons_zero, List.set_cons_succ]
              refine wpAnyL_ready (rs := [8]) (by kernel_rfl) (by simp) ?_
              refine AllReadyL.cons rfl (fun K hK => ?_) AllReadyL.nil
              refine St.stepM 29 rfl _ _ rfl _ _ _ _ _ rfl (hg.out.f3.f4.f1) bA rfl _ (tbL_length _ _ _) (by omega) ?_
              intro ga ca wg hg'
              replace hg := hid hg'.f1.drop; clear hg'
              refine hK.out _ _ (HeldL.cons (fun _ => (cell_of_row _ _ 0 _ _ _ hg.out.k2)) (HeldL.cons (fun _ => (cell_of_row _ _ 1 _ _ _ hg.out.k2)) HeldL.nil)) (fun hHeld' => ?_)
              clear hK K hHeld; have hHeld := hHeld'; clear hHeld'
              try simp only [Act.put, List.setIfInBounds_toArray, List.set_cons_zero, List.set_cons_succ]
              refine wpAnyL_ready (rs := [15]) (by kernel_rfl) (by simp) ?_
              refine AllReadyL.cons rfl (fun K hK => ?_) AllReadyL.nil
              refine St.stepM 29 rfl _ _ rfl _ _ _ _ _ rfl (hg.out.f3.f4.f1.s2) bB rfl _ (tbL_length _ _ _) (by omega) ?_
              intro gb cb wx hg'
              replace hg := hid hg'.f1.drop; clear hg'
              replace hg := hid hg.out.f2
              refine hK.out _ _ (HeldL.cons (fun _ => (cell_of_row _ _ 0 _ _ _ hg.out.k0)) (HeldL.cons (fun _ => (cell_of_row _ _ 1 _ _ _ hg.out.k0)) HeldL.nil)) (fun hHeld' => ?_)
              clear hK K hHeld; have hHeld := hHeld'; clear hHeld'
              try simp only [Act.put, List.setIfInBounds_toArray, List.set_cons_zero, List.set_cons_succ]
              refine wpAnyL_take0 (i := 16) (v := ?_) rfl (by kernel_rfl) (by kernel_rfl) (by kernel_rfl) (by rfl) (fun _ _ _ h => h) (Or.inl ⟨by rfl, ?_⟩) (by assumption) ?_
              rotate_left
              · (intro W _; go_simp; (with_reducible rfl))
              intro hHeld'
              clear hHeld; have hHeld := hHeld'; clear hHeld'
              try simp only [Act.put, List.setIfInBounds_toArray, List.set_cons_zero, List.set_cons_succ]
              refine wpAnyL_take0 (i := 17) (v := ?_) rfl (by kernel_rfl) (by kernel_rfl) (by kernel_rfl) (by rfl) (fun _ _ _ h => h) (Or.inl ⟨by rfl, ?_⟩) (by assumption) ?_
              rotate_left
              · (intro W _; go_simp; (with_reducible rfl))
              intro hHeld'
              clear hHeld; have hHeld := hHeld'; clear hHeld'
              try simp only [Act.put, List.setIfInBounds_toArray, List.set_cons_zero, List.set_cons_succ]
              have q1 := (cell_of_row _ _ 0 _ _ _ hg.out.k0)
              have q2 := frozen_of_row _ _ 0 _ _ hg.out.k0
              refine wpAnyL_ready (rs := [18]) (by kernel_rfl) (by simp) ?_
              refine AllReadyL.cons rfl (fun K hK => ?_) AllReadyL.nil
              go_simp
              replace hg := hid (hg.out.setBlk (hle.out) 0 (.slice (some ⟨ga, 0, none⟩) ((P + b) + 1) ca)); clear q1 q2
              refine hK.out _ _ (HeldL.cons (fun h => absurd h (by decide +kernel)) (HeldL.cons (fun h => absurd h (by decide +kernel)) HeldL.nil)) (fun hHeld' => ?_)
              clear hK K hHeld; have hHeld := hHeld'; clear hHeld'
              try simp only [Act.put, List.setIfInBounds_toArray, List.set_cons_zero, List.set_cons_succ]
              refine wpAnyL_take0 (i := 19) (v := ?_) rfl (by kernel_rfl) (by kernel_rfl) (by kernel_rfl) (by rfl) (fun _ _ _ h => h) (Or.inl ⟨by rfl, ?_⟩) (by assumption) ?_
              rotate_left
              · (intro W _; go_simp; (with_reducible rfl))
              intro hHeld'
              clear hHeld; have hHeld := hHeld'; clear hHeld'
              try simp only [Act.put, List.setIfInBounds_toArray, List.set_cons_zero, List.set_cons_succ]
              refine wpAnyL_take0 (i := 20) (v := ?_) rfl (by kernel_rfl) (by kernel_rfl) (by kernel_rfl) (by rfl) (fun _ _ _ h => h) (Or.inl ⟨by rfl, ?_⟩) (by assumption) ?_
              rotate_left
              · (intro W _; go_simp; (with_reducible rfl))
              intro hHeld'
              clear hHeld; have hHeld := hHeld'; clear hHeld'
              try simp only [Act.put, List.setIfInBounds_toArray, List.set_cons_zero, List.set_cons_succ]
              have q1 := (cell_of_row _ _ 1 _ _ _ hg.out.k0)
              have q2 := frozen_of_row _ _ 1 _ _ hg.out.k0
              refine wpAnyL_ready (rs := [21]) (by kernel_rfl) (by simp) ?_
              refine AllReadyL.cons rfl (fun K hK => ?_) AllReadyL.nil
              go_simp
              replace hg := hid (hg.out.setBlk (hle.out) 1 (.slice (some ⟨gb, 0, none⟩) ((P + b) + 1) cb)); clear q1 q2
              refine hK.out _ _ (HeldL.cons (fun h => absurd h (by decide +kernel)) (HeldL.cons (fun h => absurd h (by decide +kernel)) HeldL.nil)) (fun hHeld' => ?_)
              clear hK K hHeld; have hHeld := hHeld'; clear hHeld'
              try simp only [Act.put, List.setIfInBounds_toArray, List.set_cons_zero, List.set_cons_succ]
              refine wpAnyL_done (by kernel_rfl) ?_ _
              replace hg := hid (show St _ _ (Asn.blk (w.heap.size + 1) #[(.slice (some ⟨ga, 0, none⟩) ((P + b) + 1) ca), (.slice (some ⟨gb, 0, none⟩) ((P + b) + 1) cb)] 189 :: _) _ from hg.out)
              try simp only [List.setIfInBounds_toArray, List.set_cons_zero, List.set_cons_succ] at hg
              go_wp2
              go_roundw
              case rel => exact ⟨b + 1, by omega, by go_num, _, _, _, _, by rw [hsN.out, hsO.out]; exact hg.out.s1⟩
              case measure => simp [intOf]; omega
        · obtain rfl : s' = b := by omega
          have hP' := hid (show P + s' = (a + 1) * s' by rw [hP.out]; exact (Nat.succ_mul a s').symm)
          go_wp2
          go_roundw
          case rel => exact ⟨a + 1, P + s', by omega, hP', by go_num, _, _, _, _, tS.out⟩
          case measure => simp [intOf]; omega
    · obtain rfl : s = a := by omega
      have hTB := hid (show TB wr (w.heap.size + 1) vN vO T from ⟨rS.out.k0, ⟨_, by have h := rS.out.g1; rw [hP.out] at h; rw [hTn.out, hTL.out]; exact h⟩, ⟨_, by have h := rS.out.g2; rw [hP.out] at h; rw [hTn.out, hTL.out]; exact h⟩⟩)
      have hU1 : IntKind.i64.wrap ((q : Int) * (s' : Int)) = (V0 : Int) := hu1.out
      have hr16 : r < 16 := by have := hrs.out; omega
      have hU2 : IntKind.i64.wrap ((V0 : Int) + (r : Int)) = ((V0 + r : Nat) : Int) := by rw [show (V0 : Int) + (r : Int) = ((V0 + r : Nat) : Int) by omega]; exact IntWalk.i64_in _ (by omega)
      generalize V0 + r = n0 at *
      go_upto_region 18 with (fail)
      replace rS := hid rS.out.drew.nothing
      replace hTB := hid (hTB.out.below ((Below.refl wr.heap.size wr).drew))
      refine wp_region_heldL (L := [(16, (fun w' : World => w'.cell? ⟨b1, o1, none⟩ = some (.int .i64 (l : Int)) ∧ w'.cell? ⟨b2, 1, none⟩ = some (.int .i64 (s' : Int))))]) (by kernel_rfl) (HeldL.cons (fun _ => ⟨(hml.out _ (hBel.out _ rS.out.bel)).2.1, (hkl.out _ (hBel.out _ rS.out.bel)).2⟩) HeldL.nil) (fun hHeld => ?_)
      generalize wr.drew = wd at *
      refine wpAnyL_take0 (i := 0) (v := ?_) rfl (by kernel_rfl) (by kernel_rfl) (by kernel_rfl) (by rfl) (fun _ _ _ h => h) (Or.inl ⟨by rfl, ?_⟩) (by assumption) ?_
      rotate_left
      · (intro W _; go_simp; (with_reducible rfl))
      intro hHeld'
      clear hHeld; have hHeld := hHeld'; clear hHeld'
      try simp only [Act.put, List.setIfInBounds_toArray, List.set_cons_zero, List.set_cons_succ]
      refine wpAnyL_take0 (i := 1) (v := ?_) rfl (by kernel_rfl) (by kernel_rfl) (by kernel_rfl) (by rfl) (fun _ _ _ h => h) (Or.inl ⟨by rfl, ?_⟩) (by assumption) ?_
      rotate_left
      · (intro W _; go_simp; (with_reducible rfl))
      intro hHeld'
      clear hHeld; have hHeld := hHeld'; clear hHeld'
      try simp only [Act.put, List.setIfInBounds_toArray, List.set_cons_zero, List.set_cons_succ]
      refine wpAnyL_take0 (i := 2) (v := ?_) rfl (by kernel_rfl) (by kernel_rfl) (by kernel_rfl) (by rfl) (fun _ _ _ h => h) (Or.inl ⟨by rfl, ?_⟩) (by assumption) ?_
      rotate_left
      · (intro W _; go_simp; (with_reducible rfl))
      intro hHeld'
      clear hHeld; have hHeld := hHeld'; clear hHeld'
      try simp only [Act.put, List.setIfInBounds_toArray, List.set_cons_zero, List.set_cons_succ]
      refine wpAnyL_take0 (i := 3) (v := ?_) rfl (by kernel_rfl) (by kernel_rfl) (by kernel_rfl) (by rfl) (fun _ _ _ h => h) (Or.inl ⟨by rfl, ?_⟩) (by assumption) ?_
      rotate_left
      · (intro W _; go_simp; (with_reducible rfl))
      intro hHeld'
      clear hHeld; have hHeld := hHeld'; clear hHeld'
      try simp only [Act.put, List.setIfInBounds_toArray, List.set_cons_zero, List.set_cons_succ]
      refine wpAnyL_takeP (i := 4) 16 [] (v := ?_) (fun w' : World => w'.cell? ⟨b1, o1, none⟩ = some (.int .i64 (l : Int)) ∧ w'.cell? ⟨b2, 1, none⟩ = some (.int .i64 (s' : Int))) rfl (by kernel_rfl) (by kernel_rfl) (by kernel_rfl) (by rfl) (by kernel_rfl) (by simp) (fun _ _ _ h => h) (Or.inl ⟨by rfl, ?_⟩) (by assumption) ?_
      rotate_left
      · (intro W hW; (obtain ⟨h1, h2⟩ := hW); go_simp; (with_reducible rfl))
      intro hHeld'
      clear hHeld; have hHeld := hHeld'; clear hHeld'
      try simp only [Act.put, List.setIfInBounds_toArray, List.set_cons_zero, List.set_cons_succ]
      refine wpAnyL_take0 (i := 5) (v := ?_) rfl (by kernel_rfl) (by kernel_rfl) (by kernel_rfl) (by rfl) (fun _ _ _ h => h) (Or.inl ⟨by rfl, ?_⟩) (by assumption) ?_
      rotate_left
      · (intro W _; go_simp; (with_reducible rfl))
      intro hHeld'
      clear hHeld; have hHeld := hHeld'; clear hHeld'
      try simp only [Act.put, List.setIfInBounds_toArray, List.set_cons_zero, List.set_cons_succ]
      refine wpAnyL_take0 (i := 6) (v := ?_) rfl (by kernel_rfl) (by kernel_rfl) (by kernel_rfl) (by rfl) (fun _ _ _ h => h) (Or.inl ⟨by rfl, ?_⟩) (by assumption) ?_
      rotate_left
      · (intro W _; go_simp; (with_reducible rfl))
      intro hHeld'
      clear hHeld; have hHeld := hHeld'; clear hHeld'
      try simp only [Act.put, List.setIfInBounds_toArray, List.set_cons_zero, List.set_cons_succ]
      refine wpAnyL_take0 (i := 7) (v := ?_) rfl (by kernel_rfl) (by kernel_rfl) (by kernel_rfl) (by rfl) (fun _ _ _ h => h) (Or.inl ⟨by rfl, ?_⟩) (by assumption) ?_
      rotate_left
      · (intro W _; go_simp; (with_reducible rfl))
      intro hHeld'
      clear hHeld; have hHeld := hHeld'; clear hHeld'
      try simp only [Act.put, List.setIfInBounds_toArray, List.set_cons_zero, List.set_cons_succ]
      refine wpAnyL_take0 (i := 8) (v := ?_) rfl (by kernel_rfl) (by kernel_rfl) (by kernel_rfl) (by rfl) (fun _ _ _ h => h) (Or.inl ⟨by rfl, ?_⟩) (by assumption) ?_
      rotate_left
      · (intro W _; go_simp; (with_reducible rfl))
      intro hHeld'
      clear hHeld; have hHeld := hHeld'; clear hHeld'
      try simp only [Act.put, List.setIfInBounds_toArray, List.set_cons_zero, List.set_cons_succ]
      refine wpAnyL_takeP (i := 9) 16 [] (v := ?_) (fun w' : World => w'.cell? ⟨b1, o1, none⟩ = some (.int .i64 (l : Int)) ∧ w'.cell? ⟨b2, 1, none⟩ = some (.int .i64 (s' : Int))) rfl (by kernel_rfl) (by kernel_rfl) (by kernel_rfl) (by rfl) (by kernel_rfl) (by simp) (fun _ _ _ h => h) (Or.inl ⟨by rfl, ?_⟩) (by assumption) ?_
      rotate_left
      · (intro W hW; (obtain ⟨h1, h2⟩ := hW); go_simp; (with_reducible rfl))
      intro hHeld'
      clear hHeld; have hHeld := hHeld'; clear hHeld'
      try simp only [Act.put, List.setIfInBounds_toArray, List.set_cons_zero, List.set_cons_succ]
      refine wpAnyL_take0 (i := 10) (v := ?_) rfl (by kernel_rfl) (by kernel_rfl) (by kernel_rfl) (by rfl) (fun _ _ _ h => h) (Or.inl ⟨by rfl, ?_⟩) (by assumption) ?_
      rotate_left
      · (intro W _; go_simp; (with_reducible rfl))
      intro hHeld'
      clear hHeld; have hHeld := hHeld'; clear hHeld'
      try simp only [Act.put, List.setIfInBounds_toArray, List.set_cons_zero, List.set_cons_succ]
      refine wpAnyL_take0 (i := 11) (v := ?_) rfl (by kernel_rfl) (by kernel_rfl) (by kernel_rfl) (by rfl) (fun _ _ _ h => h) (Or.inl ⟨by rfl, ?_⟩) (by assumption) ?_
      rotate_left
      · (intro W _; go_simp; (with_reducible rfl))
      intro hHeld'
      clear hHeld; have hHeld := hHeld'; clear hHeld'
      try simp only [Act.put, List.setIfInBounds_toArray, List.set_cons_zero, List.set_cons_succ]
      refine wpAnyL_take0 (i := 12) (v := ?_) rfl (by kernel_rfl) (by kernel_rfl) (by kernel_rfl) (by rfl) (fun _ _ _ h => h) (Or.inl ⟨by rfl, ?_⟩) (by assumption) ?_
      rotate_left
      · (intro W _; go_simp; (with_reducible rfl))
      intro hHeld'
      clear hHeld; have hHeld := hHeld'; clear hHeld'
      try simp only [Act.put, List.setIfInBounds_toArray, List.set_cons_zero, List.set_cons_succ]
      refine wpAnyL_ready (rs := [13]) (by kernel_rfl) (by simp) ?_
      refine AllReadyL.cons rfl (fun K hK => ?_) AllReadyL.nil
      go_simp
      go_at_call 236
      (with_reducible refine (hmf.out _ _ _ _ hTB.out).mono ?_)
      rintro e w2 ⟨rfl, hb⟩
      replace rS := hid (rS.out.call hb); clear hb hTB
      go_simp
      have hZ2 := hid (hZ.out _ rS.out.bel)
      have pB := hid (hBel.out _ rS.out.bel)
      refine hK.out _ _ (HeldL.cons (fun _ => ⟨(hml.out _ pB.out).2.1, (hkl.out _ pB.out).2⟩) HeldL.nil) (fun hHeld' => ?_)
      clear hK K hHeld; have hHeld := hHeld'; clear hHeld'
      try simp only [Act.put, List.setIfInBounds_toArray, List.set_cons_zero, List.set_cons_succ]
      refine wpAnyL_take0 (i := 14) (v := ?_) rfl (by kernel_rfl) (by kernel_rfl) (by kernel_rfl) (by rfl) (fun _ _ _ h => h) (Or.inl ⟨by rfl, ?_⟩) (by assumption) ?_
      rotate_left
      · (intro W _; go_simp; (with_reducible rfl))
      intro hHeld'
      clear hHeld; have hHeld := hHeld'; clear hHeld'
      try simp only [Act.put, List.setIfInBounds_toArray, List.set_cons_zero, List.set_cons_succ]
      refine wpAnyL_take0 (i := 15) (v := ?_) rfl (by kernel_rfl) (by kernel_rfl) (by kernel_rfl) (by rfl) (fun _ _ _ h => h) (Or.inl ⟨by rfl, ?_⟩) (by assumption) ?_
      rotate_left
      · (intro W _; go_simp; (with_reducible rfl))
      intro hHeld'
      clear hHeld; have hHeld := hHeld'; clear hHeld'
      try simp only [Act.put, List.setIfInBounds_toArray, List.set_cons_zero, List.set_cons_succ]
      refine wpAnyL_ready (rs := [16]) (by kernel_rfl) (by simp) ?_
      refine AllReadyL.cons rfl (fun K hK => ?_) AllReadyL.nil
      refine step_store_mach rfl _ _ rfl _ rfl fm rfl _ _ hZ2.out ?_
      intro w9 p2 ho hbl
      replace pB := hid (hbl _ _ (Nat.le_refl _) pB.out)
      replace p2 := hid p2; clear ho hbl hZ2 rS
      refine hK.out _ _ (HeldL.cons (fun h => absurd h (by decide +kernel)) HeldL.nil) (fun hHeld' => ?_)
      clear hK K hHeld; have hHeld := hHeld'; clear hHeld'
      try simp only [Act.put, List.setIfInBounds_toArray, List.set_cons_zero, List.set_cons_succ]
      refine wpAnyL_take0 (i := 17) (v := ?_) rfl (by kernel_rfl) (by kernel_rfl) (by kernel_rfl) (by rfl) (fun _ _ _ h => h) (Or.inl ⟨by rfl, ?_⟩) (by assumption) ?_
      rotate_left
      · (intro W _; go_simp; (with_reducible rfl))
      intro hHeld'
      clear hHeld; have hHeld := hHeld'; clear hHeld'
      try simp only [Act.put, List.setIfInBounds_toArray, List.set_cons_zero, List.set_cons_succ]
      refine wpAnyL_done (by kernel_rfl) ?_ _
      simp only [Act.put, List.getElem_toArray, List.getElem_cons_succ, List.getElem_cons_zero, List.setIfInBounds_toArray, List.set_cons_zero, List.set_cons_succ]
      go_wp2
      exact ret_mach_i rfl rfl rfl p2.out rfl ⟨rfl, pB.out⟩
end Go.Proofs.Ytbmkkaecfogmoaa

/- SectionOfPortrait: what the program answers. -/
namespace Go.Proofs.Ytbmkkaecfogmoaa
open Go.RowKit
set_option linter.unusedVariables false
set_option linter.unusedSimpArgs false
-- @LONG

open Classical in
/-- What SectionOfPortrait answers. -/
noncomputable def sopAns (d n : Int) (g : List Int) (ws : ByteArray) : List Int × Int :=
  if pcode d n [g] = 0 then (if IsWd d ws then (if (ws.size : Int) < n then (byL d.toNat (fun u => gAt d.toNat g (lets ws ++ u)) (n.toNat - ws.size), 0) else ([], 2)) else ([], 1)) else ([], pcode d n [g])
theorem pcode_cases (d n : Int) (g : List Int) : pcode d n [g] = 1 ∨ pcode d n [g] = 2 ∨ (pcode d n [g] = 0 ∧ ∃ (a b : Nat), d = a ∧ n = b ∧ (a = 2 ∨ a = 3) ∧ 1 ≤ b ∧ b ≤ 4 ∧ IsP a b g) := by
  unfold pcode
  by_cases h : IsD d n
  · rw [if_pos h]
    obtain ⟨a, b, rfl, rfl, h1, h2, h3⟩ := h.nat
    by_cases h4 : IsP a b g
    · rw [if_pos (by simpa using h4)]
      exact .inr (.inr ⟨rfl, a, b, rfl, rfl, h1, h2, h3, h4⟩)
    · rw [if_neg (by simpa using h4)]
      exact .inl rfl
  · rw [if_neg h]
    exact .inr (.inl rfl)
theorem gAt_in {d n : Nat} {g : List Int} (hd : d = 2 ∨ d = 3) (hg : IsP d n g) (u : List Nat) (hu : ∀ x ∈ u, x < d) (hn : u.length < n) :
    start d u.length + num d u < g.length ∧ g[start d u.length + num d u]? = some (gAt d g u) := by
  have h1 := num_lt d u.length u rfl hu
  have h2 : start d (u.length + 1) = start d u.length + pw d u.length := rfl
  have h3 := start_mono d (u.length + 1) (n - (u.length + 1))
  rw [show u.length + 1 + (n - (u.length + 1)) = n by omega] at h3
  have h4 : start d u.length + num d u < g.length := by rw [hg.1]; omega
  exact ⟨h4, by unfold gAt; rw [List.getD_eq_getElem?_getD, List.getElem?_eq_getElem h4]; rfl⟩
theorem gAt_range {d n : Nat} {g : List Int} (hd : d = 2 ∨ d = 3) (hg : IsP d n g) (u : List Nat) (hu : ∀ x ∈ u, x < d) (hn : u.length < n) : 0 ≤ gAt d g u ∧ gAt d g u < (cnt d : Int) :=
  hg.2 _ (List.mem_of_getElem? (gAt_in hd hg u hu hn).2)
theorem mat1 {W : World} {b : Nat} {vv r : Value} {g : List Int} (h : Own W b 29 vv [r]) (hr : Own W b 2 r (ints g)) : Mat W b vv [g] :=
  ⟨_, h, rfl, fun i r' l h1 h2 => by
    match i, h1, h2 with
    | 0, h1, h2 => simp at h1 h2; subst h1; subst h2; exact hr
    | i + 1, h1, h2 => simp at h1⟩
end Go.Proofs.Ytbmkkaecfogmoaa
