/- What the program's functions do, part 3. Conditions: none. -/
import Derived.Test.YtpclhmihehcniaaGreatDoorBb
set_option maxRecDepth 100000
set_option maxHeartbeats 2000000
namespace Go.AL.SE
open Go Go.AL Go.AL.S Go.Proofs Go.Sort
/- slices.siftDownCmpFunc[umpire/graph.Edge] -/
def c_e114 : AC := (AC.seq (AC.reg [⟨some 12, .mov, [.t 1], none⟩,⟨some 10, .mov, [.t 12], none⟩]) (AC.block 0 (AC.loop (AC.block 1 (AC.seq (AC.reg [⟨some 13, .mov, [.t 10], none⟩,⟨some 14, .bin .mul, [.c (.int .i64 2), .t 13], none⟩,⟨some 15, .bin .add, [.t 14, .c (.int .i64 1)], none⟩,⟨some 11, .mov, [.t 15], none⟩]) (AC.seq (AC.seq (AC.reg [⟨some 16, .mov, [.t 11], none⟩,⟨some 17, .mov, [.t 2], none⟩,⟨some 18, .bin .geq, [.t 16, .t 17], none⟩]) (AC.cond (.t 18) (AC.exit 0) AC.skip)) (AC.seq (AC.seq (AC.par (PT.step 0 ⟨some 19, .mov, [.t 11], none⟩ (PT.step 1 ⟨some 20, .bin .add, [.t 19, .c (.int .i64 1)], none⟩ (PT.step 2 ⟨some 21, .mov, [.t 2], none⟩ (PT.step 3 ⟨some 22, .bin .lss, [.t 20, .t 21], none⟩ (PT.step 4 ⟨some 23, .mov, [.t 22], none⟩ (PT.step 5 ⟨some 24, .mov, [.t 4], (some (23, true))⟩ (PT.step 6 ⟨some 25, .mov, [.t 0], (some (23, true))⟩ (PT.step 7 ⟨some 26, .mov, [.t 3], (some (23, true))⟩ (PT.step 8 ⟨some 27, .mov, [.t 11], (some (23, true))⟩ (PT.step 9 ⟨some 28, .bin .add, [.t 26, .t 27], (some (23, true))⟩ (PT.step 12 ⟨some 31, .mov, [.t 0], (some (23, true))⟩ (PT.step 13 ⟨some 32, .mov, [.t 3], (some (23, true))⟩ (PT.step 14 ⟨some 33, .mov, [.t 11], (some (23, true))⟩ (PT.step 15 ⟨some 34, .bin .add, [.t 32, .t 33], (some (23, true))⟩ (PT.step 16 ⟨some 35, .bin .add, [.t 34, .c (.int .i64 1)], (some (23, true))⟩ (PT.step 10 ⟨some 29, .idxp 3, [.t 25, .t 28], (some (23, true))⟩ (PT.step 11 ⟨some 30, .load true 3, [.t 29], (some (23, true))⟩ (PT.step 17 ⟨some 36, .idxp 3, [.t 31, .t 35], (some (23, true))⟩ (PT.step 18 ⟨some 37, .load true 3, [.t 36], (some (23, true))⟩ (PT.step 19 ⟨some 38, .callv, [.t 24, .t 30, .t 37], (some (23, true))⟩ (PT.step 20 ⟨some 39, .bin .lss, [.t 38, .c (.int .i64 0)], (some (23, true))⟩ (PT.step 21 ⟨some 40, .pick, [.t 23, .t 39, .c (.bool false)], none⟩ PT.done))))))))))))))))))))))) (AC.cond (.t 40) (AC.reg [⟨some 41, .mov, [.t 11], none⟩,⟨some 42, .bin .add, [.t 41, .c (.int .i64 1)], none⟩,⟨some 11, .mov, [.t 42], none⟩]) AC.skip)) (AC.seq (AC.seq (AC.par (PT.step 0 ⟨some 43, .mov, [.t 4], none⟩ (PT.step 1 ⟨some 44, .mov, [.t 0], none⟩ (PT.step 2 ⟨some 45, .mov, [.t 3], none⟩ (PT.step 3 ⟨some 46, .mov, [.t 10], none⟩ (PT.step 4 ⟨some 47, .bin .add, [.t 45, .t 46], none⟩ (PT.step 7 ⟨some 50, .mov, [.t 0], none⟩ (PT.step 8 ⟨some 51, .mov, [.t 3], none⟩ (PT.step 9 ⟨some 52, .mov, [.t 11], none⟩ (PT.step 10 ⟨some 53, .bin .add, [.t 51, .t 52], none⟩ (PT.step 5 ⟨some 48, .idxp 3, [.t 44, .t 47], none⟩ (PT.step 6 ⟨some 49, .load true 3, [.t 48], none⟩ (PT.step 11 ⟨some 54, .idxp 3, [.t 50, .t 53], none⟩ (PT.step 12 ⟨some 55, .load true 3, [.t 54], none⟩ (PT.step 13 ⟨some 56, .callv, [.t 43, .t 49, .t 55], none⟩ (PT.step 14 ⟨some 57, .bin .lss, [.t 56, .c (.int .i64 0)], none⟩ (PT.step 15 ⟨some 58, .un .not, [.t 57], none⟩ PT.done))))))))))))))))) (AC.cond (.t 58) AC.ret AC.skip)) (AC.seq (AC.par (PT.step 0 ⟨some 59, .mov, [.t 0], none⟩ (PT.step 1 ⟨some 60, .mov, [.t 3], none⟩ (PT.step 2 ⟨some 61, .mov, [.t 10], none⟩ (PT.step 3 ⟨some 62, .bin .add, [.t 60, .t 61], none⟩ (PT.step 4 ⟨some 63, .mov, [.t 0], none⟩ (PT.step 5 ⟨some 64, .mov, [.t 3], none⟩ (PT.step 6 ⟨some 65, .mov, [.t 11], none⟩ (PT.step 7 ⟨some 66, .bin .add, [.t 64, .t 65], none⟩ (PT.step 8 ⟨some 67, .mov, [.t 0], none⟩ (PT.step 9 ⟨some 68, .mov, [.t 3], none⟩ (PT.step 10 ⟨some 69, .mov, [.t 11], none⟩ (PT.step 11 ⟨some 70, .bin .add, [.t 68, .t 69], none⟩ (PT.step 14 ⟨some 73, .mov, [.t 0], none⟩ (PT.step 15 ⟨some 74, .mov, [.t 3], none⟩ (PT.step 16 ⟨some 75, .mov, [.t 10], none⟩ (PT.step 17 ⟨some 76, .bin .add, [.t 74, .t 75], none⟩ (PT.step 12 ⟨some 71, .idxp 3, [.t 67, .t 70], none⟩ (PT.step 13 ⟨some 72, .load true 3, [.t 71], none⟩ (PT.step 18 ⟨some 77, .idxp 3, [.t 73, .t 76], none⟩ (PT.step 19 ⟨some 78, .load true 3, [.t 77], none⟩ (PT.step 20 ⟨some 79, .idxp 3, [.t 59, .t 62], none⟩ (PT.step 21 ⟨none, .store 3, [.t 79, .t 72], none⟩ (PT.step 22 ⟨some 80, .idxp 3, [.t 63, .t 66], none⟩ (PT.step 23 ⟨none, .store 3, [.t 80, .t 78], none⟩ PT.done))))))))))))))))))))))))) (AC.reg [⟨some 81, .mov, [.t 11], none⟩,⟨some 10, .mov, [.t 81], none⟩]))))))))))
def r_e114 : AC × List RT × Nat := (c_e114, [], 82)
theorem ok_e114e : compF Tryz.prog Tryz.f215 ⟨true, false, []⟩ = some r_e114 := by kernel_rfl
/- slices.heapSortCmpFunc[umpire/graph.Edge] -/
def c_e82 : AC := (AC.seq (AC.reg [⟨some 13, .mov, [.t 1], none⟩,⟨some 8, .mov, [.t 13], none⟩]) (AC.seq (AC.reg [⟨some 9, .mov, [.c (.int .i64 0)], none⟩]) (AC.seq (AC.reg [⟨some 14, .mov, [.t 2], none⟩,⟨some 15, .mov, [.t 1], none⟩,⟨some 16, .bin .sub, [.t 14, .t 15], none⟩,⟨some 10, .mov, [.t 16], none⟩]) (AC.seq (AC.seq (AC.reg [⟨some 17, .mov, [.t 10], none⟩,⟨some 18, .bin .sub, [.t 17, .c (.int .i64 1)], none⟩,⟨some 19, .bin .quo, [.t 18, .c (.int .i64 2)], none⟩,⟨some 11, .mov, [.t 19], none⟩]) (AC.block 0 (AC.loop (AC.seq (AC.seq (AC.reg [⟨some 20, .mov, [.t 11], none⟩,⟨some 21, .bin .geq, [.t 20, .c (.int .i64 0)], none⟩]) (AC.cond (.t 21) AC.skip (AC.exit 0))) (AC.seq (AC.block 1 (AC.reg [⟨some 24, .mov, [.t 0], none⟩,⟨some 25, .mov, [.t 11], none⟩,⟨some 26, .mov, [.t 10], none⟩,⟨some 27, .mov, [.t 8], none⟩,⟨some 28, .mov, [.t 3], none⟩,⟨some 29, .call 215, [.t 24, .t 25, .t 26, .t 27, .t 28], none⟩])) (AC.reg [⟨some 22, .mov, [.t 11], none⟩,⟨some 23, .bin .sub, [.t 22, .c (.int .i64 1)], none⟩,⟨some 11, .mov, [.t 23], none⟩])))))) (AC.seq (AC.reg [⟨some 30, .mov, [.t 10], none⟩,⟨some 31, .bin .sub, [.t 30, .c (.int .i64 1)], none⟩,⟨some 12, .mov, [.t 31], none⟩]) (AC.block 2 (AC.loop (AC.seq (AC.seq (AC.reg [⟨some 32, .mov, [.t 12], none⟩,⟨some 33, .bin .geq, [.t 32, .c (.int .i64 0)], none⟩]) (AC.cond (.t 33) AC.skip (AC.exit 2))) (AC.seq (AC.block 3 (AC.seq (AC.par (PT.step 0 ⟨some 36, .mov, [.t 0], none⟩ (PT.step 1 ⟨some 37, .mov, [.t 8], none⟩ (PT.step 2 ⟨some 38, .mov, [.t 0], none⟩ (PT.step 3 ⟨some 39, .mov, [.t 8], none⟩ (PT.step 4 ⟨some 40, .mov, [.t 12], none⟩ (PT.step 5 ⟨some 41, .bin .add, [.t 39, .t 40], none⟩ (PT.step 6 ⟨some 42, .mov, [.t 0], none⟩ (PT.step 7 ⟨some 43, .mov, [.t 8], none⟩ (PT.step 8 ⟨some 44, .mov, [.t 12], none⟩ (PT.step 9 ⟨some 45, .bin .add, [.t 43, .t 44], none⟩ (PT.step 12 ⟨some 48, .mov, [.t 0], none⟩ (PT.step 13 ⟨some 49, .mov, [.t 8], none⟩ (PT.step 10 ⟨some 46, .idxp 3, [.t 42, .t 45], none⟩ (PT.step 11 ⟨some 47, .load true 3, [.t 46], none⟩ (PT.step 14 ⟨some 50, .idxp 3, [.t 48, .t 49], none⟩ (PT.step 15 ⟨some 51, .load true 3, [.t 50], none⟩ (PT.step 16 ⟨some 52, .idxp 3, [.t 36, .t 37], none⟩ (PT.step 17 ⟨none, .store 3, [.t 52, .t 47], none⟩ (PT.step 18 ⟨some 53, .idxp 3, [.t 38, .t 41], none⟩ (PT.step 19 ⟨none, .store 3, [.t 53, .t 51], none⟩ PT.done))))))))))))))))))))) (AC.reg [⟨some 54, .mov, [.t 0], none⟩,⟨some 55, .mov, [.t 9], none⟩,⟨some 56, .mov, [.t 12], none⟩,⟨some 57, .mov, [.t 8], none⟩,⟨some 58, .mov, [.t 3], none⟩,⟨some 59, .call 215, [.t 54, .t 55, .t 56, .t 57, .t 58], none⟩]))) (AC.reg [⟨some 34, .mov, [.t 12], none⟩,⟨some 35, .bin .sub, [.t 34, .c (.int .i64 1)], none⟩,⟨some 12, .mov, [.t 35], none⟩]))))))))))
def r_e82 : AC × List RT × Nat := (c_e82, [], 60)
theorem ok_e82e : compF Tryz.prog Tryz.f193 ⟨true, false, []⟩ = some r_e82 := by kernel_rfl
/- slices.reverseRangeCmpFunc[umpire/graph.Edge] -/
def c_e85 : AC := (AC.seq (AC.reg [⟨some 10, .mov, [.t 1], none⟩,⟨some 8, .mov, [.t 10], none⟩]) (AC.seq (AC.reg [⟨some 11, .mov, [.t 2], none⟩,⟨some 12, .bin .sub, [.t 11, .c (.int .i64 1)], none⟩,⟨some 9, .mov, [.t 12], none⟩]) (AC.block 0 (AC.loop (AC.seq (AC.seq (AC.reg [⟨some 13, .mov, [.t 8], none⟩,⟨some 14, .mov, [.t 9], none⟩,⟨some 15, .bin .lss, [.t 13, .t 14], none⟩]) (AC.cond (.t 15) AC.skip (AC.exit 0))) (AC.block 1 (AC.seq (AC.par (PT.step 0 ⟨some 16, .mov, [.t 0], none⟩ (PT.step 1 ⟨some 17, .mov, [.t 8], none⟩ (PT.step 2 ⟨some 18, .mov, [.t 0], none⟩ (PT.step 3 ⟨some 19, .mov, [.t 9], none⟩ (PT.step 4 ⟨some 20, .mov, [.t 0], none⟩ (PT.step 5 ⟨some 21, .mov, [.t 9], none⟩ (PT.step 8 ⟨some 24, .mov, [.t 0], none⟩ (PT.step 9 ⟨some 25, .mov, [.t 8], none⟩ (PT.step 6 ⟨some 22, .idxp 3, [.t 20, .t 21], none⟩ (PT.step 7 ⟨some 23, .load true 3, [.t 22], none⟩ (PT.step 10 ⟨some 26, .idxp 3, [.t 24, .t 25], none⟩ (PT.step 11 ⟨some 27, .load true 3, [.t 26], none⟩ (PT.step 12 ⟨some 28, .idxp 3, [.t 16, .t 17], none⟩ (PT.step 13 ⟨none, .store 3, [.t 28, .t 23], none⟩ (PT.step 14 ⟨some 29, .idxp 3, [.t 18, .t 19], none⟩ (PT.step 15 ⟨none, .store 3, [.t 29, .t 27], none⟩ PT.done))))))))))))))))) (AC.seq (AC.reg [⟨some 30, .mov, [.t 8], none⟩,⟨some 31, .bin .add, [.t 30, .c (.int .i64 1)], none⟩,⟨some 8, .mov, [.t 31], none⟩]) (AC.reg [⟨some 32, .mov, [.t 9], none⟩,⟨some 33, .bin .sub, [.t 32, .c (.int .i64 1)], none⟩,⟨some 9, .mov, [.t 33], none⟩])))))))))
def r_e85 : AC × List RT × Nat := (c_e85, [], 34)
theorem ok_e85e : compF Tryz.prog Tryz.f196 ⟨true, false, []⟩ = some r_e85 := by kernel_rfl
variable {E : Env}
theorem reverseRange_c (hP : E.P = Tryz.prog) (W : AW) (r n a b : Nat) (d : Array Ed) (hn : d.size = n) (hb : b ≤ n) (hb1 : 1 ≤ b) (hsm : n < 2 ^ 48) :
    ACalls E 196 [.slr r 0 n 3, .int .i64 a, .int .i64 b, (.fn (.func 109) [] [])] (pv W r d) fun X W' => X = .tuple [] ∧ W' = pv W r (reverseRange d a b) := by
  refine ACalls.of hP Tryz.func196 ok_e85e (by simp) fun _ _ => ?_
  simp (maxSteps := 2000000) (disch := omega) only [c_e85, BS, BC, e_seq, ↓reduceIte, Nat.reduceEqDiff, wsub1, e_loop]
  refine ALoop.go (B := awp E _) (fun h => awp_mono _ h) (fun (s : Nat × Nat × Array Ed) A1 W1 => A1 0 = some (.slr r 0 n 3) ∧ A1 3 = some (.fn (.func 109) [] []) ∧ A1 8 = some (.int .i64 s.1) ∧ A1 9 = some (.int .i64 s.2.1) ∧
    W1 = pv W r s.2.2 ∧ s.2.1 < n ∧ s.2.2.size = n ∧ reverseLoop s.1 s.2.1 s.2.2 = reverseRange d a b) (fun s => s.2.1 - s.1) (a, b - 1, d)
    ⟨rfl, rfl, rfl, rfl, rfl, by simp; omega, hn, rfl⟩ ?_
  rintro ⟨i, j, d1⟩ A1 W1 ⟨g0, gc, g6, g7, rfl, gj, gs, gt⟩ _
  simp only at g6 g7 gj gs gt
  simp only [BS, e_seq, cond_if, ↓reduceIte, Nat.reduceEqDiff, reduceCtorEq, g0, g6, g7, clt]
  by_cases h : i < j
  · simp (disch := (try simp only [sz_set]) <;> omega) only [BS, e_seq, ↓reduceIte, Nat.reduceEqDiff, reduceCtorEq, undef_t, h, decide_true, g0, gc, g6, g7, ix, ld, st, wadd1, wsub1, sw]
    refine ⟨(i + 1, j - 1, swp d1 i j), ⟨trivial, trivial, rfl, rfl, rfl, by simp; omega, by simp [swp, gs], ?_⟩, by simp; omega, Nat.le_refl _⟩
    rw [← gt, reverseLoop.eq_def i j d1, if_pos h]
  · simp only [BC, ↓reduceIte, h, decide_false]
    refine ⟨_, rfl, _, _, .weak weak_id, Nat.le_refl _, rfl, ?_⟩
    rw [← gt, reverseLoop, if_neg h]

theorem siftDown_c (hP : E.P = Tryz.prog) (W : AW) (r n lo hi first : Nat) (d : Array Ed) (hn : d.size = n) (hh : first + hi ≤ n) (hlo : lo ≤ n) (hsm : n < 2 ^ 48) :
    ACalls E 215 [.slr r 0 n 3, .int .i64 lo, .int .i64 hi, .int .i64 first, (.fn (.func 109) [] [])] (pv W r d) fun X W' => X = .tuple [] ∧ W' = pv W r (siftDown ltE hi first lo d) := by
  refine ACalls.of hP Tryz.func215 ok_e114e (by simp) fun _ _ => ?_
  simp only [c_e114, BS, BC, e_seq, ↓reduceIte, e_loop]
  refine ALoop.go (B := awp E _) (fun h => awp_mono _ h) (fun (s : Nat × Array Ed) A1 W1 => A1 0 = some (.slr r 0 n 3) ∧ A1 4 = some (.fn (.func 109) [] []) ∧ A1 2 = some (.int .i64 hi) ∧ A1 3 = some (.int .i64 first) ∧ A1 10 = some (.int .i64 s.1) ∧
    W1 = pv W r s.2 ∧ s.1 ≤ n ∧ s.2.size = n ∧ siftDown ltE hi first s.1 s.2 = siftDown ltE hi first lo d) (fun s => n - s.1) (lo, d)
    ⟨rfl, rfl, rfl, rfl, rfl, rfl, hlo, hn, rfl⟩ ?_
  rintro ⟨root, d1⟩ A1 W1 ⟨g0, gc, g2, g3, g8, rfl, gr, gs, gt⟩ _
  simp only at g8 gr gs gt
  rw [siftDown.eq_def ltE hi first root d1] at gt
  by_cases h1 : 2 * root + 1 ≥ hi
  · simp (maxSteps := 2000000) (disch := omega) only [BS, e_seq, cond_if, ↓reduceIte, Nat.reduceEqDiff, reduceCtorEq, g2, g8, wmul2, wadd1, cge, h1, decide_true]
    rw [dif_pos h1] at gt
    exact ⟨_, rfl, _, _, .weak weak_id, Nat.le_refl _, rfl, by rw [← gt]⟩
  rw [dif_neg h1] at gt
  have fin : ∀ c, root < c → c < hi → (if !ltE d1[first + root]! d1[first + c]! then d1 else siftDown ltE hi first c (swp d1 (first + root) (first + c))) = siftDown ltE hi first lo d →
      (¬ d1[first + root]! < d1[first + c]! → d1 = siftDown ltE hi first lo d) ∧ (d1[first + root]! < d1[first + c]! → siftDown ltE hi first c (swp d1 (first + root) (first + c)) = siftDown ltE hi first lo d) := by
    intro c _ _ h
    by_cases h4 : d1[first + root]! < d1[first + c]!
    · simp [ltE, h4] at h; exact ⟨fun h' => absurd h4 h', fun _ => h⟩
    · simp [ltE, h4] at h; exact ⟨fun _ => h, fun h' => absurd h' h4⟩
  by_cases h2 : 2 * root + 1 + 1 < hi
  · simp (maxSteps := 2000000) (disch := omega) only [BS, BC, e_seq, cond_if, guard_if, ↓reduceIte, Nat.reduceEqDiff, reduceCtorEq, ed_frz, List.nil_append, List.append_nil, h1, decide_false, h2, decide_true, g0, gc, g2, g3, g8, wmul2, wadd1, wadd, cge, clt, ix, ld]
    refine (less_c hP _ _ _).mono ?_
    rintro X W' ⟨rfl, rfl⟩
    by_cases h3 : d1[first + (2 * root + 1)]! < d1[first + (2 * root + 1) + 1]!
    · obtain ⟨c, hc⟩ : ∃ c, c = 2 * root + 2 := ⟨_, rfl⟩
      have wc : IntKind.i64.wrap (((2 * root + 1 : Nat) : Int) + 1) = (c : Int) := by rw [wadd1 (by omega), hc]
      rw [if_pos (by simp [h2, ltE, h3])] at gt
      have f := fin c (by omega) (by omega) (by rw [← gt, hc, dif_pos (by omega)])
      simp (maxSteps := 2000000) (disch := omega) only [BS, BC, e_seq, cond_if, guard_if, ↓reduceIte, Nat.reduceEqDiff, reduceCtorEq, ed_frz, List.nil_append, List.append_nil, cmp_lt, h3, decide_true, g0, gc, g3, g8, wc, wadd, ix, ld]
      refine (less_c hP _ _ _).mono ?_
      rintro X W' ⟨rfl, rfl⟩
      by_cases h4 : d1[first + root]! < d1[first + c]!
      · simp (disch := (try simp only [sz_set]) <;> omega) only [BS, BC, e_seq, cond_if, ↓reduceIte, Nat.reduceEqDiff, reduceCtorEq, cmp_lt, undef_t, h4, decide_true, Bool.not_true, g0, gc, g2, g3, g8, wadd, ix, ld, st, sw]
        exact ⟨(c, swp d1 (first + root) (first + c)), ⟨trivial, trivial, trivial, trivial, rfl, rfl, by simp; omega, by simp [swp, gs], f.2 h4⟩, by simp; omega, Nat.le_refl _⟩
      · simp only [BS, cond_if, ↓reduceIte, cmp_lt, h4, decide_false, Bool.not_false]
        exact ⟨_, rfl, _, _, .weak weak_id, Nat.le_refl _, rfl, by rw [← f.1 h4]⟩
    · obtain ⟨c, hc⟩ : ∃ c, c = 2 * root + 1 := ⟨_, rfl⟩
      rw [if_neg (by simp [h2, ltE, h3])] at gt
      have f := fin c (by omega) (by omega) (by rw [← gt, hc])
      rw [← hc] at h3
      simp (maxSteps := 2000000) (disch := omega) only [BS, BC, e_seq, cond_if, guard_if, ↓reduceIte, Nat.reduceEqDiff, reduceCtorEq, ed_frz, List.nil_append, List.append_nil, cmp_lt, h3, decide_false, g0, gc, g3, g8, ← hc, wadd, ix, ld]
      refine (less_c hP _ _ _).mono ?_
      rintro X W' ⟨rfl, rfl⟩
      by_cases h4 : d1[first + root]! < d1[first + c]!
      · simp (disch := (try simp only [sz_set]) <;> omega) only [BS, BC, e_seq, cond_if, ↓reduceIte, Nat.reduceEqDiff, reduceCtorEq, cmp_lt, undef_t, h4, decide_true, Bool.not_true, g0, gc, g2, g3, g8, wadd, ix, ld, st, sw]
        exact ⟨(c, swp d1 (first + root) (first + c)), ⟨trivial, trivial, trivial, trivial, rfl, rfl, by simp; omega, by simp [swp, gs], f.2 h4⟩, by simp; omega, Nat.le_refl _⟩
      · simp only [BS, cond_if, ↓reduceIte, cmp_lt, h4, decide_false, Bool.not_false]
        exact ⟨_, rfl, _, _, .weak weak_id, Nat.le_refl _, rfl, by rw [← f.1 h4]⟩
  · obtain ⟨c, hc⟩ : ∃ c, c = 2 * root + 1 := ⟨_, rfl⟩
    rw [if_neg (by simp [h2])] at gt
    have f := fin c (by omega) (by omega) (by rw [← gt, hc])
    rw [← hc] at h1 h2
    simp (maxSteps := 2000000) (disch := omega) only [BS, BC, e_seq, cond_if, guard_if, ↓reduceIte, Nat.reduceEqDiff, reduceCtorEq, ed_frz, List.nil_append, List.append_nil, undef_t, h1, decide_false, h2, g0, gc, g2, g3, g8, wmul2, wadd1, wadd, cge, clt, ← hc, ix, ld]
    refine (less_c hP _ _ _).mono ?_
    rintro X W' ⟨rfl, rfl⟩
    by_cases h4 : d1[first + root]! < d1[first + c]!
    · simp (disch := (try simp only [sz_set]) <;> omega) only [BS, BC, e_seq, cond_if, ↓reduceIte, Nat.reduceEqDiff, reduceCtorEq, cmp_lt, undef_t, h4, decide_true, Bool.not_true, g0, gc, g2, g3, g8, wadd, ix, ld, st, sw]
      exact ⟨(c, swp d1 (first + root) (first + c)), ⟨trivial, trivial, trivial, trivial, rfl, rfl, by simp; omega, by simp [swp, gs], f.2 h4⟩, by simp; omega, Nat.le_refl _⟩
    · simp only [BS, cond_if, ↓reduceIte, cmp_lt, h4, decide_false, Bool.not_false]
      exact ⟨_, rfl, _, _, .weak weak_id, Nat.le_refl _, rfl, by rw [← f.1 h4]⟩

theorem siftDown_size (lt : Ed → Ed → Bool) (hi first : Nat) : ∀ (m root : Nat) (d : Array Ed), hi - root ≤ m → (siftDown lt hi first root d).size = d.size := by
  intro m
  induction m with
  | zero => intro root d h; rw [siftDown.eq_def, dif_pos (by omega)]
  | succ m ih =>
    intro root d h
    rw [siftDown.eq_def]
    split
    · rfl
    split
    · split
      · rfl
      split
      · rw [ih _ _ (by omega)]; simp [swp]
      · rfl
    · split
      · rfl
      · rw [ih _ _ (by omega)]; simp [swp]

theorem heapSort_c (hP : E.P = Tryz.prog) (W : AW) (r n a b : Nat) (d : Array Ed) (hn : d.size = n) (hab : a < b) (hb : b ≤ n) (hsm : n < 2 ^ 48) :
    ACalls E 193 [.slr r 0 n 3, .int .i64 a, .int .i64 b, (.fn (.func 109) [] [])] (pv W r d) fun X W' => X = .tuple [] ∧ W' = pv W r (heapSort ltE d a b) := by
  refine ACalls.of hP Tryz.func193 ok_e82e (by simp) fun _ _ => ?_
  obtain ⟨hi, hhi⟩ : ∃ hi, hi = b - a := ⟨_, rfl⟩
  simp (maxSteps := 2000000) (disch := omega) only [c_e82, BS, BC, e_seq, ↓reduceIte, Nat.reduceEqDiff, e_loop, wsub, wsub1, quo2, ← hhi]
  refine ALoop.go (B := awp E _) (fun h => awp_mono _ h) (fun (s : Nat × Array Ed) A1 W1 => A1 0 = some (.slr r 0 n 3) ∧ A1 3 = some (.fn (.func 109) [] []) ∧ A1 8 = some (.int .i64 a) ∧ A1 9 = some (.int .i64 0) ∧ A1 10 = some (.int .i64 hi) ∧ A1 11 = some (.int .i64 ((s.1 : Int) - 1)) ∧
    W1 = pv W r s.2 ∧ s.1 ≤ n ∧ s.2.size = n ∧ heapPop ltE a hi (heapBuild ltE hi a s.1 s.2) = heapSort ltE d a b) (fun s => s.1) ((hi - 1) / 2 + 1, d)
    ⟨rfl, rfl, rfl, rfl, rfl, by rw [succ_pred]; rfl, rfl, by simp; omega, hn, by rw [heapSort, hhi]⟩ ?_
  rintro ⟨k, d1⟩ A1 W1 ⟨g0, gc, g6, g7, g8, g9, rfl, gk, gs, gt⟩ _
  simp only at g9 gk gs gt
  cases k with
  | succ k =>
    rw [succ_pred] at g9
    simp (maxSteps := 2000000) (disch := omega) only [BS, BC, e_seq, cond_if, ↓reduceIte, Nat.reduceEqDiff, reduceCtorEq, g0, gc, g6, g8, g9, cge0]
    refine (siftDown_c hP W r n k hi a d1 gs (by omega) (by omega) hsm).mono ?_
    rintro X W' ⟨rfl, rfl⟩
    simp (maxSteps := 2000000) (disch := omega) only [BS, ↓reduceIte, Nat.reduceEqDiff, reduceCtorEq, g0, gc, g6, g7, g8, g9, wsubm]
    exact ⟨(k, siftDown ltE hi a k d1), ⟨trivial, trivial, trivial, trivial, trivial, rfl, rfl, by simp; omega, by rw [siftDown_size _ _ _ _ _ _ (Nat.le_refl _), gs], gt⟩, by simp, Nat.le_refl _⟩
  | zero =>
    have c0 : decide ((((0 : Nat) : Int) - 1) ≥ 0) = false := by decide
    simp (maxSteps := 2000000) (disch := omega) only [BS, BC, e_seq, cond_if, ↓reduceIte, Nat.reduceEqDiff, g8, g9, c0, wsubm, e_loop]
    refine ALoop.go (B := awp E _) (fun h => awp_mono _ h) (fun (s : Nat × Array Ed) A1 W1 => A1 0 = some (.slr r 0 n 3) ∧ A1 3 = some (.fn (.func 109) [] []) ∧ A1 8 = some (.int .i64 a) ∧ A1 9 = some (.int .i64 0) ∧ A1 12 = some (.int .i64 ((s.1 : Int) - 1)) ∧
      W1 = pv W r s.2 ∧ s.1 ≤ hi ∧ s.2.size = n ∧ heapPop ltE a s.1 s.2 = heapSort ltE d a b) (fun s => s.1) (hi, d1)
      ⟨g0, gc, g6, g7, rfl, rfl, Nat.le_refl _, gs, gt⟩ ?_
    rintro ⟨k, d2⟩ A2 W2 ⟨q0, qc, q6, q7, q10, rfl, qk, qs, qt⟩ _
    simp only at q10 qk qs qt
    cases k with
    | succ k =>
      rw [succ_pred] at q10
      have z : (0 : Int) = ((0 : Nat) : Int) := rfl
      simp (disch := (try simp only [sz_set]) <;> omega) only [BS, BC, e_seq, cond_if, ↓reduceIte, Nat.reduceEqDiff, reduceCtorEq, undef_t, q0, qc, q6, q7, q10, cge0, wadd, ix, ld, st, sw]
      refine (siftDown_c hP W r n 0 k a (swp d2 a (a + k)) (by simp [swp, qs]) (by omega) (by omega) hsm).mono ?_
      rintro X W' ⟨rfl, rfl⟩
      simp (maxSteps := 2000000) (disch := omega) only [BS, ↓reduceIte, Nat.reduceEqDiff, reduceCtorEq, q0, qc, q6, q7, q10, wsubm]
      exact ⟨(k, siftDown ltE k a 0 (swp d2 a (a + k))), ⟨trivial, trivial, trivial, trivial, rfl, rfl, by simp; omega, by rw [siftDown_size _ _ _ _ _ _ (Nat.le_refl _)]; simp [swp, qs], qt⟩, by simp, Nat.le_refl _⟩
    | zero =>
      have c0 : decide ((((0 : Nat) : Int) - 1) ≥ 0) = false := by decide
      simp (maxSteps := 2000000) (disch := omega) only [BS, BC, e_seq, cond_if, ↓reduceIte, q10, c0]
      exact ⟨_, rfl, _, _, .weak weak_id, Nat.le_refl _, rfl, by rw [← qt]; rfl⟩
end Go.AL.SE
set_option maxRecDepth 100000
set_option maxHeartbeats 2000000
namespace Go.AL.SE
open Go Go.AL Go.AL.S Go.Proofs Go.Sort
/- slices.order2CmpFunc[umpire/graph.Edge] -/
def c_e134 : AC := (AC.seq (AC.reg [⟨some 10, .mov, [.c (.int .i64 0)], none⟩,⟨some 11, .mov, [.c (.int .i64 0)], none⟩]) (AC.seq (AC.seq (AC.par (PT.step 0 ⟨some 12, .mov, [.t 4], none⟩ (PT.step 1 ⟨some 13, .mov, [.t 0], none⟩ (PT.step 2 ⟨some 14, .mov, [.t 2], none⟩ (PT.step 5 ⟨some 17, .mov, [.t 0], none⟩ (PT.step 6 ⟨some 18, .mov, [.t 1], none⟩ (PT.step 3 ⟨some 15, .idxp 3, [.t 13, .t 14], none⟩ (PT.step 4 ⟨some 16, .load true 3, [.t 15], none⟩ (PT.step 7 ⟨some 19, .idxp 3, [.t 17, .t 18], none⟩ (PT.step 8 ⟨some 20, .load true 3, [.t 19], none⟩ (PT.step 9 ⟨some 21, .callv, [.t 12, .t 16, .t 20], none⟩ (PT.step 10 ⟨some 22, .bin .lss, [.t 21, .c (.int .i64 0)], none⟩ PT.done)))))))))))) (AC.cond (.t 22) (AC.seq (AC.reg [⟨some 23, .mov, [.t 3], none⟩,⟨some 24, .nilck, [.t 23], none⟩,⟨some 25, .load false 1, [.t 24], none⟩,⟨some 26, .bin .add, [.t 25, .c (.int .i64 1)], none⟩,⟨some 27, .nilck, [.t 23], none⟩,⟨none, .store 1, [.t 27, .t 26], none⟩]) (AC.seq (AC.reg [⟨some 28, .mov, [.t 2], none⟩,⟨some 29, .mov, [.t 1], none⟩,⟨some 10, .mov, [.t 28], none⟩,⟨some 11, .mov, [.t 29], none⟩]) AC.ret)) AC.skip)) (AC.seq (AC.reg [⟨some 30, .mov, [.t 1], none⟩,⟨some 31, .mov, [.t 2], none⟩,⟨some 10, .mov, [.t 30], none⟩,⟨some 11, .mov, [.t 31], none⟩]) AC.ret)))
def r_e134 : AC × List RT × Nat := (c_e134, [.tmp 10, .tmp 11], 32)
theorem ok_e134e : compF Tryz.prog Tryz.f218 ⟨true, false, []⟩ = some r_e134 := by kernel_rfl
/- slices.medianCmpFunc[umpire/graph.Edge] -/
def c_e118 : AC := (AC.seq (AC.reg [⟨some 12, .mov, [.c (.int .i64 0)], none⟩]) (AC.seq (AC.reg [⟨some 14, .mov, [.t 0], none⟩,⟨some 15, .mov, [.t 1], none⟩,⟨some 16, .mov, [.t 2], none⟩,⟨some 17, .mov, [.t 4], none⟩,⟨some 18, .mov, [.t 5], none⟩,⟨some 19, .call 218, [.t 14, .t 15, .t 16, .t 17, .t 18], none⟩,⟨some 13, .mov, [.t 19], none⟩,⟨some 20, .ext 0, [.t 13], none⟩,⟨some 21, .ext 1, [.t 13], none⟩,⟨some 1, .mov, [.t 20], none⟩,⟨some 2, .mov, [.t 21], none⟩]) (AC.seq (AC.reg [⟨some 23, .mov, [.t 0], none⟩,⟨some 24, .mov, [.t 2], none⟩,⟨some 25, .mov, [.t 3], none⟩,⟨some 26, .mov, [.t 4], none⟩,⟨some 27, .mov, [.t 5], none⟩,⟨some 28, .call 218, [.t 23, .t 24, .t 25, .t 26, .t 27], none⟩,⟨some 22, .mov, [.t 28], none⟩,⟨some 29, .ext 0, [.t 22], none⟩,⟨some 30, .ext 1, [.t 22], none⟩,⟨some 2, .mov, [.t 29], none⟩,⟨some 3, .mov, [.t 30], none⟩]) (AC.seq (AC.reg [⟨some 32, .mov, [.t 0], none⟩,⟨some 33, .mov, [.t 1], none⟩,⟨some 34, .mov, [.t 2], none⟩,⟨some 35, .mov, [.t 4], none⟩,⟨some 36, .mov, [.t 5], none⟩,⟨some 37, .call 218, [.t 32, .t 33, .t 34, .t 35, .t 36], none⟩,⟨some 31, .mov, [.t 37], none⟩,⟨some 38, .ext 0, [.t 31], none⟩,⟨some 39, .ext 1, [.t 31], none⟩,⟨some 1, .mov, [.t 38], none⟩,⟨some 2, .mov, [.t 39], none⟩]) (AC.seq (AC.reg [⟨some 40, .mov, [.t 2], none⟩,⟨some 12, .mov, [.t 40], none⟩]) AC.ret)))))
def r_e118 : AC × List RT × Nat := (c_e118, [.tmp 12], 41)
theorem ok_e118e : compF Tryz.prog Tryz.f217 ⟨true, false, []⟩ = some r_e118 := by kernel_rfl
/- slices.medianAdjacentCmpFunc[umpire/graph.Edge] -/
def c_e117 : AC := (AC.seq (AC.reg [⟨some 8, .mov, [.c (.int .i64 0)], none⟩]) (AC.seq (AC.reg [⟨some 9, .mov, [.t 0], none⟩,⟨some 10, .mov, [.t 1], none⟩,⟨some 11, .bin .sub, [.t 10, .c (.int .i64 1)], none⟩,⟨some 12, .mov, [.t 1], none⟩,⟨some 13, .mov, [.t 1], none⟩,⟨some 14, .bin .add, [.t 13, .c (.int .i64 1)], none⟩,⟨some 15, .mov, [.t 2], none⟩,⟨some 16, .mov, [.t 3], none⟩,⟨some 17, .call 217, [.t 9, .t 11, .t 12, .t 14, .t 15, .t 16], none⟩,⟨some 8, .mov, [.t 17], none⟩]) AC.ret))
def r_e117 : AC × List RT × Nat := (c_e117, [.tmp 8], 18)
theorem ok_e117e : compF Tryz.prog Tryz.f216 ⟨true, false, []⟩ = some r_e117 := by kernel_rfl
/- slices.choosePivotCmpFunc[umpire/graph.Edge] -/
def c_e84 : AC := (AC.seq (AC.reg [⟨some 8, .mov, [.c (.int .i64 0)], none⟩,⟨some 9, .mov, [.c (.int .i64 0)], none⟩]) (AC.seq (AC.reg [⟨some 15, .mov, [.t 2], none⟩,⟨some 16, .mov, [.t 1], none⟩,⟨some 17, .bin .sub, [.t 15, .t 16], none⟩,⟨some 10, .mov, [.t 17], none⟩]) (AC.seq (AC.reg [⟨some 11, .alloc [.int .i64 0], [], none⟩]) (AC.seq (AC.reg [⟨some 18, .mov, [.t 1], none⟩,⟨some 19, .mov, [.t 10], none⟩,⟨some 20, .bin .quo, [.t 19, .c (.int .i64 4)], none⟩,⟨some 21, .bin .mul, [.t 20, .c (.int .i64 1)], none⟩,⟨some 22, .bin .add, [.t 18, .t 21], none⟩,⟨some 12, .mov, [.t 22], none⟩]) (AC.seq (AC.reg [⟨some 23, .mov, [.t 1], none⟩,⟨some 24, .mov, [.t 10], none⟩,⟨some 25, .bin .quo, [.t 24, .c (.int .i64 4)], none⟩,⟨some 26, .bin .mul, [.t 25, .c (.int .i64 2)], none⟩,⟨some 27, .bin .add, [.t 23, .t 26], none⟩,⟨some 13, .mov, [.t 27], none⟩]) (AC.seq (AC.reg [⟨some 28, .mov, [.t 1], none⟩,⟨some 29, .mov, [.t 10], none⟩,⟨some 30, .bin .quo, [.t 29, .c (.int .i64 4)], none⟩,⟨some 31, .bin .mul, [.t 30, .c (.int .i64 3)], none⟩,⟨some 32, .bin .add, [.t 28, .t 31], none⟩,⟨some 14, .mov, [.t 32], none⟩]) (AC.seq (AC.seq (AC.reg [⟨some 33, .mov, [.t 10], none⟩,⟨some 34, .bin .geq, [.t 33, .c (.int .i64 8)], none⟩]) (AC.cond (.t 34) (AC.seq (AC.seq (AC.reg [⟨some 35, .mov, [.t 10], none⟩,⟨some 36, .bin .geq, [.t 35, .c (.int .i64 50)], none⟩]) (AC.cond (.t 36) (AC.seq (AC.reg [⟨some 37, .mov, [.t 0], none⟩,⟨some 38, .mov, [.t 12], none⟩,⟨some 39, .mov, [.t 3], none⟩,⟨some 40, .call 216, [.t 37, .t 38, .t 11, .t 39], none⟩,⟨some 12, .mov, [.t 40], none⟩]) (AC.seq (AC.reg [⟨some 41, .mov, [.t 0], none⟩,⟨some 42, .mov, [.t 13], none⟩,⟨some 43, .mov, [.t 3], none⟩,⟨some 44, .call 216, [.t 41, .t 42, .t 11, .t 43], none⟩,⟨some 13, .mov, [.t 44], none⟩]) (AC.reg [⟨some 45, .mov, [.t 0], none⟩,⟨some 46, .mov, [.t 14], none⟩,⟨some 47, .mov, [.t 3], none⟩,⟨some 48, .call 216, [.t 45, .t 46, .t 11, .t 47], none⟩,⟨some 14, .mov, [.t 48], none⟩]))) AC.skip)) (AC.reg [⟨some 49, .mov, [.t 0], none⟩,⟨some 50, .mov, [.t 12], none⟩,⟨some 51, .mov, [.t 13], none⟩,⟨some 52, .mov, [.t 14], none⟩,⟨some 53, .mov, [.t 3], none⟩,⟨some 54, .call 217, [.t 49, .t 50, .t 51, .t 52, .t 11, .t 53], none⟩,⟨some 13, .mov, [.t 54], none⟩])) AC.skip)) (AC.seq (AC.reg [⟨some 55, .load false 1, [.t 11], none⟩]) (AC.block 0 (AC.seq (AC.reg [⟨some 58, .bin .eql, [.t 55, .c (.int .i64 0)], none⟩,⟨some 57, .mov, [.t 58], none⟩]) (AC.cond (.t 57) (AC.seq (AC.reg [⟨some 59, .mov, [.t 13], none⟩,⟨some 8, .mov, [.t 59], none⟩,⟨some 9, .mov, [.c (.int .i64 1)], none⟩]) AC.ret) (AC.seq (AC.reg [⟨some 61, .bin .eql, [.t 55, .c (.int .i64 12)], none⟩,⟨some 60, .mov, [.t 61], none⟩]) (AC.cond (.t 60) (AC.seq (AC.reg [⟨some 62, .mov, [.t 13], none⟩,⟨some 8, .mov, [.t 62], none⟩,⟨some 9, .mov, [.c (.int .i64 2)], none⟩]) AC.ret) (AC.seq (AC.reg [⟨some 56, .mov, [.t 13], none⟩,⟨some 8, .mov, [.t 56], none⟩,⟨some 9, .mov, [.c (.int .i64 0)], none⟩]) AC.ret))))))))))))))
def r_e84 : AC × List RT × Nat := (c_e84, [.tmp 8, .tmp 9], 63)
theorem ok_e84e : compF Tryz.prog Tryz.f195 ⟨true, false, []⟩ = some r_e84 := by kernel_rfl
variable {E : Env}
theorem ldq {A : AW} {K : V → AW → Prop} {r p s i : Nat} {d : Array Ed} (hA : A.get r = some (.vec 3 (cellsE d))) (hp : r ≠ p) (h : i < d.size) :
    sem E (.load true 3) [.vptr r (i * 3)] (pq A p s) K = K (d[i]!.V) (pq A p s) :=
  sem_load_vec (s' := 3) (cells := cellsE d) (by simp [pq, AW.put, hp, hA]) (part_cellsE h)
theorem order2_c (hP : E.P = Tryz.prog) {A : AW} {r p s n a b : Nat} {d : Array Ed} (hA : A.get r = some (.vec 3 (cellsE d))) (hp : r ≠ p) (hn : d.size = n) (ha : a < n) (hb : b < n) (hs : s < 1000) :
    ACalls E 218 [.slr r 0 n 3, .int .i64 a, .int .i64 b, .ptr p 0, (.fn (.func 109) [] [])] (pq A p s) fun X W' => X = .tuple [.int .i64 (order2 ltE d a b s).1, .int .i64 (order2 ltE d a b s).2.1] ∧ W' = pq A p (order2 ltE d a b s).2.2 := by
  refine ACalls.of hP Tryz.func218 ok_e134e (by simp) fun _ _ => ?_
  simp (maxSteps := 2000000) (disch := omega) only [c_e134, BS, BC, e_seq, ↓reduceIte, Nat.reduceEqDiff, reduceCtorEq, ed_frz, List.nil_append, List.append_nil, ix, ldq hA hp]
  refine (less_c hP _ _ _).mono ?_
  rintro X W' ⟨rfl, rfl⟩
  by_cases h : d[b]! < d[a]!
  · simp (maxSteps := 2000000) (disch := omega) only [BS, BC, e_seq, cond_if, ↓reduceIte, Nat.reduceEqDiff, cmp_lt, undef_t, h, decide_true, ldp, wadd1, stp]
    exact ⟨_, rfl, _, _, .weak weak_id, Nat.le_refl _, by simp [order2, ltE, h], by simp [order2, ltE, h]⟩
  · simp (maxSteps := 2000000) (disch := omega) only [BS, BC, e_seq, cond_if, ↓reduceIte, Nat.reduceEqDiff, cmp_lt, h, decide_false]
    exact ⟨_, rfl, _, _, .weak weak_id, Nat.le_refl _, by simp [order2, ltE, h], by simp [order2, ltE, h]⟩
theorem order2_le {d : Array Ed} {a b s n : Nat} (ha : a < n) (hb : b < n) : (order2 ltE d a b s).1 < n ∧ (order2 ltE d a b s).2.1 < n ∧ (order2 ltE d a b s).2.2 ≤ s + 1 := by
  unfold order2
  split <;> simp [ha, hb]

theorem median_c (hP : E.P = Tryz.prog) {A : AW} {r p s n a b c : Nat} {d : Array Ed} (hA : A.get r = some (.vec 3 (cellsE d))) (hp : r ≠ p) (hn : d.size = n) (ha : a < n) (hb : b < n) (hc : c < n) (hs : s < 900) :
    ACalls E 217 [.slr r 0 n 3, .int .i64 a, .int .i64 b, .int .i64 c, .ptr p 0, (.fn (.func 109) [] [])] (pq A p s) fun X W' => X = .int .i64 (median ltE d a b c s).1 ∧ W' = pq A p (median ltE d a b c s).2 := by
  refine ACalls.of hP Tryz.func217 ok_e118e (by simp) fun _ _ => ?_
  obtain ⟨l1, l2, l3⟩ := order2_le (d := d) (s := s) ha hb
  obtain ⟨m1, m2, m3⟩ := order2_le (d := d) (s := (order2 ltE d a b s).2.2) l2 hc
  obtain ⟨n1, n2, n3⟩ := order2_le (d := d) (s := (order2 ltE d (order2 ltE d a b s).2.1 c (order2 ltE d a b s).2.2).2.2) l1 m1
  simp only [c_e118, BS, BC, e_seq, ↓reduceIte, Nat.reduceEqDiff, reduceCtorEq]
  refine (order2_c hP hA hp hn ha hb (by omega)).mono ?_
  rintro X W' ⟨rfl, rfl⟩
  simp only [BS, BC, e_seq, ↓reduceIte, Nat.reduceEqDiff, reduceCtorEq]
  refine (order2_c hP hA hp hn l2 hc (by omega)).mono ?_
  rintro X W' ⟨rfl, rfl⟩
  simp only [BS, BC, e_seq, ↓reduceIte, Nat.reduceEqDiff, reduceCtorEq]
  refine (order2_c hP hA hp hn l1 m1 (by omega)).mono ?_
  rintro X W' ⟨rfl, rfl⟩
  simp only [BS, BC, e_seq, ↓reduceIte, Nat.reduceEqDiff]
  exact ⟨_, rfl, _, _, .weak weak_id, Nat.le_refl _, rfl, rfl⟩
theorem median_le {d : Array Ed} {a b c s n : Nat} (ha : a < n) (hb : b < n) (hc : c < n) : (median ltE d a b c s).1 < n ∧ (median ltE d a b c s).2 ≤ s + 3 := by
  obtain ⟨l1, l2, l3⟩ := order2_le (d := d) (s := s) ha hb
  obtain ⟨m1, m2, m3⟩ := order2_le (d := d) (s := (order2 ltE d a b s).2.2) l2 hc
  obtain ⟨n1, n2, n3⟩ := order2_le (d := d) (s := (order2 ltE d (order2 ltE d a b s).2.1 c (order2 ltE d a b s).2.2).2.2) l1 m1
  exact ⟨n2, by simp only [median]; omega⟩

theorem medianAdjacent_c (hP : E.P = Tryz.prog) {A : AW} {r p s n a : Nat} {d : Array Ed} (hA : A.get r = some (.vec 3 (cellsE d))) (hp : r ≠ p) (hn : d.size = n) (ha : 1 ≤ a) (hb : a + 1 < n) (hs : s < 900) (hsm : n < 2 ^ 48) :
    ACalls E 216 [.slr r 0 n 3, .int .i64 a, .ptr p 0, (.fn (.func 109) [] [])] (pq A p s) fun X W' => X = .int .i64 (medianAdjacent ltE d a s).1 ∧ W' = pq A p (medianAdjacent ltE d a s).2 := by
  refine ACalls.of hP Tryz.func216 ok_e117e (by simp) fun _ _ => ?_
  simp (maxSteps := 2000000) (disch := omega) only [c_e117, BS, BC, e_seq, ↓reduceIte, Nat.reduceEqDiff, reduceCtorEq, wsub1, wadd1]
  refine (median_c hP hA hp hn (by omega) (by omega) (by omega) hs).mono ?_
  rintro X W' ⟨rfl, rfl⟩
  simp only [BS, BC, ↓reduceIte]
  exact ⟨_, rfl, _, _, .weak weak_id, Nat.le_refl _, rfl, rfl⟩

/-- What was made may be forgotten. -/
theorem choosePivot_c (hP : E.P = Tryz.prog) (W : AW) (r n a b : Nat) (d : Array Ed) (hn : d.size = n) (hr : r < W.nx) (hab : a < b) (hb : b ≤ n) (hl : 8 ≤ b - a) (hsm : n < 2 ^ 48) :
    ACalls E 195 [.slr r 0 n 3, .int .i64 a, .int .i64 b, (.fn (.func 109) [] [])] (pv W r d) fun X W' => X = .tuple [.int .i64 (choosePivot ltE d a b).1, .int .i64 (hintN (choosePivot ltE d a b).2)] ∧ W' = pv W r d := by
  refine ACalls.of hP Tryz.func195 ok_e84e (by simp) fun _ hok => ?_
  obtain ⟨l, hl'⟩ : ∃ l, l = b - a := ⟨_, rfl⟩
  obtain ⟨A, hAd⟩ : ∃ A, A = (pv W r d).alloc (.row [.int .i64 0]) := ⟨_, rfl⟩
  have hA : A.get r = some (.vec 3 (cellsE d)) := by
    rw [hAd]; simp only [AW.alloc, pv_nx]; rw [if_neg (by omega)]; exact pv_get
  have hp : r ≠ W.nx := by omega
  have hA0 : A = pq A W.nx 0 := by
    rw [hAd]
    simp only [pq, AW.alloc, AW.put, AW.mk.injEq, and_true]
    funext x
    by_cases h : x = W.nx <;> simp [h, pv_nx]
  have hback : ∀ s x, x < (pv W r d).nx → (pq A W.nx s).get x = (pv W r d).get x := by
    intro s x hx
    rw [pv_nx] at hx
    rw [hAd]
    simp only [pq, AW.alloc, AW.put, pv_nx]
    rw [if_neg (by omega), if_neg (by omega)]
  -- behind the medians
  have hn1 : a + l / 4 * 1 + 1 < n := by omega
  have hn2 : a + l / 4 * 2 + 1 < n := by omega
  have hn3 : a + l / 4 * 3 + 1 < n := by omega
  have hg8 : l ≥ 8 := by omega
  by_cases h50 : l ≥ 50
  · have k1 := median_le (d := d) (s := 0) (n := n) (a := a + l / 4 * 1 - 1) (b := a + l / 4 * 1) (c := a + l / 4 * 1 + 1) (by omega) (by omega) (by omega)
    obtain ⟨R1, hR1⟩ : ∃ R1, R1 = medianAdjacent ltE d (a + l / 4 * 1) 0 := ⟨_, rfl⟩
    have k2 := median_le (d := d) (s := R1.2) (n := n) (a := a + l / 4 * 2 - 1) (b := a + l / 4 * 2) (c := a + l / 4 * 2 + 1) (by omega) (by omega) (by omega)
    obtain ⟨R2, hR2⟩ : ∃ R2, R2 = medianAdjacent ltE d (a + l / 4 * 2) R1.2 := ⟨_, rfl⟩
    have k3 := median_le (d := d) (s := R2.2) (n := n) (a := a + l / 4 * 3 - 1) (b := a + l / 4 * 3) (c := a + l / 4 * 3 + 1) (by omega) (by omega) (by omega)
    obtain ⟨R3, hR3⟩ : ∃ R3, R3 = medianAdjacent ltE d (a + l / 4 * 3) R2.2 := ⟨_, rfl⟩
    obtain ⟨R, hR⟩ : ∃ R, R = median ltE d R1.1 R2.1 R3.1 R3.2 := ⟨_, rfl⟩
    change (medianAdjacent ltE d (a + l / 4 * 1) 0).1 < n ∧ (medianAdjacent ltE d (a + l / 4 * 1) 0).2 ≤ 0 + 3 at k1
    change (medianAdjacent ltE d (a + l / 4 * 2) R1.2).1 < n ∧ (medianAdjacent ltE d (a + l / 4 * 2) R1.2).2 ≤ R1.2 + 3 at k2
    change (medianAdjacent ltE d (a + l / 4 * 3) R2.2).1 < n ∧ (medianAdjacent ltE d (a + l / 4 * 3) R2.2).2 ≤ R2.2 + 3 at k3
    rw [← hR1] at k1; rw [← hR2] at k2; rw [← hR3] at k3
    simp (maxSteps := 2000000) (disch := omega) only [c_e84, BS, BC, e_seq, cond_if, ↓reduceIte, Nat.reduceEqDiff, reduceCtorEq, wsub, ← hl', quo4, wmul1, wmulr2, wmulr3, wadd, cge8, cge50, hg8, h50, decide_true, pv_nx, ← hAd]
    rw [hA0]
    refine (medianAdjacent_c hP hA hp hn (by omega) (by omega) (by omega) hsm).mono ?_
    rintro X W' ⟨rfl, rfl⟩
    rw [← hR1]
    simp (maxSteps := 2000000) (disch := omega) only [BS, BC, e_seq, ↓reduceIte, Nat.reduceEqDiff, reduceCtorEq]
    refine (medianAdjacent_c hP hA hp hn (by omega) (by omega) (by omega) hsm).mono ?_
    rintro X W' ⟨rfl, rfl⟩
    rw [← hR2]
    simp (maxSteps := 2000000) (disch := omega) only [BS, BC, ↓reduceIte, Nat.reduceEqDiff, reduceCtorEq]
    refine (medianAdjacent_c hP hA hp hn (by omega) (by omega) (by omega) hsm).mono ?_
    rintro X W' ⟨rfl, rfl⟩
    rw [← hR3]
    simp (maxSteps := 2000000) (disch := omega) only [BS, BC, ↓reduceIte, Nat.reduceEqDiff, reduceCtorEq]
    refine (median_c hP hA hp hn k1.1 k2.1 k3.1 (by omega)).mono ?_
    rintro X W' ⟨rfl, rfl⟩
    rw [← hR]
    have hR' : R = median ltE d (medianAdjacent ltE d (a + l / 4 * 1) 0).1 (medianAdjacent ltE d (a + l / 4 * 2) (medianAdjacent ltE d (a + l / 4 * 1) 0).2).1 (medianAdjacent ltE d (a + l / 4 * 3) (medianAdjacent ltE d (a + l / 4 * 2) (medianAdjacent ltE d (a + l / 4 * 1) 0).2).2).1 (medianAdjacent ltE d (a + l / 4 * 3) (medianAdjacent ltE d (a + l / 4 * 2) (medianAdjacent ltE d (a + l / 4 * 1) 0).2).2).2 := by
      rw [hR, hR3, hR2, hR1]
    have hcp : choosePivot ltE d a b = (R.1, if R.2 = 0 then .increasing else if R.2 = 12 then .decreasing else .unknown) := by
      simp only [choosePivot, ← hl', hg8, h50, ↓reduceIte, ← hR']
    by_cases h0 : R.2 = 0
    · simp only [BS, e_seq, cond_if, ↓reduceIte, Nat.reduceEqDiff, ldp, eq0, h0, decide_true]
      exact ⟨_, rfl, _, _, .weak (weak_back hok rfl (hback _)), Nat.le_refl _, by simp [hcp, h0, hintN], rfl⟩
    by_cases h12 : R.2 = 12
    · simp only [BS, BC, e_seq, cond_if, ↓reduceIte, Nat.reduceEqDiff, reduceCtorEq, ldp, eq0, eq12, decide_false, h12, decide_true]
      exact ⟨_, rfl, _, _, .weak (weak_back hok rfl (hback _)), Nat.le_refl _, by simp [hcp, h12, hintN], rfl⟩
    · simp only [BS, BC, e_seq, cond_if, ↓reduceIte, Nat.reduceEqDiff, ldp, eq0, eq12, h0, decide_false, h12]
      exact ⟨_, rfl, _, _, .weak (weak_back hok rfl (hback _)), Nat.le_refl _, by simp [hcp, h0, h12, hintN], rfl⟩
  · obtain ⟨R, hR⟩ : ∃ R, R = median ltE d (a + l / 4 * 1) (a + l / 4 * 2) (a + l / 4 * 3) 0 := ⟨_, rfl⟩
    simp (maxSteps := 2000000) (disch := omega) only [c_e84, BS, BC, e_seq, cond_if, ↓reduceIte, Nat.reduceEqDiff, reduceCtorEq, wsub, ← hl', quo4, wmul1, wmulr2, wmulr3, wadd, cge8, cge50, hg8, h50, decide_true, decide_false, pv_nx, ← hAd]
    rw [hA0]
    refine (median_c hP hA hp hn (by omega) (by omega) (by omega) (by omega)).mono ?_
    rintro X W' ⟨rfl, rfl⟩
    rw [← hR]
    have hcp : choosePivot ltE d a b = (R.1, if R.2 = 0 then .increasing else if R.2 = 12 then .decreasing else .unknown) := by
      simp only [choosePivot, ← hl', hg8, h50, ↓reduceIte, ← hR]
    by_cases h0 : R.2 = 0
    · simp only [BS, e_seq, cond_if, ↓reduceIte, Nat.reduceEqDiff, ldp, eq0, h0, decide_true]
      exact ⟨_, rfl, _, _, .weak (weak_back hok rfl (hback _)), Nat.le_refl _, by simp [hcp, h0, hintN], rfl⟩
    by_cases h12 : R.2 = 12
    · simp only [BS, BC, e_seq, cond_if, ↓reduceIte, Nat.reduceEqDiff, reduceCtorEq, ldp, eq0, eq12, decide_false, h12, decide_true]
      exact ⟨_, rfl, _, _, .weak (weak_back hok rfl (hback _)), Nat.le_refl _, by simp [hcp, h12, hintN], rfl⟩
    · simp only [BS, BC, e_seq, cond_if, ↓reduceIte, Nat.reduceEqDiff, ldp, eq0, eq12, h0, decide_false, h12]
      exact ⟨_, rfl, _, _, .weak (weak_back hok rfl (hback _)), Nat.le_refl _, by simp [hcp, h0, h12, hintN], rfl⟩
end Go.AL.SE
set_option maxRecDepth 100000
set_option maxHeartbeats 2000000
namespace Go.AL.SE
open Go Go.AL Go.AL.S Go.Proofs Go.Sort
/- slices.partitionEqualCmpFunc[umpire/graph.Edge] -/
def c_e88 : AC := (AC.seq (AC.reg [⟨some 10, .mov, [.c (.int .i64 0)], none⟩]) (AC.seq (AC.par (PT.step 0 ⟨some 13, .mov, [.t 0], none⟩ (PT.step 1 ⟨some 14, .mov, [.t 1], none⟩ (PT.step 2 ⟨some 15, .mov, [.t 0], none⟩ (PT.step 3 ⟨some 16, .mov, [.t 3], none⟩ (PT.step 4 ⟨some 17, .mov, [.t 0], none⟩ (PT.step 5 ⟨some 18, .mov, [.t 3], none⟩ (PT.step 8 ⟨some 21, .mov, [.t 0], none⟩ (PT.step 9 ⟨some 22, .mov, [.t 1], none⟩ (PT.step 6 ⟨some 19, .idxp 3, [.t 17, .t 18], none⟩ (PT.step 7 ⟨some 20, .load true 3, [.t 19], none⟩ (PT.step 10 ⟨some 23, .idxp 3, [.t 21, .t 22], none⟩ (PT.step 11 ⟨some 24, .load true 3, [.t 23], none⟩ (PT.step 12 ⟨some 25, .idxp 3, [.t 13, .t 14], none⟩ (PT.step 13 ⟨none, .store 3, [.t 25, .t 20], none⟩ (PT.step 14 ⟨some 26, .idxp 3, [.t 15, .t 16], none⟩ (PT.step 15 ⟨none, .store 3, [.t 26, .t 24], none⟩ PT.done))))))))))))))))) (AC.seq (AC.reg [⟨some 27, .mov, [.t 1], none⟩,⟨some 28, .bin .add, [.t 27, .c (.int .i64 1)], none⟩,⟨some 29, .mov, [.t 2], none⟩,⟨some 30, .bin .sub, [.t 29, .c (.int .i64 1)], none⟩,⟨some 11, .mov, [.t 28], none⟩,⟨some 12, .mov, [.t 30], none⟩]) (AC.seq (AC.block 0 (AC.loop (AC.block 1 (AC.seq (AC.block 2 (AC.loop (AC.seq (AC.seq (AC.par (PT.step 0 ⟨some 31, .mov, [.t 11], none⟩ (PT.step 1 ⟨some 32, .mov, [.t 12], none⟩ (PT.step 2 ⟨some 33, .bin .leq, [.t 31, .t 32], none⟩ (PT.step 3 ⟨some 34, .mov, [.t 33], none⟩ (PT.step 4 ⟨some 35, .mov, [.t 4], (some (34, true))⟩ (PT.step 5 ⟨some 36, .mov, [.t 0], (some (34, true))⟩ (PT.step 6 ⟨some 37, .mov, [.t 1], (some (34, true))⟩ (PT.step 9 ⟨some 40, .mov, [.t 0], (some (34, true))⟩ (PT.step 10 ⟨some 41, .mov, [.t 11], (some (34, true))⟩ (PT.step 7 ⟨some 38, .idxp 3, [.t 36, .t 37], (some (34, true))⟩ (PT.step 8 ⟨some 39, .load true 3, [.t 38], (some (34, true))⟩ (PT.step 11 ⟨some 42, .idxp 3, [.t 40, .t 41], (some (34, true))⟩ (PT.step 12 ⟨some 43, .load true 3, [.t 42], (some (34, true))⟩ (PT.step 13 ⟨some 44, .callv, [.t 35, .t 39, .t 43], (some (34, true))⟩ (PT.step 14 ⟨some 45, .bin .lss, [.t 44, .c (.int .i64 0)], (some (34, true))⟩ (PT.step 15 ⟨some 46, .un .not, [.t 45], (some (34, true))⟩ (PT.step 16 ⟨some 47, .pick, [.t 34, .t 46, .c (.bool false)], none⟩ PT.done)))))))))))))))))) (AC.cond (.t 47) AC.skip (AC.exit 2))) (AC.block 3 (AC.reg [⟨some 48, .mov, [.t 11], none⟩,⟨some 49, .bin .add, [.t 48, .c (.int .i64 1)], none⟩,⟨some 11, .mov, [.t 49], none⟩]))))) (AC.seq (AC.block 4 (AC.loop (AC.seq (AC.seq (AC.par (PT.step 0 ⟨some 50, .mov, [.t 11], none⟩ (PT.step 1 ⟨some 51, .mov, [.t 12], none⟩ (PT.step 2 ⟨some 52, .bin .leq, [.t 50, .t 51], none⟩ (PT.step 3 ⟨some 53, .mov, [.t 52], none⟩ (PT.step 4 ⟨some 54, .mov, [.t 4], (some (53, true))⟩ (PT.step 5 ⟨some 55, .mov, [.t 0], (some (53, true))⟩ (PT.step 6 ⟨some 56, .mov, [.t 1], (some (53, true))⟩ (PT.step 9 ⟨some 59, .mov, [.t 0], (some (53, true))⟩ (PT.step 10 ⟨some 60, .mov, [.t 12], (some (53, true))⟩ (PT.step 7 ⟨some 57, .idxp 3, [.t 55, .t 56], (some (53, true))⟩ (PT.step 8 ⟨some 58, .load true 3, [.t 57], (some (53, true))⟩ (PT.step 11 ⟨some 61, .idxp 3, [.t 59, .t 60], (some (53, true))⟩ (PT.step 12 ⟨some 62, .load true 3, [.t 61], (some (53, true))⟩ (PT.step 13 ⟨some 63, .callv, [.t 54, .t 58, .t 62], (some (53, true))⟩ (PT.step 14 ⟨some 64, .bin .lss, [.t 63, .c (.int .i64 0)], (some (53, true))⟩ (PT.step 15 ⟨some 65, .pick, [.t 53, .t 64, .c (.bool false)], none⟩ PT.done))))))))))))))))) (AC.cond (.t 65) AC.skip (AC.exit 4))) (AC.block 5 (AC.reg [⟨some 66, .mov, [.t 12], none⟩,⟨some 67, .bin .sub, [.t 66, .c (.int .i64 1)], none⟩,⟨some 12, .mov, [.t 67], none⟩]))))) (AC.seq (AC.seq (AC.reg [⟨some 68, .mov, [.t 11], none⟩,⟨some 69, .mov, [.t 12], none⟩,⟨some 70, .bin .gtr, [.t 68, .t 69], none⟩]) (AC.cond (.t 70) (AC.exit 0) AC.skip)) (AC.seq (AC.par (PT.step 0 ⟨some 71, .mov, [.t 0], none⟩ (PT.step 1 ⟨some 72, .mov, [.t 11], none⟩ (PT.step 2 ⟨some 73, .mov, [.t 0], none⟩ (PT.step 3 ⟨some 74, .mov, [.t 12], none⟩ (PT.step 4 ⟨some 75, .mov, [.t 0], none⟩ (PT.step 5 ⟨some 76, .mov, [.t 12], none⟩ (PT.step 8 ⟨some 79, .mov, [.t 0], none⟩ (PT.step 9 ⟨some 80, .mov, [.t 11], none⟩ (PT.step 6 ⟨some 77, .idxp 3, [.t 75, .t 76], none⟩ (PT.step 7 ⟨some 78, .load true 3, [.t 77], none⟩ (PT.step 10 ⟨some 81, .idxp 3, [.t 79, .t 80], none⟩ (PT.step 11 ⟨some 82, .load true 3, [.t 81], none⟩ (PT.step 12 ⟨some 83, .idxp 3, [.t 71, .t 72], none⟩ (PT.step 13 ⟨none, .store 3, [.t 83, .t 78], none⟩ (PT.step 14 ⟨some 84, .idxp 3, [.t 73, .t 74], none⟩ (PT.step 15 ⟨none, .store 3, [.t 84, .t 82], none⟩ PT.done))))))))))))))))) (AC.seq (AC.reg [⟨some 85, .mov, [.t 11], none⟩,⟨some 86, .bin .add, [.t 85, .c (.int .i64 1)], none⟩,⟨some 11, .mov, [.t 86], none⟩]) (AC.reg [⟨some 87, .mov, [.t 12], none⟩,⟨some 88, .bin .sub, [.t 87, .c (.int .i64 1)], none⟩,⟨some 12, .mov, [.t 88], none⟩]))))))))) (AC.seq (AC.reg [⟨some 89, .mov, [.t 11], none⟩,⟨some 10, .mov, [.t 89], none⟩]) AC.ret)))))
def r_e88 : AC × List RT × Nat := (c_e88, [.tmp 10], 90)
theorem ok_e88e : compF Tryz.prog Tryz.f198 ⟨true, false, []⟩ = some r_e88 := by kernel_rfl
variable {E : Env}
theorem partitionEqual_c (hP : E.P = Tryz.prog) (W : AW) (r n a b pivot : Nat) (d : Array Ed) (hn : d.size = n) (hab : a < b) (hb : b ≤ n) (hpv : pivot < n) (hsm : n < 2 ^ 48) :
    ACalls E 198 [.slr r 0 n 3, .int .i64 a, .int .i64 b, .int .i64 pivot, (.fn (.func 109) [] [])] (pv W r d) fun X W' => X = .int .i64 (partitionEqual ltE d a b pivot).1 ∧ W' = pv W r (partitionEqual ltE d a b pivot).2 := by
  refine ACalls.of hP Tryz.func198 ok_e88e (by simp) fun _ hok => ?_
  simp (disch := (try simp only [sz_set]) <;> omega) only [c_e88, BS, BC, e_seq, ↓reduceIte, Nat.reduceEqDiff, reduceCtorEq, undef_t, ix, ld, st, sw, wadd1, wsub1, e_loop]
  refine ALoop.go (B := awp E _) (fun h => awp_mono _ h) (fun (s : Nat × Nat × Array Ed) A1 W1 => A1 0 = some (.slr r 0 n 3) ∧ A1 4 = some (.fn (.func 109) [] []) ∧ A1 1 = some (.int .i64 a) ∧ A1 11 = some (.int .i64 s.1) ∧ A1 12 = some (.int .i64 s.2.1) ∧
    W1 = pv W r s.2.2 ∧ a < s.1 ∧ s.1 ≤ n ∧ s.2.1 < n ∧ s.2.2.size = n ∧ partEqLoop ltE a s.1 s.2.1 s.2.2 = partitionEqual ltE d a b pivot) (fun s => s.2.1 + 1 - s.1) (a + 1, b - 1, swp d a pivot)
    ⟨rfl, rfl, rfl, rfl, rfl, rfl, by simp, by simp; omega, by simp; omega, by simp [swp, hn], rfl⟩ ?_
  rintro ⟨i, j, d1⟩ A1 W1 ⟨g0, gc, g1, g9, g10, rfl, gi, gin, gj, gs, gt⟩ _
  simp only at g9 g10 gi gin gj gs gt
  rw [partEqLoop_eq] at gt
  simp only [BS, e_seq]
  refine awp_mono _ (Q := fun e A' W' => e = .exit 2 ∧ A' 0 = some (.slr r 0 n 3) ∧ A' 4 = some (.fn (.func 109) [] []) ∧ A' 1 = some (.int .i64 a) ∧ A' 11 = some (.int .i64 ((scanUp (fun x => !ltE d1[a]! x) d1 j i : Nat) : Int)) ∧ A' 12 = some (.int .i64 (j : Nat)) ∧ W' = pv W r d1 ∧ i ≤ scanUp (fun x => !ltE d1[a]! x) d1 j i ∧ scanUp (fun x => !ltE d1[a]! x) d1 j i ≤ n) ?_ ?_
  rotate_left
  · rw [e_loop]
    refine ALoop.go (B := awp E _) (fun h => awp_mono _ h) (fun (s : Nat) A2 W2 => A2 0 = some (.slr r 0 n 3) ∧ A2 4 = some (.fn (.func 109) [] []) ∧ A2 1 = some (.int .i64 a) ∧ A2 11 = some (.int .i64 (s : Int)) ∧ A2 12 = some (.int .i64 (j : Nat)) ∧ W2 = pv W r d1 ∧ i ≤ s ∧ s ≤ n ∧ scanUp (fun x => !ltE d1[a]! x) d1 j s = scanUp (fun x => !ltE d1[a]! x) d1 j i) (fun s => j + 1 - s) i
      ⟨by assumption, by assumption, by assumption, by assumption, by assumption, rfl, Nat.le_refl _, by omega, rfl⟩ ?_
    rintro s A2 W2 ⟨q0, qc, q1, qm, qf, rfl, qi, qin, qt⟩ _
    rw [scanUp.eq_def (fun x => !ltE d1[a]! x) d1 j s] at qt
    by_cases h1 : s ≤ j
    · simp (maxSteps := 2000000) (disch := omega) only [BS, BC, e_seq, guard_if, ↓reduceIte, Nat.reduceEqDiff, reduceCtorEq, ed_frz, List.nil_append, List.append_nil, q0, qc, q1, qm, qf, cle, h1, decide_true, ix, ld]
      refine (less_c hP _ _ _).mono ?_
      rintro X W' ⟨rfl, rfl⟩
      by_cases h2 : d1[a]! < d1[s]!
      · rw [if_neg (by simp [ltE, h2])] at qt
        simp (maxSteps := 2000000) (disch := omega) only [BS, BC, cond_if, guard_if, ↓reduceIte, Nat.reduceEqDiff, reduceCtorEq, cmp_lt, h2, decide_true, Bool.not_true, q0, qc, q1, qm, qf]
        exact ⟨trivial, trivial, trivial, trivial, by rw [← qt], trivial, trivial, by rw [← qt]; exact qi, by rw [← qt]; exact qin⟩
      · simp (maxSteps := 2000000) (disch := omega) only [BS, cond_if, guard_if, ↓reduceIte, Nat.reduceEqDiff, reduceCtorEq, cmp_lt, h2, decide_false, Bool.not_false, q0, qc, q1, qm, qf, wadd1]
        exact ⟨s + 1, ⟨trivial, trivial, trivial, rfl, trivial, trivial, by omega, by omega, by rw [← qt, if_pos (by simp [h1, ltE, h2])]⟩, by omega, Nat.le_refl _⟩
    · rw [if_neg (by simp [h1])] at qt
      simp (maxSteps := 2000000) (disch := omega) only [BS, BC, e_seq, cond_if, guard_if, ↓reduceIte, Nat.reduceEqDiff, reduceCtorEq, undef_t, q0, qc, q1, qm, qf, cle, h1, decide_false]
      exact ⟨trivial, trivial, trivial, trivial, by rw [← qt], trivial, trivial, by rw [← qt]; exact qi, by rw [← qt]; exact qin⟩
  rintro e A2 W2 ⟨rfl, u0, uc, u1, u9, u10, rfl, ui, uin⟩
  simp only [BS, e_seq, ↓reduceIte]
  obtain ⟨i2, hi2⟩ : ∃ i2, i2 = scanUp (fun x => !ltE d1[a]! x) d1 j i := ⟨_, rfl⟩
  rw [← hi2] at u9 ui uin gt
  refine awp_mono _ (Q := fun e A' W' => e = .exit 4 ∧ A' 0 = some (.slr r 0 n 3) ∧ A' 4 = some (.fn (.func 109) [] []) ∧ A' 1 = some (.int .i64 a) ∧ A' 12 = some (.int .i64 ((scanDown (fun x => ltE d1[a]! x) d1 i2 j : Nat) : Int)) ∧ A' 11 = some (.int .i64 (i2 : Nat)) ∧ W' = pv W r d1 ∧ scanDown (fun x => ltE d1[a]! x) d1 i2 j ≤ j) ?_ ?_
  rotate_left
  · rw [e_loop]
    refine ALoop.go (B := awp E _) (fun h => awp_mono _ h) (fun (s : Nat) A2 W2 => A2 0 = some (.slr r 0 n 3) ∧ A2 4 = some (.fn (.func 109) [] []) ∧ A2 1 = some (.int .i64 a) ∧ A2 12 = some (.int .i64 (s : Int)) ∧ A2 11 = some (.int .i64 (i2 : Nat)) ∧ W2 = pv W r d1 ∧ s ≤ j ∧ scanDown (fun x => ltE d1[a]! x) d1 i2 s = scanDown (fun x => ltE d1[a]! x) d1 i2 j) (fun s => s) j
      ⟨by assumption, by assumption, by assumption, by assumption, by assumption, rfl, Nat.le_refl _, rfl⟩ ?_
    rintro s A2 W2 ⟨q0, qc, q1, qm, qf, rfl, qi, qt⟩ _
    by_cases h1 : i2 ≤ s
    · obtain ⟨s, rfl⟩ : ∃ s', s = s' + 1 := ⟨s - 1, by omega⟩
      rw [scanDown] at qt
      simp (maxSteps := 2000000) (disch := omega) only [BS, BC, e_seq, guard_if, ↓reduceIte, Nat.reduceEqDiff, reduceCtorEq, ed_frz, List.nil_append, List.append_nil, q0, qc, q1, qm, qf, cle, h1, decide_true, ix, ld]
      refine (less_c hP _ _ _).mono ?_
      rintro X W' ⟨rfl, rfl⟩
      by_cases h2 : d1[a]! < d1[s + 1]!
      · simp (maxSteps := 2000000) (disch := omega) only [BS, cond_if, guard_if, ↓reduceIte, Nat.reduceEqDiff, reduceCtorEq, cmp_lt, h2, decide_true, q0, qc, q1, qm, qf, wsub1, Nat.add_sub_cancel]
        exact ⟨s, ⟨trivial, trivial, trivial, rfl, trivial, trivial, by omega, by rw [← qt, if_pos (by simp [h1, ltE, h2])]⟩, by omega, Nat.le_refl _⟩
      · rw [if_neg (by simp [ltE, h2])] at qt
        simp (maxSteps := 2000000) (disch := omega) only [BS, BC, cond_if, guard_if, ↓reduceIte, Nat.reduceEqDiff, reduceCtorEq, cmp_lt, h2, decide_false, q0, qc, q1, qm, qf]
        exact ⟨trivial, trivial, trivial, trivial, by rw [← qt], trivial, trivial, by rw [← qt]; exact qi⟩
    · replace qt : s = scanDown (fun x => ltE d1[a]! x) d1 i2 j := by
        rw [← qt]; cases s with
        | zero => rfl
        | succ s => rw [scanDown, if_neg (by simp [h1])]
      simp (maxSteps := 2000000) (disch := omega) only [BS, BC, e_seq, cond_if, guard_if, ↓reduceIte, Nat.reduceEqDiff, reduceCtorEq, undef_t, q0, qc, q1, qm, qf, cle, h1, decide_false]
      exact ⟨trivial, trivial, trivial, trivial, by rw [← qt], trivial, trivial, by rw [← qt]; exact qi⟩
  rintro e A2 W2 ⟨rfl, v0, vc, v1, v10, v9, rfl, vj⟩
  obtain ⟨j2, hj2⟩ : ∃ j2, j2 = scanDown (fun x => ltE d1[a]! x) d1 i2 j := ⟨_, rfl⟩
  rw [← hj2] at v10 vj gt
  by_cases h3 : i2 > j2
  · rw [if_pos h3] at gt
    simp (maxSteps := 2000000) (disch := omega) only [BS, BC, e_seq, cond_if, ↓reduceIte, Nat.reduceEqDiff, reduceCtorEq, v9, v10, cgt, h3, decide_true]
    exact ⟨_, rfl, _, _, .weak weak_id, Nat.le_refl _, by rw [← gt], by rw [← gt]⟩
  · rw [if_neg h3] at gt
    simp (disch := (try simp only [sz_set]) <;> omega) only [BS, BC, e_seq, cond_if, ↓reduceIte, Nat.reduceEqDiff, reduceCtorEq, undef_t, v0, vc, v1, v9, v10, cgt, h3, decide_false, ix, ld, st, sw, wadd1, wsub1]
    exact ⟨(i2 + 1, j2 - 1, swp d1 i2 j2), ⟨trivial, trivial, trivial, rfl, rfl, rfl, by simp; omega, by simp; omega, by simp; omega, by simp [swp, gs], gt⟩, by simp; omega, Nat.le_refl _⟩
end Go.AL.SE
set_option maxRecDepth 100000
set_option maxHeartbeats 2000000
namespace Go.AL.SE
open Go Go.AL Go.AL.S Go.Proofs Go.Sort
/- slices.partitionCmpFunc[umpire/graph.Edge] -/
def c_e89 : AC := (AC.seq (AC.reg [⟨some 10, .mov, [.c (.int .i64 0)], none⟩,⟨some 11, .mov, [.c (.bool false)], none⟩]) (AC.seq (AC.par (PT.step 0 ⟨some 14, .mov, [.t 0], none⟩ (PT.step 1 ⟨some 15, .mov, [.t 1], none⟩ (PT.step 2 ⟨some 16, .mov, [.t 0], none⟩ (PT.step 3 ⟨some 17, .mov, [.t 3], none⟩ (PT.step 4 ⟨some 18, .mov, [.t 0], none⟩ (PT.step 5 ⟨some 19, .mov, [.t 3], none⟩ (PT.step 8 ⟨some 22, .mov, [.t 0], none⟩ (PT.step 9 ⟨some 23, .mov, [.t 1], none⟩ (PT.step 6 ⟨some 20, .idxp 3, [.t 18, .t 19], none⟩ (PT.step 7 ⟨some 21, .load true 3, [.t 20], none⟩ (PT.step 10 ⟨some 24, .idxp 3, [.t 22, .t 23], none⟩ (PT.step 11 ⟨some 25, .load true 3, [.t 24], none⟩ (PT.step 12 ⟨some 26, .idxp 3, [.t 14, .t 15], none⟩ (PT.step 13 ⟨none, .store 3, [.t 26, .t 21], none⟩ (PT.step 14 ⟨some 27, .idxp 3, [.t 16, .t 17], none⟩ (PT.step 15 ⟨none, .store 3, [.t 27, .t 25], none⟩ PT.done))))))))))))))))) (AC.seq (AC.reg [⟨some 28, .mov, [.t 1], none⟩,⟨some 29, .bin .add, [.t 28, .c (.int .i64 1)], none⟩,⟨some 30, .mov, [.t 2], none⟩,⟨some 31, .bin .sub, [.t 30, .c (.int .i64 1)], none⟩,⟨some 12, .mov, [.t 29], none⟩,⟨some 13, .mov, [.t 31], none⟩]) (AC.seq (AC.block 0 (AC.loop (AC.seq (AC.seq (AC.par (PT.step 0 ⟨some 32, .mov, [.t 12], none⟩ (PT.step 1 ⟨some 33, .mov, [.t 13], none⟩ (PT.step 2 ⟨some 34, .bin .leq, [.t 32, .t 33], none⟩ (PT.step 3 ⟨some 35, .mov, [.t 34], none⟩ (PT.step 4 ⟨some 36, .mov, [.t 4], (some (35, true))⟩ (PT.step 5 ⟨some 37, .mov, [.t 0], (some (35, true))⟩ (PT.step 6 ⟨some 38, .mov, [.t 12], (some (35, true))⟩ (PT.step 9 ⟨some 41, .mov, [.t 0], (some (35, true))⟩ (PT.step 10 ⟨some 42, .mov, [.t 1], (some (35, true))⟩ (PT.step 7 ⟨some 39, .idxp 3, [.t 37, .t 38], (some (35, true))⟩ (PT.step 8 ⟨some 40, .load true 3, [.t 39], (some (35, true))⟩ (PT.step 11 ⟨some 43, .idxp 3, [.t 41, .t 42], (some (35, true))⟩ (PT.step 12 ⟨some 44, .load true 3, [.t 43], (some (35, true))⟩ (PT.step 13 ⟨some 45, .callv, [.t 36, .t 40, .t 44], (some (35, true))⟩ (PT.step 14 ⟨some 46, .bin .lss, [.t 45, .c (.int .i64 0)], (some (35, true))⟩ (PT.step 15 ⟨some 47, .pick, [.t 35, .t 46, .c (.bool false)], none⟩ PT.done))))))))))))))))) (AC.cond (.t 47) AC.skip (AC.exit 0))) (AC.block 1 (AC.reg [⟨some 48, .mov, [.t 12], none⟩,⟨some 49, .bin .add, [.t 48, .c (.int .i64 1)], none⟩,⟨some 12, .mov, [.t 49], none⟩]))))) (AC.seq (AC.block 2 (AC.loop (AC.seq (AC.seq (AC.par (PT.step 0 ⟨some 50, .mov, [.t 12], none⟩ (PT.step 1 ⟨some 51, .mov, [.t 13], none⟩ (PT.step 2 ⟨some 52, .bin .leq, [.t 50, .t 51], none⟩ (PT.step 3 ⟨some 53, .mov, [.t 52], none⟩ (PT.step 4 ⟨some 54, .mov, [.t 4], (some (53, true))⟩ (PT.step 5 ⟨some 55, .mov, [.t 0], (some (53, true))⟩ (PT.step 6 ⟨some 56, .mov, [.t 13], (some (53, true))⟩ (PT.step 9 ⟨some 59, .mov, [.t 0], (some (53, true))⟩ (PT.step 10 ⟨some 60, .mov, [.t 1], (some (53, true))⟩ (PT.step 7 ⟨some 57, .idxp 3, [.t 55, .t 56], (some (53, true))⟩ (PT.step 8 ⟨some 58, .load true 3, [.t 57], (some (53, true))⟩ (PT.step 11 ⟨some 61, .idxp 3, [.t 59, .t 60], (some (53, true))⟩ (PT.step 12 ⟨some 62, .load true 3, [.t 61], (some (53, true))⟩ (PT.step 13 ⟨some 63, .callv, [.t 54, .t 58, .t 62], (some (53, true))⟩ (PT.step 14 ⟨some 64, .bin .lss, [.t 63, .c (.int .i64 0)], (some (53, true))⟩ (PT.step 15 ⟨some 65, .un .not, [.t 64], (some (53, true))⟩ (PT.step 16 ⟨some 66, .pick, [.t 53, .t 65, .c (.bool false)], none⟩ PT.done)))))))))))))))))) (AC.cond (.t 66) AC.skip (AC.exit 2))) (AC.block 3 (AC.reg [⟨some 67, .mov, [.t 13], none⟩,⟨some 68, .bin .sub, [.t 67, .c (.int .i64 1)], none⟩,⟨some 13, .mov, [.t 68], none⟩]))))) (AC.seq (AC.seq (AC.reg [⟨some 69, .mov, [.t 12], none⟩,⟨some 70, .mov, [.t 13], none⟩,⟨some 71, .bin .gtr, [.t 69, .t 70], none⟩]) (AC.cond (.t 71) (AC.seq (AC.par (PT.step 0 ⟨some 72, .mov, [.t 0], none⟩ (PT.step 1 ⟨some 73, .mov, [.t 13], none⟩ (PT.step 2 ⟨some 74, .mov, [.t 0], none⟩ (PT.step 3 ⟨some 75, .mov, [.t 1], none⟩ (PT.step 4 ⟨some 76, .mov, [.t 0], none⟩ (PT.step 5 ⟨some 77, .mov, [.t 1], none⟩ (PT.step 8 ⟨some 80, .mov, [.t 0], none⟩ (PT.step 9 ⟨some 81, .mov, [.t 13], none⟩ (PT.step 6 ⟨some 78, .idxp 3, [.t 76, .t 77], none⟩ (PT.step 7 ⟨some 79, .load true 3, [.t 78], none⟩ (PT.step 10 ⟨some 82, .idxp 3, [.t 80, .t 81], none⟩ (PT.step 11 ⟨some 83, .load true 3, [.t 82], none⟩ (PT.step 12 ⟨some 84, .idxp 3, [.t 72, .t 73], none⟩ (PT.step 13 ⟨none, .store 3, [.t 84, .t 79], none⟩ (PT.step 14 ⟨some 85, .idxp 3, [.t 74, .t 75], none⟩ (PT.step 15 ⟨none, .store 3, [.t 85, .t 83], none⟩ PT.done))))))))))))))))) (AC.seq (AC.reg [⟨some 86, .mov, [.t 13], none⟩,⟨some 10, .mov, [.t 86], none⟩,⟨some 11, .mov, [.c (.bool true)], none⟩]) AC.ret)) AC.skip)) (AC.seq (AC.par (PT.step 0 ⟨some 87, .mov, [.t 0], none⟩ (PT.step 1 ⟨some 88, .mov, [.t 12], none⟩ (PT.step 2 ⟨some 89, .mov, [.t 0], none⟩ (PT.step 3 ⟨some 90, .mov, [.t 13], none⟩ (PT.step 4 ⟨some 91, .mov, [.t 0], none⟩ (PT.step 5 ⟨some 92, .mov, [.t 13], none⟩ (PT.step 8 ⟨some 95, .mov, [.t 0], none⟩ (PT.step 9 ⟨some 96, .mov, [.t 12], none⟩ (PT.step 6 ⟨some 93, .idxp 3, [.t 91, .t 92], none⟩ (PT.step 7 ⟨some 94, .load true 3, [.t 93], none⟩ (PT.step 10 ⟨some 97, .idxp 3, [.t 95, .t 96], none⟩ (PT.step 11 ⟨some 98, .load true 3, [.t 97], none⟩ (PT.step 12 ⟨some 99, .idxp 3, [.t 87, .t 88], none⟩ (PT.step 13 ⟨none, .store 3, [.t 99, .t 94], none⟩ (PT.step 14 ⟨some 100, .idxp 3, [.t 89, .t 90], none⟩ (PT.step 15 ⟨none, .store 3, [.t 100, .t 98], none⟩ PT.done))))))))))))))))) (AC.seq (AC.reg [⟨some 101, .mov, [.t 12], none⟩,⟨some 102, .bin .add, [.t 101, .c (.int .i64 1)], none⟩,⟨some 12, .mov, [.t 102], none⟩]) (AC.seq (AC.reg [⟨some 103, .mov, [.t 13], none⟩,⟨some 104, .bin .sub, [.t 103, .c (.int .i64 1)], none⟩,⟨some 13, .mov, [.t 104], none⟩]) (AC.seq (AC.block 4 (AC.loop (AC.block 5 (AC.seq (AC.block 6 (AC.loop (AC.seq (AC.seq (AC.par (PT.step 0 ⟨some 105, .mov, [.t 12], none⟩ (PT.step 1 ⟨some 106, .mov, [.t 13], none⟩ (PT.step 2 ⟨some 107, .bin .leq, [.t 105, .t 106], none⟩ (PT.step 3 ⟨some 108, .mov, [.t 107], none⟩ (PT.step 4 ⟨some 109, .mov, [.t 4], (some (108, true))⟩ (PT.step 5 ⟨some 110, .mov, [.t 0], (some (108, true))⟩ (PT.step 6 ⟨some 111, .mov, [.t 12], (some (108, true))⟩ (PT.step 9 ⟨some 114, .mov, [.t 0], (some (108, true))⟩ (PT.step 10 ⟨some 115, .mov, [.t 1], (some (108, true))⟩ (PT.step 7 ⟨some 112, .idxp 3, [.t 110, .t 111], (some (108, true))⟩ (PT.step 8 ⟨some 113, .load true 3, [.t 112], (some (108, true))⟩ (PT.step 11 ⟨some 116, .idxp 3, [.t 114, .t 115], (some (108, true))⟩ (PT.step 12 ⟨some 117, .load true 3, [.t 116], (some (108, true))⟩ (PT.step 13 ⟨some 118, .callv, [.t 109, .t 113, .t 117], (some (108, true))⟩ (PT.step 14 ⟨some 119, .bin .lss, [.t 118, .c (.int .i64 0)], (some (108, true))⟩ (PT.step 15 ⟨some 120, .pick, [.t 108, .t 119, .c (.bool false)], none⟩ PT.done))))))))))))))))) (AC.cond (.t 120) AC.skip (AC.exit 6))) (AC.block 7 (AC.reg [⟨some 121, .mov, [.t 12], none⟩,⟨some 122, .bin .add, [.t 121, .c (.int .i64 1)], none⟩,⟨some 12, .mov, [.t 122], none⟩]))))) (AC.seq (AC.block 8 (AC.loop (AC.seq (AC.seq (AC.par (PT.step 0 ⟨some 123, .mov, [.t 12], none⟩ (PT.step 1 ⟨some 124, .mov, [.t 13], none⟩ (PT.step 2 ⟨some 125, .bin .leq, [.t 123, .t 124], none⟩ (PT.step 3 ⟨some 126, .mov, [.t 125], none⟩ (PT.step 4 ⟨some 127, .mov, [.t 4], (some (126, true))⟩ (PT.step 5 ⟨some 128, .mov, [.t 0], (some (126, true))⟩ (PT.step 6 ⟨some 129, .mov, [.t 13], (some (126, true))⟩ (PT.step 9 ⟨some 132, .mov, [.t 0], (some (126, true))⟩ (PT.step 10 ⟨some 133, .mov, [.t 1], (some (126, true))⟩ (PT.step 7 ⟨some 130, .idxp 3, [.t 128, .t 129], (some (126, true))⟩ (PT.step 8 ⟨some 131, .load true 3, [.t 130], (some (126, true))⟩ (PT.step 11 ⟨some 134, .idxp 3, [.t 132, .t 133], (some (126, true))⟩ (PT.step 12 ⟨some 135, .load true 3, [.t 134], (some (126, true))⟩ (PT.step 13 ⟨some 136, .callv, [.t 127, .t 131, .t 135], (some (126, true))⟩ (PT.step 14 ⟨some 137, .bin .lss, [.t 136, .c (.int .i64 0)], (some (126, true))⟩ (PT.step 15 ⟨some 138, .un .not, [.t 137], (some (126, true))⟩ (PT.step 16 ⟨some 139, .pick, [.t 126, .t 138, .c (.bool false)], none⟩ PT.done)))))))))))))))))) (AC.cond (.t 139) AC.skip (AC.exit 8))) (AC.block 9 (AC.reg [⟨some 140, .mov, [.t 13], none⟩,⟨some 141, .bin .sub, [.t 140, .c (.int .i64 1)], none⟩,⟨some 13, .mov, [.t 141], none⟩]))))) (AC.seq (AC.seq (AC.reg [⟨some 142, .mov, [.t 12], none⟩,⟨some 143, .mov, [.t 13], none⟩,⟨some 144, .bin .gtr, [.t 142, .t 143], none⟩]) (AC.cond (.t 144) (AC.exit 4) AC.skip)) (AC.seq (AC.par (PT.step 0 ⟨some 145, .mov, [.t 0], none⟩ (PT.step 1 ⟨some 146, .mov, [.t 12], none⟩ (PT.step 2 ⟨some 147, .mov, [.t 0], none⟩ (PT.step 3 ⟨some 148, .mov, [.t 13], none⟩ (PT.step 4 ⟨some 149, .mov, [.t 0], none⟩ (PT.step 5 ⟨some 150, .mov, [.t 13], none⟩ (PT.step 8 ⟨some 153, .mov, [.t 0], none⟩ (PT.step 9 ⟨some 154, .mov, [.t 12], none⟩ (PT.step 6 ⟨some 151, .idxp 3, [.t 149, .t 150], none⟩ (PT.step 7 ⟨some 152, .load true 3, [.t 151], none⟩ (PT.step 10 ⟨some 155, .idxp 3, [.t 153, .t 154], none⟩ (PT.step 11 ⟨some 156, .load true 3, [.t 155], none⟩ (PT.step 12 ⟨some 157, .idxp 3, [.t 145, .t 146], none⟩ (PT.step 13 ⟨none, .store 3, [.t 157, .t 152], none⟩ (PT.step 14 ⟨some 158, .idxp 3, [.t 147, .t 148], none⟩ (PT.step 15 ⟨none, .store 3, [.t 158, .t 156], none⟩ PT.done))))))))))))))))) (AC.seq (AC.reg [⟨some 159, .mov, [.t 12], none⟩,⟨some 160, .bin .add, [.t 159, .c (.int .i64 1)], none⟩,⟨some 12, .mov, [.t 160], none⟩]) (AC.reg [⟨some 161, .mov, [.t 13], none⟩,⟨some 162, .bin .sub, [.t 161, .c (.int .i64 1)], none⟩,⟨some 13, .mov, [.t 162], none⟩]))))))))) (AC.seq (AC.par (PT.step 0 ⟨some 163, .mov, [.t 0], none⟩ (PT.step 1 ⟨some 164, .mov, [.t 13], none⟩ (PT.step 2 ⟨some 165, .mov, [.t 0], none⟩ (PT.step 3 ⟨some 166, .mov, [.t 1], none⟩ (PT.step 4 ⟨some 167, .mov, [.t 0], none⟩ (PT.step 5 ⟨some 168, .mov, [.t 1], none⟩ (PT.step 8 ⟨some 171, .mov, [.t 0], none⟩ (PT.step 9 ⟨some 172, .mov, [.t 13], none⟩ (PT.step 6 ⟨some 169, .idxp 3, [.t 167, .t 168], none⟩ (PT.step 7 ⟨some 170, .load true 3, [.t 169], none⟩ (PT.step 10 ⟨some 173, .idxp 3, [.t 171, .t 172], none⟩ (PT.step 11 ⟨some 174, .load true 3, [.t 173], none⟩ (PT.step 12 ⟨some 175, .idxp 3, [.t 163, .t 164], none⟩ (PT.step 13 ⟨none, .store 3, [.t 175, .t 170], none⟩ (PT.step 14 ⟨some 176, .idxp 3, [.t 165, .t 166], none⟩ (PT.step 15 ⟨none, .store 3, [.t 176, .t 174], none⟩ PT.done))))))))))))))))) (AC.seq (AC.reg [⟨some 177, .mov, [.t 13], none⟩,⟨some 10, .mov, [.t 177], none⟩,⟨some 11, .mov, [.c (.bool false)], none⟩]) AC.ret))))))))))))
def r_e89 : AC × List RT × Nat := (c_e89, [.tmp 10, .tmp 11], 178)
theorem ok_e89e : compF Tryz.prog Tryz.f199 ⟨true, false, []⟩ = some r_e89 := by kernel_rfl
variable {E : Env}
theorem partition_c (hP : E.P = Tryz.prog) (W : AW) (r n a b pivot : Nat) (d : Array Ed) (hn : d.size = n) (hab : a < b) (hb : b ≤ n) (hpv : pivot < n) (hsm : n < 2 ^ 48) :
    ACalls E 199 [.slr r 0 n 3, .int .i64 a, .int .i64 b, .int .i64 pivot, (.fn (.func 109) [] [])] (pv W r d) fun X W' => X = .tuple [.int .i64 (partition ltE d a b pivot).1, .bool (partition ltE d a b pivot).2.1] ∧ W' = pv W r (partition ltE d a b pivot).2.2 := by
  refine ACalls.of hP Tryz.func199 ok_e89e (by simp) fun _ hok => ?_
  have gt : partition ltE d a b pivot = (let d := swp d a pivot
    let i := scanUp (fun x => ltE x d[a]!) d (b - 1) (a + 1)
    let j := scanDown (fun x => !ltE x d[a]!) d i (b - 1)
    if i > j then (j, true, swp d j a) else
      let r := partLoop ltE a (i + 1) (j - 1) (swp d i j)
      (r.1, false, swp r.2 r.1 a)) := rfl
  obtain ⟨d0, hd0⟩ : ∃ d0, d0 = swp d a pivot := ⟨_, rfl⟩
  have gs : d0.size = n := by rw [hd0]; simp [swp, hn]
  obtain ⟨i0, hi0⟩ : ∃ i0, i0 = a + 1 := ⟨_, rfl⟩
  obtain ⟨j0, hj0⟩ : ∃ j0, j0 = b - 1 := ⟨_, rfl⟩
  simp only [← hd0, ← hi0, ← hj0] at gt
  simp (disch := (try simp only [sz_set]) <;> omega) only [c_e89, BS, BC, e_seq, ↓reduceIte, Nat.reduceEqDiff, reduceCtorEq, undef_t, ix, ld, st, sw, wadd1, wsub1, ← hd0, ← hi0, ← hj0]
  refine awp_mono _ (Q := fun e A' W' => e = .exit 0 ∧ A' 0 = some (.slr r 0 n 3) ∧ A' 4 = some (.fn (.func 109) [] []) ∧ A' 1 = some (.int .i64 a) ∧ A' 12 = some (.int .i64 ((scanUp (fun x => ltE x d0[a]!) d0 j0 i0 : Nat) : Int)) ∧ A' 13 = some (.int .i64 (j0 : Nat)) ∧ W' = pv W r d0 ∧ i0 ≤ scanUp (fun x => ltE x d0[a]!) d0 j0 i0 ∧ scanUp (fun x => ltE x d0[a]!) d0 j0 i0 ≤ n) ?_ ?_
  rotate_left
  · rw [e_loop]
    refine ALoop.go (B := awp E _) (fun h => awp_mono _ h) (fun (s : Nat) A2 W2 => A2 0 = some (.slr r 0 n 3) ∧ A2 4 = some (.fn (.func 109) [] []) ∧ A2 1 = some (.int .i64 a) ∧ A2 12 = some (.int .i64 (s : Int)) ∧ A2 13 = some (.int .i64 (j0 : Nat)) ∧ W2 = pv W r d0 ∧ i0 ≤ s ∧ s ≤ n ∧ scanUp (fun x => ltE x d0[a]!) d0 j0 s = scanUp (fun x => ltE x d0[a]!) d0 j0 i0) (fun s => j0 + 1 - s) i0
      ⟨by rfl, by rfl, by rfl, by rfl, by rfl, rfl, Nat.le_refl _, by omega, rfl⟩ ?_
    rintro s A2 W2 ⟨q0, qc, q1, qm, qf, rfl, qi, qin, qt⟩ _
    rw [scanUp.eq_def (fun x => ltE x d0[a]!) d0 j0 s] at qt
    by_cases h1 : s ≤ j0
    · simp (maxSteps := 2000000) (disch := omega) only [BS, BC, e_seq, guard_if, ↓reduceIte, Nat.reduceEqDiff, reduceCtorEq, ed_frz, List.nil_append, List.append_nil, q0, qc, q1, qm, qf, cle, h1, decide_true, ix, ld]
      refine (less_c hP _ _ _).mono ?_
      rintro X W' ⟨rfl, rfl⟩
      by_cases h2 : d0[s]! < d0[a]!
      · simp (maxSteps := 2000000) (disch := omega) only [BS, cond_if, guard_if, ↓reduceIte, Nat.reduceEqDiff, reduceCtorEq, cmp_lt, h2, decide_true, q0, qc, q1, qm, qf, wadd1]
        exact ⟨s + 1, ⟨trivial, trivial, trivial, rfl, trivial, trivial, by omega, by omega, by rw [← qt, if_pos (by simp [h1, ltE, h2])]⟩, by omega, Nat.le_refl _⟩
      · rw [if_neg (by simp [ltE, h2])] at qt
        simp (maxSteps := 2000000) (disch := omega) only [BS, BC, cond_if, guard_if, ↓reduceIte, Nat.reduceEqDiff, reduceCtorEq, cmp_lt, h2, decide_false, q0, qc, q1, qm, qf]
        exact ⟨trivial, trivial, trivial, trivial, by rw [← qt], trivial, trivial, by rw [← qt]; exact qi, by rw [← qt]; exact qin⟩
    · rw [if_neg (by simp [h1])] at qt
      simp (maxSteps := 2000000) (disch := omega) only [BS, BC, e_seq, cond_if, guard_if, ↓reduceIte, Nat.reduceEqDiff, reduceCtorEq, undef_t, q0, qc, q1, qm, qf, cle, h1, decide_false]
      exact ⟨trivial, trivial, trivial, trivial, by rw [← qt], trivial, trivial, by rw [← qt]; exact qi, by rw [← qt]; exact qin⟩
  rintro e A2 W2 ⟨rfl, u0, uc, u1, u10, u11, rfl, ui, un⟩
  simp only [BS, e_seq, ↓reduceIte]
  obtain ⟨i02, hi2⟩ : ∃ i02, i02 = scanUp (fun x => ltE x d0[a]!) d0 j0 i0 := ⟨_, rfl⟩
  rw [← hi2] at u10 ui un gt
  refine awp_mono _ (Q := fun e A' W' => e = .exit 2 ∧ A' 0 = some (.slr r 0 n 3) ∧ A' 4 = some (.fn (.func 109) [] []) ∧ A' 1 = some (.int .i64 a) ∧ A' 13 = some (.int .i64 ((scanDown (fun x => !ltE x d0[a]!) d0 i02 j0 : Nat) : Int)) ∧ A' 12 = some (.int .i64 (i02 : Nat)) ∧ W' = pv W r d0 ∧ scanDown (fun x => !ltE x d0[a]!) d0 i02 j0 ≤ j0) ?_ ?_
  rotate_left
  · rw [e_loop]
    refine ALoop.go (B := awp E _) (fun h => awp_mono _ h) (fun (s : Nat) A2 W2 => A2 0 = some (.slr r 0 n 3) ∧ A2 4 = some (.fn (.func 109) [] []) ∧ A2 1 = some (.int .i64 a) ∧ A2 13 = some (.int .i64 (s : Int)) ∧ A2 12 = some (.int .i64 (i02 : Nat)) ∧ W2 = pv W r d0 ∧ s ≤ j0 ∧ scanDown (fun x => !ltE x d0[a]!) d0 i02 s = scanDown (fun x => !ltE x d0[a]!) d0 i02 j0) (fun s => s) j0
      ⟨by assumption, by assumption, by assumption, by assumption, by assumption, rfl, Nat.le_refl _, rfl⟩ ?_
    rintro s A2 W2 ⟨q0, qc, q1, qm, qf, rfl, qi, qt⟩ _
    by_cases h1 : i02 ≤ s
    · obtain ⟨s, rfl⟩ : ∃ s', s = s' + 1 := ⟨s - 1, by omega⟩
      rw [scanDown] at qt
      simp (maxSteps := 2000000) (disch := omega) only [BS, BC, e_seq, guard_if, ↓reduceIte, Nat.reduceEqDiff, reduceCtorEq, ed_frz, List.nil_append, List.append_nil, q0, qc, q1, qm, qf, cle, h1, decide_true, ix, ld]
      refine (less_c hP _ _ _).mono ?_
      rintro X W' ⟨rfl, rfl⟩
      by_cases h2 : d0[s + 1]! < d0[a]!
      · rw [if_neg (by simp [ltE, h2])] at qt
        simp (maxSteps := 2000000) (disch := omega) only [BS, BC, cond_if, guard_if, ↓reduceIte, Nat.reduceEqDiff, reduceCtorEq, cmp_lt, h2, decide_true, Bool.not_true, q0, qc, q1, qm, qf]
        exact ⟨trivial, trivial, trivial, trivial, by rw [← qt], trivial, trivial, by rw [← qt]; exact qi⟩
      · simp (maxSteps := 2000000) (disch := omega) only [BS, cond_if, guard_if, ↓reduceIte, Nat.reduceEqDiff, reduceCtorEq, cmp_lt, h2, decide_false, Bool.not_false, q0, qc, q1, qm, qf, wsub1, Nat.add_sub_cancel]
        exact ⟨s, ⟨trivial, trivial, trivial, rfl, trivial, trivial, by omega, by rw [← qt, if_pos (by simp [h1, ltE, h2])]⟩, by omega, Nat.le_refl _⟩
    · replace qt : s = scanDown (fun x => !ltE x d0[a]!) d0 i02 j0 := by
        rw [← qt]; cases s with
        | zero => rfl
        | succ s => rw [scanDown, if_neg (by simp [h1])]
      simp (maxSteps := 2000000) (disch := omega) only [BS, BC, e_seq, cond_if, guard_if, ↓reduceIte, Nat.reduceEqDiff, reduceCtorEq, undef_t, q0, qc, q1, qm, qf, cle, h1, decide_false]
      exact ⟨trivial, trivial, trivial, trivial, by rw [← qt], trivial, trivial, by rw [← qt]; exact qi⟩
  rintro e A2 W2 ⟨rfl, v0, vc, v1, v11, v10, rfl, vj⟩
  obtain ⟨j2, hj2⟩ : ∃ j2, j2 = scanDown (fun x => !ltE x d0[a]!) d0 i02 j0 := ⟨_, rfl⟩
  rw [← hj2] at v11 vj gt
  by_cases h3 : i02 > j2
  · rw [if_pos h3] at gt
    simp (disch := (try simp only [sz_set]) <;> omega) only [BS, e_seq, cond_if, ↓reduceIte, Nat.reduceEqDiff, reduceCtorEq, undef_t, v0, v1, v10, v11, cgt, h3, decide_true, ix, ld, st, sw]
    exact ⟨_, rfl, _, _, .weak weak_id, Nat.le_refl _, by rw [gt], by rw [gt]⟩
  · rw [if_neg h3] at gt
    simp (disch := (try simp only [sz_set]) <;> omega) only [BS, BC, e_seq, cond_if, ↓reduceIte, Nat.reduceEqDiff, reduceCtorEq, undef_t, v0, v10, v11, cgt, h3, decide_false, ix, ld, st, sw, wadd1, wsub1]
    rw [e_loop]
    refine ALoop.go (B := awp E _) (fun h => awp_mono _ h) (fun (s : Nat × Nat × Array Ed) A1 W1 => A1 0 = some (.slr r 0 n 3) ∧ A1 4 = some (.fn (.func 109) [] []) ∧ A1 1 = some (.int .i64 a) ∧ A1 12 = some (.int .i64 s.1) ∧ A1 13 = some (.int .i64 s.2.1) ∧
      W1 = pv W r s.2.2 ∧ a < s.1 ∧ s.1 ≤ n ∧ s.2.1 < n ∧ s.2.2.size = n ∧ partLoop ltE a s.1 s.2.1 s.2.2 = partLoop ltE a (i02 + 1) (j2 - 1) (swp d0 i02 j2)) (fun s => s.2.1 + 1 - s.1) (i02 + 1, j2 - 1, swp d0 i02 j2)
      ⟨by simp only [BS, ↓reduceIte, reduceCtorEq, v0], by simp only [BS, ↓reduceIte, Nat.reduceEqDiff, vc], by simp only [BS, ↓reduceIte, Nat.reduceEqDiff, v1], rfl, rfl, rfl, by simp; omega, by simp; omega, by simp; omega, by simp [swp, gs], rfl⟩ ?_
    rintro ⟨i, j, d1⟩ A1 W1 ⟨g0, gc, g1, g10, g11, rfl, gi, gin, gj, gs1, gt1⟩ _
    simp only at g10 g11 gi gin gj gs1 gt1
    rw [partLoop_eq] at gt1
    simp only [BS, e_seq]
    refine awp_mono _ (Q := fun e A' W' => e = .exit 6 ∧ A' 0 = some (.slr r 0 n 3) ∧ A' 4 = some (.fn (.func 109) [] []) ∧ A' 1 = some (.int .i64 a) ∧ A' 12 = some (.int .i64 ((scanUp (fun x => ltE x d1[a]!) d1 j i : Nat) : Int)) ∧ A' 13 = some (.int .i64 (j : Nat)) ∧ W' = pv W r d1 ∧ i ≤ scanUp (fun x => ltE x d1[a]!) d1 j i ∧ scanUp (fun x => ltE x d1[a]!) d1 j i ≤ n) ?_ ?_
    rotate_left
    · rw [e_loop]
      refine ALoop.go (B := awp E _) (fun h => awp_mono _ h) (fun (s : Nat) A2 W2 => A2 0 = some (.slr r 0 n 3) ∧ A2 4 = some (.fn (.func 109) [] []) ∧ A2 1 = some (.int .i64 a) ∧ A2 12 = some (.int .i64 (s : Int)) ∧ A2 13 = some (.int .i64 (j : Nat)) ∧ W2 = pv W r d1 ∧ i ≤ s ∧ s ≤ n ∧ scanUp (fun x => ltE x d1[a]!) d1 j s = scanUp (fun x => ltE x d1[a]!) d1 j i) (fun s => j + 1 - s) i
        ⟨by assumption, by assumption, by assumption, by assumption, by assumption, rfl, Nat.le_refl _, by omega, rfl⟩ ?_
      rintro s A2 W2 ⟨q0, qc, q1, qm, qf, rfl, qi, qin, qt⟩ _
      rw [scanUp.eq_def (fun x => ltE x d1[a]!) d1 j s] at qt
      by_cases h1 : s ≤ j
      · simp (maxSteps := 2000000) (disch := omega) only [BS, BC, e_seq, guard_if, ↓reduceIte, Nat.reduceEqDiff, reduceCtorEq, ed_frz, List.nil_append, List.append_nil, q0, qc, q1, qm, qf, cle, h1, decide_true, ix, ld]
        refine (less_c hP _ _ _).mono ?_
        rintro X W' ⟨rfl, rfl⟩
        by_cases h2 : d1[s]! < d1[a]!
        · simp (maxSteps := 2000000) (disch := omega) only [BS, cond_if, guard_if, ↓reduceIte, Nat.reduceEqDiff, reduceCtorEq, cmp_lt, h2, decide_true, q0, qc, q1, qm, qf, wadd1]
          exact ⟨s + 1, ⟨trivial, trivial, trivial, rfl, trivial, trivial, by omega, by omega, by rw [← qt, if_pos (by simp [h1, ltE, h2])]⟩, by omega, Nat.le_refl _⟩
        · rw [if_neg (by simp [ltE, h2])] at qt
          simp (maxSteps := 2000000) (disch := omega) only [BS, BC, cond_if, guard_if, ↓reduceIte, Nat.reduceEqDiff, reduceCtorEq, cmp_lt, h2, decide_false, q0, qc, q1, qm, qf]
          exact ⟨trivial, trivial, trivial, trivial, by rw [← qt], trivial, trivial, by rw [← qt]; exact qi, by rw [← qt]; exact qin⟩
      · rw [if_neg (by simp [h1])] at qt
        simp (maxSteps := 2000000) (disch := omega) only [BS, BC, e_seq, cond_if, guard_if, ↓reduceIte, Nat.reduceEqDiff, reduceCtorEq, undef_t, q0, qc, q1, qm, qf, cle, h1, decide_false]
        exact ⟨trivial, trivial, trivial, trivial, by rw [← qt], trivial, trivial, by rw [← qt]; exact qi, by rw [← qt]; exact qin⟩
    rintro e A2 W2 ⟨rfl, x0, xc, x1, x10, x11, rfl, xi, xn⟩
    simp only [BS, e_seq, ↓reduceIte]
    obtain ⟨i2, hi2⟩ : ∃ i2, i2 = scanUp (fun x => ltE x d1[a]!) d1 j i := ⟨_, rfl⟩
    rw [← hi2] at x10 xi xn gt1
    refine awp_mono _ (Q := fun e A' W' => e = .exit 8 ∧ A' 0 = some (.slr r 0 n 3) ∧ A' 4 = some (.fn (.func 109) [] []) ∧ A' 1 = some (.int .i64 a) ∧ A' 13 = some (.int .i64 ((scanDown (fun x => !ltE x d1[a]!) d1 i2 j : Nat) : Int)) ∧ A' 12 = some (.int .i64 (i2 : Nat)) ∧ W' = pv W r d1 ∧ scanDown (fun x => !ltE x d1[a]!) d1 i2 j ≤ j) ?_ ?_
    rotate_left
    · rw [e_loop]
      refine ALoop.go (B := awp E _) (fun h => awp_mono _ h) (fun (s : Nat) A2 W2 => A2 0 = some (.slr r 0 n 3) ∧ A2 4 = some (.fn (.func 109) [] []) ∧ A2 1 = some (.int .i64 a) ∧ A2 13 = some (.int .i64 (s : Int)) ∧ A2 12 = some (.int .i64 (i2 : Nat)) ∧ W2 = pv W r d1 ∧ s ≤ j ∧ scanDown (fun x => !ltE x d1[a]!) d1 i2 s = scanDown (fun x => !ltE x d1[a]!) d1 i2 j) (fun s => s) j
        ⟨by assumption, by assumption, by assumption, by assumption, by assumption, rfl, Nat.le_refl _, rfl⟩ ?_
      rintro s A2 W2 ⟨q0, qc, q1, qm, qf, rfl, qi, qt⟩ _
      by_cases h1 : i2 ≤ s
      · obtain ⟨s, rfl⟩ : ∃ s', s = s' + 1 := ⟨s - 1, by omega⟩
        rw [scanDown] at qt
        simp (maxSteps := 2000000) (disch := omega) only [BS, BC, e_seq, guard_if, ↓reduceIte, Nat.reduceEqDiff, reduceCtorEq, ed_frz, List.nil_append, List.append_nil, q0, qc, q1, qm, qf, cle, h1, decide_true, ix, ld]
        refine (less_c hP _ _ _).mono ?_
        rintro X W' ⟨rfl, rfl⟩
        by_cases h2 : d1[s + 1]! < d1[a]!
        · rw [if_neg (by simp [ltE, h2])] at qt
          simp (maxSteps := 2000000) (disch := omega) only [BS, BC, cond_if, guard_if, ↓reduceIte, Nat.reduceEqDiff, reduceCtorEq, cmp_lt, h2, decide_true, Bool.not_true, q0, qc, q1, qm, qf]
          exact ⟨trivial, trivial, trivial, trivial, by rw [← qt], trivial, trivial, by rw [← qt]; exact qi⟩
        · simp (maxSteps := 2000000) (disch := omega) only [BS, cond_if, guard_if, ↓reduceIte, Nat.reduceEqDiff, reduceCtorEq, cmp_lt, h2, decide_false, Bool.not_false, q0, qc, q1, qm, qf, wsub1, Nat.add_sub_cancel]
          exact ⟨s, ⟨trivial, trivial, trivial, rfl, trivial, trivial, by omega, by rw [← qt, if_pos (by simp [h1, ltE, h2])]⟩, by omega, Nat.le_refl _⟩
      · replace qt : s = scanDown (fun x => !ltE x d1[a]!) d1 i2 j := by
          rw [← qt]; cases s with
          | zero => rfl
          | succ s => rw [scanDown, if_neg (by simp [h1])]
        simp (maxSteps := 2000000) (disch := omega) only [BS, BC, e_seq, cond_if, guard_if, ↓reduceIte, Nat.reduceEqDiff, reduceCtorEq, undef_t, q0, qc, q1, qm, qf, cle, h1, decide_false]
        exact ⟨trivial, trivial, trivial, trivial, by rw [← qt], trivial, trivial, by rw [← qt]; exact qi⟩
    rintro e A2 W2 ⟨rfl, y0, yc, y1, y11, y10, rfl, yj⟩
    obtain ⟨j3, hj3⟩ : ∃ j3, j3 = scanDown (fun x => !ltE x d1[a]!) d1 i2 j := ⟨_, rfl⟩
    rw [← hj3] at y11 yj gt1
    by_cases h3 : i2 > j3
    · rw [if_pos h3] at gt1
      rw [← gt1] at gt
      simp (disch := (try simp only [sz_set]) <;> omega) only [BS, e_seq, cond_if, ↓reduceIte, Nat.reduceEqDiff, reduceCtorEq, undef_t, y0, y1, y10, y11, cgt, h3, decide_true, ix, ld, st, sw]
      exact ⟨_, rfl, _, _, .weak weak_id, Nat.le_refl _, by rw [gt], by rw [gt]⟩
    · rw [if_neg h3] at gt1
      simp (disch := (try simp only [sz_set]) <;> omega) only [BS, BC, e_seq, cond_if, ↓reduceIte, Nat.reduceEqDiff, reduceCtorEq, undef_t, y0, yc, y1, y10, y11, cgt, h3, decide_false, ix, ld, st, sw, wadd1, wsub1]
      exact ⟨(i2 + 1, j3 - 1, swp d1 i2 j3), ⟨trivial, trivial, trivial, rfl, rfl, rfl, by simp; omega, by simp; omega, by simp; omega, by simp [swp, gs1], gt1⟩, by simp; omega, Nat.le_refl _⟩
end Go.AL.SE
set_option maxRecDepth 100000
set_option maxHeartbeats 2000000
namespace Go.AL.SE
open Go Go.AL Go.AL.S Go.Proofs Go.Sort
/- slices.insertionSortCmpFunc[umpire/graph.Edge] -/
def c_e81 : AC := (AC.seq (AC.reg [⟨some 10, .mov, [.t 1], none⟩,⟨some 11, .bin .add, [.t 10, .c (.int .i64 1)], none⟩,⟨some 8, .mov, [.t 11], none⟩]) (AC.block 0 (AC.loop (AC.seq (AC.seq (AC.reg [⟨some 12, .mov, [.t 8], none⟩,⟨some 13, .mov, [.t 2], none⟩,⟨some 14, .bin .lss, [.t 12, .t 13], none⟩]) (AC.cond (.t 14) AC.skip (AC.exit 0))) (AC.seq (AC.block 1 (AC.seq (AC.reg [⟨some 17, .mov, [.t 8], none⟩,⟨some 9, .mov, [.t 17], none⟩]) (AC.block 2 (AC.loop (AC.seq (AC.seq (AC.par (PT.step 0 ⟨some 18, .mov, [.t 9], none⟩ (PT.step 1 ⟨some 19, .mov, [.t 1], none⟩ (PT.step 2 ⟨some 20, .bin .gtr, [.t 18, .t 19], none⟩ (PT.step 3 ⟨some 21, .mov, [.t 20], none⟩ (PT.step 4 ⟨some 22, .mov, [.t 3], (some (21, true))⟩ (PT.step 5 ⟨some 23, .mov, [.t 0], (some (21, true))⟩ (PT.step 6 ⟨some 24, .mov, [.t 9], (some (21, true))⟩ (PT.step 9 ⟨some 27, .mov, [.t 0], (some (21, true))⟩ (PT.step 10 ⟨some 28, .mov, [.t 9], (some (21, true))⟩ (PT.step 11 ⟨some 29, .bin .sub, [.t 28, .c (.int .i64 1)], (some (21, true))⟩ (PT.step 7 ⟨some 25, .idxp 3, [.t 23, .t 24], (some (21, true))⟩ (PT.step 8 ⟨some 26, .load true 3, [.t 25], (some (21, true))⟩ (PT.step 12 ⟨some 30, .idxp 3, [.t 27, .t 29], (some (21, true))⟩ (PT.step 13 ⟨some 31, .load true 3, [.t 30], (some (21, true))⟩ (PT.step 14 ⟨some 32, .callv, [.t 22, .t 26, .t 31], (some (21, true))⟩ (PT.step 15 ⟨some 33, .bin .lss, [.t 32, .c (.int .i64 0)], (some (21, true))⟩ (PT.step 16 ⟨some 34, .pick, [.t 21, .t 33, .c (.bool false)], none⟩ PT.done)))))))))))))))))) (AC.cond (.t 34) AC.skip (AC.exit 2))) (AC.seq (AC.block 3 (AC.par (PT.step 0 ⟨some 37, .mov, [.t 0], none⟩ (PT.step 1 ⟨some 38, .mov, [.t 9], none⟩ (PT.step 2 ⟨some 39, .mov, [.t 0], none⟩ (PT.step 3 ⟨some 40, .mov, [.t 9], none⟩ (PT.step 4 ⟨some 41, .bin .sub, [.t 40, .c (.int .i64 1)], none⟩ (PT.step 5 ⟨some 42, .mov, [.t 0], none⟩ (PT.step 6 ⟨some 43, .mov, [.t 9], none⟩ (PT.step 7 ⟨some 44, .bin .sub, [.t 43, .c (.int .i64 1)], none⟩ (PT.step 10 ⟨some 47, .mov, [.t 0], none⟩ (PT.step 11 ⟨some 48, .mov, [.t 9], none⟩ (PT.step 8 ⟨some 45, .idxp 3, [.t 42, .t 44], none⟩ (PT.step 9 ⟨some 46, .load true 3, [.t 45], none⟩ (PT.step 12 ⟨some 49, .idxp 3, [.t 47, .t 48], none⟩ (PT.step 13 ⟨some 50, .load true 3, [.t 49], none⟩ (PT.step 14 ⟨some 51, .idxp 3, [.t 37, .t 38], none⟩ (PT.step 15 ⟨none, .store 3, [.t 51, .t 46], none⟩ (PT.step 16 ⟨some 52, .idxp 3, [.t 39, .t 41], none⟩ (PT.step 17 ⟨none, .store 3, [.t 52, .t 50], none⟩ PT.done)))))))))))))))))))) (AC.reg [⟨some 35, .mov, [.t 9], none⟩,⟨some 36, .bin .sub, [.t 35, .c (.int .i64 1)], none⟩,⟨some 9, .mov, [.t 36], none⟩]))))))) (AC.reg [⟨some 15, .mov, [.t 8], none⟩,⟨some 16, .bin .add, [.t 15, .c (.int .i64 1)], none⟩,⟨some 8, .mov, [.t 16], none⟩]))))))
def r_e81 : AC × List RT × Nat := (c_e81, [], 53)
theorem ok_e81e : compF Tryz.prog Tryz.f192 ⟨true, false, []⟩ = some r_e81 := by kernel_rfl
variable {E : Env}
theorem insInner_size (lt : Ed → Ed → Bool) (a : Nat) : ∀ (j : Nat) (d : Array Ed), (insInner lt a j d).size = d.size
  | 0, d => rfl
  | j + 1, d => by
    rw [insInner]
    split
    · rw [insInner_size]; simp [swp]
    · rfl
theorem insertion_c (hP : E.P = Tryz.prog) (W : AW) (r n a b : Nat) (d : Array Ed) (hn : d.size = n) (hb : b ≤ n) (ha : a ≤ n) (hsm : n < 2 ^ 48) :
    ACalls E 192 [.slr r 0 n 3, .int .i64 a, .int .i64 b, (.fn (.func 109) [] [])] (pv W r d) fun X W' => X = .tuple [] ∧ W' = pv W r (insertionSort ltE d a b) := by
  refine ACalls.of hP Tryz.func192 ok_e81e (by simp) fun _ _ => ?_
  simp (maxSteps := 2000000) (disch := omega) only [c_e81, BS, BC, e_seq, ↓reduceIte, wadd1, e_loop]
  refine ALoop.go (B := awp E _) (fun h => awp_mono _ h) (fun (s : Nat × Array Ed) A1 W1 => A1 0 = some (.slr r 0 n 3) ∧ A1 3 = some (.fn (.func 109) [] []) ∧ A1 1 = some (.int .i64 a) ∧ A1 2 = some (.int .i64 b) ∧ A1 8 = some (.int .i64 s.1) ∧
    W1 = pv W r s.2 ∧ a + 1 ≤ s.1 ∧ s.1 ≤ n + 1 ∧ s.2.size = n ∧ insOuter ltE a b s.1 s.2 = insertionSort ltE d a b) (fun s => n + 1 - s.1) (a + 1, d)
    ⟨rfl, rfl, rfl, rfl, rfl, rfl, Nat.le_refl _, by simp; omega, hn, rfl⟩ ?_
  rintro ⟨i, d1⟩ A1 W1 ⟨g0, gc, g1, g2, g6, rfl, gi, gn, gs, gt⟩ _
  simp only at g6 gi gn gs gt
  rw [insOuter] at gt
  by_cases hib : i < b
  · rw [if_pos hib] at gt
    simp only [BS, e_seq, cond_if, ↓reduceIte, Nat.reduceEqDiff, g2, g6, clt, hib, decide_true]
    refine awp_mono _ (Q := fun e A' W' => e = .exit 2 ∧ A' 0 = some (.slr r 0 n 3) ∧ A' 3 = some (.fn (.func 109) [] []) ∧ A' 1 = some (.int .i64 a) ∧ A' 2 = some (.int .i64 b) ∧ A' 8 = some (.int .i64 i) ∧ W' = pv W r (insInner ltE a i d1)) ?_ ?_
    · rintro e A2 W2 ⟨rfl, q0, qc, q1, q2, q6, rfl⟩
      simp (maxSteps := 2000000) (disch := omega) only [BS, ↓reduceIte, Nat.reduceEqDiff, reduceCtorEq, q0, qc, q1, q2, q6, wadd1]
      exact ⟨(i + 1, insInner ltE a i d1), ⟨trivial, trivial, trivial, trivial, rfl, rfl, by simp; omega, by simp; omega, by rw [insInner_size, gs], gt⟩, by simp; omega, Nat.le_refl _⟩
    · rw [e_loop]
      refine ALoop.go (B := awp E _) (fun h => awp_mono _ h) (fun (s : Nat × Array Ed) A2 W2 => A2 0 = some (.slr r 0 n 3) ∧ A2 3 = some (.fn (.func 109) [] []) ∧ A2 1 = some (.int .i64 a) ∧ A2 2 = some (.int .i64 b) ∧ A2 8 = some (.int .i64 i) ∧ A2 9 = some (.int .i64 s.1) ∧
        W2 = pv W r s.2 ∧ s.1 ≤ i ∧ s.2.size = n ∧ insInner ltE a s.1 s.2 = insInner ltE a i d1) (fun s => s.1) (i, d1)
        ⟨by assumption, by assumption, by assumption, by assumption, by assumption, rfl, rfl, by simp, gs, rfl⟩ ?_
      rintro ⟨j, d2⟩ A2 W2 ⟨q0, qc, q1, q2, q6, q7, rfl, qi, qs, qt⟩ _
      simp only at q7 qi qs qt
      by_cases haj : a < j
      · obtain ⟨j, rfl⟩ : ∃ j', j = j' + 1 := ⟨j - 1, by omega⟩
        rw [insInner] at qt
        have haj' : j + 1 > a := haj
        simp (maxSteps := 2000000) (disch := omega) only [BS, BC, e_seq, guard_if, ↓reduceIte, Nat.reduceEqDiff, reduceCtorEq, ed_frz, List.nil_append, List.append_nil, q0, qc, q1, q7, cgt, haj', decide_true, wsub1, Nat.add_sub_cancel, ix, ld]
        refine (less_c hP _ _ _).mono ?_
        rintro X W' ⟨rfl, rfl⟩
        by_cases hlt : d2[j + 1]! < d2[j]!
        · rw [if_pos (by simp [ltE, hlt]; omega)] at qt
          simp (disch := (try simp only [sz_set]) <;> omega) only [BS, e_seq, cond_if, guard_if, ↓reduceIte, Nat.reduceEqDiff, reduceCtorEq, cmp_lt, undef_t, hlt, decide_true, q0, qc, q1, q2, q6, q7, wsub1, Nat.add_sub_cancel, ix, ld, st, sw]
          exact ⟨(j, swp d2 (j + 1) j), ⟨trivial, trivial, trivial, trivial, trivial, rfl, rfl, by simp; omega, by simp [swp, qs], qt⟩, by simp, Nat.le_refl _⟩
        · rw [if_neg (by simp [ltE, hlt])] at qt
          simp (maxSteps := 2000000) (disch := omega) only [BS, BC, cond_if, guard_if, ↓reduceIte, Nat.reduceEqDiff, reduceCtorEq, cmp_lt, hlt, decide_false, q0, qc, q1, q2, q6]
          exact ⟨trivial, trivial, trivial, trivial, trivial, trivial, by rw [qt]⟩
      · have hc : ¬ j > a := haj
        simp (maxSteps := 2000000) (disch := omega) only [BS, BC, e_seq, cond_if, guard_if, ↓reduceIte, Nat.reduceEqDiff, reduceCtorEq, undef_t, q0, qc, q1, q2, q6, q7, cgt, hc, decide_false]
        refine ⟨trivial, trivial, trivial, trivial, trivial, trivial, ?_⟩
        rw [← qt]
        cases j with
        | zero => rfl
        | succ m => rw [insInner, if_neg (by simp; omega)]
  · rw [if_neg hib] at gt
    simp only [BS, BC, e_seq, cond_if, ↓reduceIte, Nat.reduceEqDiff, g2, g6, clt, hib, decide_false]
    exact ⟨_, rfl, _, _, .weak weak_id, Nat.le_refl _, rfl, by rw [← gt]⟩
end Go.AL.SE
set_option maxRecDepth 100000
set_option maxHeartbeats 2000000
namespace Go.AL.SE
open Go Go.AL Go.AL.S Go.Proofs Go.Sort
/- slices.partialInsertionSortCmpFunc[umpire/graph.Edge] -/
def c_e86 : AC := (AC.seq (AC.reg [⟨some 8, .mov, [.c (.bool false)], none⟩]) (AC.seq (AC.reg [⟨some 13, .mov, [.t 1], none⟩,⟨some 14, .bin .add, [.t 13, .c (.int .i64 1)], none⟩,⟨some 9, .mov, [.t 14], none⟩]) (AC.seq (AC.seq (AC.reg [⟨some 10, .mov, [.c (.int .i64 0)], none⟩]) (AC.block 0 (AC.loop (AC.seq (AC.seq (AC.reg [⟨some 15, .mov, [.t 10], none⟩,⟨some 16, .bin .lss, [.t 15, .c (.int .i64 5)], none⟩]) (AC.cond (.t 16) AC.skip (AC.exit 0))) (AC.seq (AC.block 1 (AC.seq (AC.block 2 (AC.loop (AC.seq (AC.seq (AC.par (PT.step 0 ⟨some 19, .mov, [.t 9], none⟩ (PT.step 1 ⟨some 20, .mov, [.t 2], none⟩ (PT.step 2 ⟨some 21, .bin .lss, [.t 19, .t 20], none⟩ (PT.step 3 ⟨some 22, .mov, [.t 21], none⟩ (PT.step 4 ⟨some 23, .mov, [.t 3], (some (22, true))⟩ (PT.step 5 ⟨some 24, .mov, [.t 0], (some (22, true))⟩ (PT.step 6 ⟨some 25, .mov, [.t 9], (some (22, true))⟩ (PT.step 9 ⟨some 28, .mov, [.t 0], (some (22, true))⟩ (PT.step 10 ⟨some 29, .mov, [.t 9], (some (22, true))⟩ (PT.step 11 ⟨some 30, .bin .sub, [.t 29, .c (.int .i64 1)], (some (22, true))⟩ (PT.step 7 ⟨some 26, .idxp 3, [.t 24, .t 25], (some (22, true))⟩ (PT.step 8 ⟨some 27, .load true 3, [.t 26], (some (22, true))⟩ (PT.step 12 ⟨some 31, .idxp 3, [.t 28, .t 30], (some (22, true))⟩ (PT.step 13 ⟨some 32, .load true 3, [.t 31], (some (22, true))⟩ (PT.step 14 ⟨some 33, .callv, [.t 23, .t 27, .t 32], (some (22, true))⟩ (PT.step 15 ⟨some 34, .bin .lss, [.t 33, .c (.int .i64 0)], (some (22, true))⟩ (PT.step 16 ⟨some 35, .un .not, [.t 34], (some (22, true))⟩ (PT.step 17 ⟨some 36, .pick, [.t 22, .t 35, .c (.bool false)], none⟩ PT.done))))))))))))))))))) (AC.cond (.t 36) AC.skip (AC.exit 2))) (AC.block 3 (AC.reg [⟨some 37, .mov, [.t 9], none⟩,⟨some 38, .bin .add, [.t 37, .c (.int .i64 1)], none⟩,⟨some 9, .mov, [.t 38], none⟩]))))) (AC.seq (AC.seq (AC.reg [⟨some 39, .mov, [.t 9], none⟩,⟨some 40, .mov, [.t 2], none⟩,⟨some 41, .bin .eql, [.t 39, .t 40], none⟩]) (AC.cond (.t 41) (AC.seq (AC.reg [⟨some 8, .mov, [.c (.bool true)], none⟩]) AC.ret) AC.skip)) (AC.seq (AC.seq (AC.reg [⟨some 42, .mov, [.t 2], none⟩,⟨some 43, .mov, [.t 1], none⟩,⟨some 44, .bin .sub, [.t 42, .t 43], none⟩,⟨some 45, .bin .lss, [.t 44, .c (.int .i64 50)], none⟩]) (AC.cond (.t 45) (AC.seq (AC.reg [⟨some 8, .mov, [.c (.bool false)], none⟩]) AC.ret) AC.skip)) (AC.seq (AC.par (PT.step 0 ⟨some 46, .mov, [.t 0], none⟩ (PT.step 1 ⟨some 47, .mov, [.t 9], none⟩ (PT.step 2 ⟨some 48, .mov, [.t 0], none⟩ (PT.step 3 ⟨some 49, .mov, [.t 9], none⟩ (PT.step 4 ⟨some 50, .bin .sub, [.t 49, .c (.int .i64 1)], none⟩ (PT.step 5 ⟨some 51, .mov, [.t 0], none⟩ (PT.step 6 ⟨some 52, .mov, [.t 9], none⟩ (PT.step 7 ⟨some 53, .bin .sub, [.t 52, .c (.int .i64 1)], none⟩ (PT.step 10 ⟨some 56, .mov, [.t 0], none⟩ (PT.step 11 ⟨some 57, .mov, [.t 9], none⟩ (PT.step 8 ⟨some 54, .idxp 3, [.t 51, .t 53], none⟩ (PT.step 9 ⟨some 55, .load true 3, [.t 54], none⟩ (PT.step 12 ⟨some 58, .idxp 3, [.t 56, .t 57], none⟩ (PT.step 13 ⟨some 59, .load true 3, [.t 58], none⟩ (PT.step 14 ⟨some 60, .idxp 3, [.t 46, .t 47], none⟩ (PT.step 15 ⟨none, .store 3, [.t 60, .t 55], none⟩ (PT.step 16 ⟨some 61, .idxp 3, [.t 48, .t 50], none⟩ (PT.step 17 ⟨none, .store 3, [.t 61, .t 59], none⟩ PT.done))))))))))))))))))) (AC.seq (AC.seq (AC.reg [⟨some 62, .mov, [.t 9], none⟩,⟨some 63, .mov, [.t 1], none⟩,⟨some 64, .bin .sub, [.t 62, .t 63], none⟩,⟨some 65, .bin .geq, [.t 64, .c (.int .i64 2)], none⟩]) (AC.cond (.t 65) (AC.seq (AC.reg [⟨some 66, .mov, [.t 9], none⟩,⟨some 67, .bin .sub, [.t 66, .c (.int .i64 1)], none⟩,⟨some 11, .mov, [.t 67], none⟩]) (AC.block 4 (AC.loop (AC.seq (AC.seq (AC.reg [⟨some 68, .mov, [.t 11], none⟩,⟨some 69, .bin .geq, [.t 68, .c (.int .i64 1)], none⟩]) (AC.cond (.t 69) AC.skip (AC.exit 4))) (AC.seq (AC.block 5 (AC.seq (AC.seq (AC.par (PT.step 0 ⟨some 72, .mov, [.t 3], none⟩ (PT.step 1 ⟨some 73, .mov, [.t 0], none⟩ (PT.step 2 ⟨some 74, .mov, [.t 11], none⟩ (PT.step 5 ⟨some 77, .mov, [.t 0], none⟩ (PT.step 6 ⟨some 78, .mov, [.t 11], none⟩ (PT.step 7 ⟨some 79, .bin .sub, [.t 78, .c (.int .i64 1)], none⟩ (PT.step 3 ⟨some 75, .idxp 3, [.t 73, .t 74], none⟩ (PT.step 4 ⟨some 76, .load true 3, [.t 75], none⟩ (PT.step 8 ⟨some 80, .idxp 3, [.t 77, .t 79], none⟩ (PT.step 9 ⟨some 81, .load true 3, [.t 80], none⟩ (PT.step 10 ⟨some 82, .callv, [.t 72, .t 76, .t 81], none⟩ (PT.step 11 ⟨some 83, .bin .lss, [.t 82, .c (.int .i64 0)], none⟩ (PT.step 12 ⟨some 84, .un .not, [.t 83], none⟩ PT.done)))))))))))))) (AC.cond (.t 84) (AC.exit 4) AC.skip)) (AC.par (PT.step 0 ⟨some 85, .mov, [.t 0], none⟩ (PT.step 1 ⟨some 86, .mov, [.t 11], none⟩ (PT.step 2 ⟨some 87, .mov, [.t 0], none⟩ (PT.step 3 ⟨some 88, .mov, [.t 11], none⟩ (PT.step 4 ⟨some 89, .bin .sub, [.t 88, .c (.int .i64 1)], none⟩ (PT.step 5 ⟨some 90, .mov, [.t 0], none⟩ (PT.step 6 ⟨some 91, .mov, [.t 11], none⟩ (PT.step 7 ⟨some 92, .bin .sub, [.t 91, .c (.int .i64 1)], none⟩ (PT.step 10 ⟨some 95, .mov, [.t 0], none⟩ (PT.step 11 ⟨some 96, .mov, [.t 11], none⟩ (PT.step 8 ⟨some 93, .idxp 3, [.t 90, .t 92], none⟩ (PT.step 9 ⟨some 94, .load true 3, [.t 93], none⟩ (PT.step 12 ⟨some 97, .idxp 3, [.t 95, .t 96], none⟩ (PT.step 13 ⟨some 98, .load true 3, [.t 97], none⟩ (PT.step 14 ⟨some 99, .idxp 3, [.t 85, .t 86], none⟩ (PT.step 15 ⟨none, .store 3, [.t 99, .t 94], none⟩ (PT.step 16 ⟨some 100, .idxp 3, [.t 87, .t 89], none⟩ (PT.step 17 ⟨none, .store 3, [.t 100, .t 98], none⟩ PT.done))))))))))))))))))))) (AC.reg [⟨some 70, .mov, [.t 11], none⟩,⟨some 71, .bin .sub, [.t 70, .c (.int .i64 1)], none⟩,⟨some 11, .mov, [.t 71], none⟩])))))) AC.skip)) (AC.seq (AC.reg [⟨some 101, .mov, [.t 2], none⟩,⟨some 102, .mov, [.t 9], none⟩,⟨some 103, .bin .sub, [.t 101, .t 102], none⟩,⟨some 104, .bin .geq, [.t 103, .c (.int .i64 2)], none⟩]) (AC.cond (.t 104) (AC.seq (AC.reg [⟨some 105, .mov, [.t 9], none⟩,⟨some 106, .bin .add, [.t 105, .c (.int .i64 1)], none⟩,⟨some 12, .mov, [.t 106], none⟩]) (AC.block 6 (AC.loop (AC.seq (AC.seq (AC.reg [⟨some 107, .mov, [.t 12], none⟩,⟨some 108, .mov, [.t 2], none⟩,⟨some 109, .bin .lss, [.t 107, .t 108], none⟩]) (AC.cond (.t 109) AC.skip (AC.exit 6))) (AC.seq (AC.block 7 (AC.seq (AC.seq (AC.par (PT.step 0 ⟨some 112, .mov, [.t 3], none⟩ (PT.step 1 ⟨some 113, .mov, [.t 0], none⟩ (PT.step 2 ⟨some 114, .mov, [.t 12], none⟩ (PT.step 5 ⟨some 117, .mov, [.t 0], none⟩ (PT.step 6 ⟨some 118, .mov, [.t 12], none⟩ (PT.step 7 ⟨some 119, .bin .sub, [.t 118, .c (.int .i64 1)], none⟩ (PT.step 3 ⟨some 115, .idxp 3, [.t 113, .t 114], none⟩ (PT.step 4 ⟨some 116, .load true 3, [.t 115], none⟩ (PT.step 8 ⟨some 120, .idxp 3, [.t 117, .t 119], none⟩ (PT.step 9 ⟨some 121, .load true 3, [.t 120], none⟩ (PT.step 10 ⟨some 122, .callv, [.t 112, .t 116, .t 121], none⟩ (PT.step 11 ⟨some 123, .bin .lss, [.t 122, .c (.int .i64 0)], none⟩ (PT.step 12 ⟨some 124, .un .not, [.t 123], none⟩ PT.done)))))))))))))) (AC.cond (.t 124) (AC.exit 6) AC.skip)) (AC.par (PT.step 0 ⟨some 125, .mov, [.t 0], none⟩ (PT.step 1 ⟨some 126, .mov, [.t 12], none⟩ (PT.step 2 ⟨some 127, .mov, [.t 0], none⟩ (PT.step 3 ⟨some 128, .mov, [.t 12], none⟩ (PT.step 4 ⟨some 129, .bin .sub, [.t 128, .c (.int .i64 1)], none⟩ (PT.step 5 ⟨some 130, .mov, [.t 0], none⟩ (PT.step 6 ⟨some 131, .mov, [.t 12], none⟩ (PT.step 7 ⟨some 132, .bin .sub, [.t 131, .c (.int .i64 1)], none⟩ (PT.step 10 ⟨some 135, .mov, [.t 0], none⟩ (PT.step 11 ⟨some 136, .mov, [.t 12], none⟩ (PT.step 8 ⟨some 133, .idxp 3, [.t 130, .t 132], none⟩ (PT.step 9 ⟨some 134, .load true 3, [.t 133], none⟩ (PT.step 12 ⟨some 137, .idxp 3, [.t 135, .t 136], none⟩ (PT.step 13 ⟨some 138, .load true 3, [.t 137], none⟩ (PT.step 14 ⟨some 139, .idxp 3, [.t 125, .t 126], none⟩ (PT.step 15 ⟨none, .store 3, [.t 139, .t 134], none⟩ (PT.step 16 ⟨some 140, .idxp 3, [.t 127, .t 129], none⟩ (PT.step 17 ⟨none, .store 3, [.t 140, .t 138], none⟩ PT.done))))))))))))))))))))) (AC.reg [⟨some 110, .mov, [.t 12], none⟩,⟨some 111, .bin .add, [.t 110, .c (.int .i64 1)], none⟩,⟨some 12, .mov, [.t 111], none⟩])))))) AC.skip)))))))) (AC.reg [⟨some 17, .mov, [.t 10], none⟩,⟨some 18, .bin .add, [.t 17, .c (.int .i64 1)], none⟩,⟨some 10, .mov, [.t 18], none⟩])))))) (AC.seq (AC.reg [⟨some 8, .mov, [.c (.bool false)], none⟩]) AC.ret))))
def r_e86 : AC × List RT × Nat := (c_e86, [.tmp 8], 141)
theorem ok_e86e : compF Tryz.prog Tryz.f197 ⟨true, false, []⟩ = some r_e86 := by kernel_rfl
variable {E : Env}
theorem shiftDown_size (lt : Ed → Ed → Bool) : ∀ (j : Nat) (d : Array Ed), (shiftDown lt j d).size = d.size
  | 0, d => rfl
  | j + 1, d => by
    rw [shiftDown]
    split
    · rfl
    · rw [shiftDown_size]; simp [swp]
theorem shiftUp_size (lt : Ed → Ed → Bool) (b : Nat) : ∀ (m j : Nat) (d : Array Ed), b - j ≤ m → (shiftUp lt b j d).size = d.size := by
  intro m
  induction m with
  | zero => intro j d h; rw [shiftUp, if_neg (by omega)]
  | succ m ih =>
    intro j d h
    rw [shiftUp]
    split
    · split
      · rfl
      · rw [ih _ _ (by omega)]; simp [swp]
    · rfl
theorem scanSorted_le (lt : Ed → Ed → Bool) (b : Nat) (d : Array Ed) : ∀ (m i : Nat), b - i ≤ m → i ≤ b → i ≤ scanSorted lt d b i ∧ scanSorted lt d b i ≤ b := by
  intro m
  induction m with
  | zero => intro i h hi; rw [scanSorted, if_neg (by simp; omega)]; omega
  | succ m ih =>
    intro i h hi
    rw [scanSorted]
    split
    · rename_i h1
      have := ih (i + 1) (by omega) (by simp at h1; omega)
      omega
    · omega

theorem partialIns_c (hP : E.P = Tryz.prog) (W : AW) (r n a b : Nat) (d : Array Ed) (hn : d.size = n) (hab : a < b) (hb : b ≤ n) (hsm : n < 2 ^ 48) :
    ACalls E 197 [.slr r 0 n 3, .int .i64 a, .int .i64 b, (.fn (.func 109) [] [])] (pv W r d) fun X W' => X = .bool (partialInsertionSort ltE d a b).2 ∧ W' = pv W r (partialInsertionSort ltE d a b).1 := by
  refine ACalls.of hP Tryz.func197 ok_e86e (by simp) fun _ _ => ?_
  simp (maxSteps := 2000000) (disch := omega) only [c_e86, BS, BC, e_seq, ↓reduceIte, Nat.reduceEqDiff, wadd1, e_loop]
  refine ALoop.go (B := awp E _) (fun h => awp_mono _ h) (fun (s : Nat × Nat × Array Ed) A1 W1 => A1 0 = some (.slr r 0 n 3) ∧ A1 3 = some (.fn (.func 109) [] []) ∧ A1 1 = some (.int .i64 a) ∧ A1 2 = some (.int .i64 b) ∧ A1 9 = some (.int .i64 s.2.1) ∧ A1 10 = some (.int .i64 s.1) ∧
    W1 = pv W r s.2.2 ∧ s.1 ≤ 5 ∧ a + 1 ≤ s.2.1 ∧ s.2.1 ≤ b ∧ s.2.2.size = n ∧ partialIns ltE a b (5 - s.1) s.2.1 s.2.2 = partialInsertionSort ltE d a b) (fun s => 5 - s.1) (0, a + 1, d)
    ⟨rfl, rfl, rfl, rfl, rfl, rfl, rfl, by simp, Nat.le_refl _, hab, hn, rfl⟩ ?_
  rintro ⟨k, i, d1⟩ A1 W1 ⟨g0, gc, g1, g2, g7, g8, rfl, gk, gi, gb, gs, gt⟩ _
  simp only at g7 g8 gk gi gb gs gt
  by_cases hk : k < 5
  · rw [show 5 - k = (5 - (k + 1)) + 1 by omega, partialIns_succ] at gt
    simp only [BS, e_seq, cond_if, ↓reduceIte, g8, clt5, hk, decide_true]
    refine awp_mono _ (Q := fun e A' W' => e = .exit 2 ∧ A' 0 = some (.slr r 0 n 3) ∧ A' 3 = some (.fn (.func 109) [] []) ∧ A' 1 = some (.int .i64 a) ∧ A' 2 = some (.int .i64 b) ∧ A' 9 = some (.int .i64 ((scanSorted ltE d1 b i : Nat) : Int)) ∧ A' 10 = some (.int .i64 k) ∧ W' = pv W r d1) ?_ ?_
    rotate_left
    · rw [e_loop]
      refine ALoop.go (B := awp E _) (fun h => awp_mono _ h) (fun (s : Nat) A2 W2 => A2 0 = some (.slr r 0 n 3) ∧ A2 3 = some (.fn (.func 109) [] []) ∧ A2 1 = some (.int .i64 a) ∧ A2 2 = some (.int .i64 b) ∧ A2 9 = some (.int .i64 s) ∧ A2 10 = some (.int .i64 k) ∧
        W2 = pv W r d1 ∧ i ≤ s ∧ s ≤ b ∧ scanSorted ltE d1 b s = scanSorted ltE d1 b i) (fun s => b - s) i
        ⟨by assumption, by assumption, by assumption, by assumption, by assumption, by assumption, rfl, Nat.le_refl _, gb, rfl⟩ ?_
      rintro s A2 W2 ⟨q0, qc, q1, q2, q7, q8, rfl, qi, qb, qt⟩ _
      rw [scanSorted] at qt
      by_cases h1 : s < b
      · simp (maxSteps := 2000000) (disch := omega) only [BS, BC, e_seq, guard_if, ↓reduceIte, Nat.reduceEqDiff, reduceCtorEq, ed_frz, List.nil_append, List.append_nil, q0, qc, q2, q7, clt, h1, decide_true, wsub1, ix, ld]
        refine (less_c hP _ _ _).mono ?_
        rintro X W' ⟨rfl, rfl⟩
        by_cases h2 : d1[s]! < d1[s - 1]!
        · rw [if_neg (by simp [h1, ltE, h2])] at qt
          simp (maxSteps := 2000000) (disch := omega) only [BS, BC, cond_if, guard_if, ↓reduceIte, Nat.reduceEqDiff, reduceCtorEq, cmp_lt, q0, qc, q1, q2, q7, q8, h2, decide_true, Bool.not_true]
          exact ⟨trivial, trivial, trivial, trivial, trivial, by rw [← qt], trivial, trivial⟩
        · rw [if_pos (by simp [h1, ltE, h2])] at qt
          simp (maxSteps := 2000000) (disch := omega) only [BS, cond_if, guard_if, ↓reduceIte, Nat.reduceEqDiff, reduceCtorEq, cmp_lt, q0, qc, q1, q2, q7, q8, h2, decide_false, Bool.not_false, wadd1]
          exact ⟨s + 1, ⟨trivial, trivial, trivial, trivial, rfl, trivial, trivial, by omega, by omega, qt⟩, by omega, Nat.le_refl _⟩
      · rw [if_neg (by simp [h1])] at qt
        simp (maxSteps := 2000000) (disch := omega) only [BS, BC, e_seq, cond_if, guard_if, ↓reduceIte, Nat.reduceEqDiff, reduceCtorEq, undef_t, q0, qc, q1, q2, q7, q8, clt, h1, decide_false]
        exact ⟨trivial, trivial, trivial, trivial, trivial, by rw [← qt], trivial, trivial⟩
    rintro e A2 W2 ⟨rfl, q0, qc, q1, q2, q7, q8, rfl⟩
    obtain ⟨ib, ie⟩ := scanSorted_le ltE b d1 _ i (Nat.le_refl _) gb
    obtain ⟨i2, hi2⟩ : ∃ i2, i2 = scanSorted ltE d1 b i := ⟨_, rfl⟩
    rw [← hi2] at q7 ib ie gt
    by_cases h3 : i2 = b
    · rw [if_pos h3] at gt
      simp (maxSteps := 2000000) (disch := omega) only [BS, BC, e_seq, cond_if, ↓reduceIte, Nat.reduceEqDiff, q2, q7, ceq, h3, decide_true]
      exact ⟨_, rfl, _, _, .weak weak_id, Nat.le_refl _, by rw [← gt], by rw [← gt]⟩
    rw [if_neg h3] at gt
    by_cases h4 : b - a < 50
    · rw [if_pos h4] at gt
      simp (maxSteps := 2000000) (disch := omega) only [BS, BC, e_seq, cond_if, ↓reduceIte, Nat.reduceEqDiff, q1, q2, q7, ceq, h3, decide_false, wsub, clt50, h4, decide_true]
      exact ⟨_, rfl, _, _, .weak weak_id, Nat.le_refl _, by rw [← gt], by rw [← gt]⟩
    rw [if_neg h4] at gt
    have hs2 : (swp d1 i2 (i2 - 1)).size = n := by simp [swp, gs]
    obtain ⟨d3, hd3⟩ : ∃ d3, d3 = fixDown ltE a i2 (swp d1 i2 (i2 - 1)) := ⟨_, rfl⟩
    rw [← hd3] at gt
    by_cases h5 : i2 - a ≥ 2
    · have hd3' : d3 = shiftDown ltE (i2 - 1) (swp d1 i2 (i2 - 1)) := by rw [hd3, fixDown, if_pos h5]
      simp (disch := (try simp only [sz_set]) <;> omega) only [BS, BC, e_seq, cond_if, ↓reduceIte, Nat.reduceEqDiff, reduceCtorEq, undef_t, q0, q1, q2, q7, ceq, h3, decide_false, wsub, wsub1, clt50, h4, cge2, h5, decide_true, ix, ld, st, sw]
      refine awp_mono _ (Q := fun e A' W' => e = .exit 4 ∧ A' 0 = some (.slr r 0 n 3) ∧ A' 3 = some (.fn (.func 109) [] []) ∧ A' 1 = some (.int .i64 a) ∧ A' 2 = some (.int .i64 b) ∧ A' 9 = some (.int .i64 i2) ∧ A' 10 = some (.int .i64 k) ∧ W' = pv W r d3) ?_ ?_
      rotate_left
      · rw [e_loop]
        refine ALoop.go (B := awp E _) (fun h => awp_mono _ h) (fun (s : Nat × Array Ed) A5 W5 => A5 0 = some (.slr r 0 n 3) ∧ A5 3 = some (.fn (.func 109) [] []) ∧ A5 1 = some (.int .i64 a) ∧ A5 2 = some (.int .i64 b) ∧ A5 9 = some (.int .i64 i2) ∧ A5 10 = some (.int .i64 k) ∧ A5 11 = some (.int .i64 s.1) ∧
          W5 = pv W r s.2 ∧ s.1 < n ∧ s.2.size = n ∧ shiftDown ltE s.1 s.2 = d3) (fun s => s.1) (i2 - 1, swp d1 i2 (i2 - 1))
          ⟨by simp only [BS, ↓reduceIte, reduceCtorEq, q0], by simp only [BS, ↓reduceIte, Nat.reduceEqDiff, qc], by simp only [BS, ↓reduceIte, Nat.reduceEqDiff, q1], by simp only [BS, ↓reduceIte, Nat.reduceEqDiff, q2], by simp only [BS, ↓reduceIte, Nat.reduceEqDiff, q7], by simp only [BS, ↓reduceIte, Nat.reduceEqDiff, q8], rfl, rfl, by simp; omega, hs2, hd3'.symm⟩ ?_
        rintro ⟨j, d4⟩ A5 W5 ⟨w0, wc, w1, w2, w7, w8, w9, rfl, wj, ws, wt⟩ _
        simp only at w9 wj ws wt
        cases j with
        | zero =>
          have k1 : ¬ 0 ≥ 1 := by decide
          simp (maxSteps := 2000000) (disch := omega) only [BS, BC, e_seq, cond_if, ↓reduceIte, Nat.reduceEqDiff, reduceCtorEq, w0, wc, w1, w2, w7, w8, w9, cge1, k1, decide_false]
          exact ⟨trivial, trivial, trivial, trivial, trivial, trivial, trivial, by rw [← wt]; rfl⟩
        | succ j =>
          have k1 : j + 1 ≥ 1 := by omega
          rw [shiftDown] at wt
          simp (maxSteps := 2000000) (disch := omega) only [BS, BC, e_seq, cond_if, ↓reduceIte, Nat.reduceEqDiff, reduceCtorEq, ed_frz, List.nil_append, List.append_nil, w0, wc, w9, cge1, k1, decide_true, wsub1, Nat.add_sub_cancel, ix, ld]
          refine (less_c hP _ _ _).mono ?_
          rintro X W' ⟨rfl, rfl⟩
          by_cases k2 : d4[j + 1]! < d4[j]!
          · rw [if_neg (by simp [ltE, k2])] at wt
            simp (disch := (try simp only [sz_set]) <;> omega) only [BS, BC, cond_if, ↓reduceIte, Nat.reduceEqDiff, reduceCtorEq, cmp_lt, undef_t, w0, wc, w1, w2, w7, w8, w9, k2, decide_true, Bool.not_true, wsub1, Nat.add_sub_cancel, ix, ld, st, sw]
            exact ⟨(j, swp d4 (j + 1) j), ⟨trivial, trivial, trivial, trivial, trivial, trivial, rfl, rfl, by simp; omega, by simp [swp, ws], wt⟩, by simp, Nat.le_refl _⟩
          · rw [if_pos (by simp [ltE, k2])] at wt
            simp (maxSteps := 2000000) (disch := omega) only [BS, cond_if, ↓reduceIte, Nat.reduceEqDiff, reduceCtorEq, cmp_lt, w0, wc, w1, w2, w7, w8, k2, decide_false, Bool.not_false]
            exact ⟨trivial, trivial, trivial, trivial, trivial, trivial, trivial, by rw [wt]⟩
      rintro e A3 W3 ⟨rfl, q0, qc, q1, q2, q7, q8, rfl⟩
      have hs3 : d3.size = n := by rw [hd3]; unfold fixDown; split <;> simp [shiftDown_size, swp, gs]
      by_cases h6 : b - i2 ≥ 2
      · simp (disch := (try simp only [sz_set]) <;> omega) only [BS, e_seq, cond_if, ↓reduceIte, Nat.reduceEqDiff, q2, q7, wsub, wadd1, cge2, h6, decide_true]
        refine awp_mono _ (Q := fun e A' W' => e = .exit 6 ∧ A' 0 = some (.slr r 0 n 3) ∧ A' 3 = some (.fn (.func 109) [] []) ∧ A' 1 = some (.int .i64 a) ∧ A' 2 = some (.int .i64 b) ∧ A' 9 = some (.int .i64 i2) ∧ A' 10 = some (.int .i64 k) ∧ W' = pv W r (shiftUp ltE b (i2 + 1) d3)) ?_ ?_
        · rintro e A4 W4 ⟨rfl, u0, uc, u1, u2, u7, u8, rfl⟩
          simp (maxSteps := 2000000) (disch := omega) only [BS, ↓reduceIte, Nat.reduceEqDiff, reduceCtorEq, u0, uc, u1, u2, u7, u8, wadd1]
          refine ⟨(k + 1, i2, shiftUp ltE b (i2 + 1) d3), ⟨trivial, trivial, trivial, trivial, rfl, rfl, rfl, by simp; omega, by simp; omega, ie, by rw [shiftUp_size _ _ _ _ _ (Nat.le_refl _), hs3], ?_⟩, by simp; omega, Nat.le_refl _⟩
          rw [← gt, fixUp, if_pos h6]
        · rw [e_loop]
          refine ALoop.go (B := awp E _) (fun h => awp_mono _ h) (fun (s : Nat × Array Ed) A5 W5 => A5 0 = some (.slr r 0 n 3) ∧ A5 3 = some (.fn (.func 109) [] []) ∧ A5 1 = some (.int .i64 a) ∧ A5 2 = some (.int .i64 b) ∧ A5 9 = some (.int .i64 i2) ∧ A5 10 = some (.int .i64 k) ∧ A5 12 = some (.int .i64 s.1) ∧
            W5 = pv W r s.2 ∧ 1 ≤ s.1 ∧ s.2.size = n ∧ shiftUp ltE b s.1 s.2 = shiftUp ltE b (i2 + 1) d3) (fun s => b - s.1) (i2 + 1, d3)
            ⟨by simp only [BS, ↓reduceIte, reduceCtorEq, q0], by simp only [BS, ↓reduceIte, Nat.reduceEqDiff, qc], by simp only [BS, ↓reduceIte, Nat.reduceEqDiff, q1], by simp only [BS, ↓reduceIte, Nat.reduceEqDiff, q2], by simp only [BS, ↓reduceIte, Nat.reduceEqDiff, q7], by simp only [BS, ↓reduceIte, Nat.reduceEqDiff, q8], rfl, rfl, by simp, hs3, rfl⟩ ?_
          rintro ⟨j, d4⟩ A5 W5 ⟨w0, wc, w1, w2, w7, w8, w10, rfl, wj, ws, wt⟩ _
          simp only at w10 wj ws wt
          rw [shiftUp] at wt
          by_cases k1 : j < b
          · rw [if_pos k1] at wt
            simp (maxSteps := 2000000) (disch := omega) only [BS, BC, e_seq, cond_if, ↓reduceIte, Nat.reduceEqDiff, reduceCtorEq, ed_frz, List.nil_append, List.append_nil, w0, wc, w2, w10, clt, k1, decide_true, wsub1, ix, ld]
            refine (less_c hP _ _ _).mono ?_
            rintro X W' ⟨rfl, rfl⟩
            by_cases k2 : d4[j]! < d4[j - 1]!
            · rw [if_neg (by simp [ltE, k2])] at wt
              simp (disch := (try simp only [sz_set]) <;> omega) only [BS, BC, cond_if, ↓reduceIte, Nat.reduceEqDiff, reduceCtorEq, cmp_lt, undef_t, w0, wc, w1, w2, w7, w8, w10, k2, decide_true, Bool.not_true, wadd1, wsub1, ix, ld, st, sw]
              exact ⟨(j + 1, swp d4 j (j - 1)), ⟨trivial, trivial, trivial, trivial, trivial, trivial, rfl, rfl, by simp, by simp [swp, ws], wt⟩, by simp; omega, Nat.le_refl _⟩
            · rw [if_pos (by simp [ltE, k2])] at wt
              simp (maxSteps := 2000000) (disch := omega) only [BS, cond_if, ↓reduceIte, Nat.reduceEqDiff, reduceCtorEq, cmp_lt, w0, wc, w1, w2, w7, w8, k2, decide_false, Bool.not_false]
              exact ⟨trivial, trivial, trivial, trivial, trivial, trivial, trivial, by rw [wt]⟩
          · rw [if_neg k1] at wt
            simp (maxSteps := 2000000) (disch := omega) only [BS, BC, e_seq, cond_if, ↓reduceIte, Nat.reduceEqDiff, reduceCtorEq, w0, wc, w1, w2, w7, w8, w10, clt, k1, decide_false]
            exact ⟨trivial, trivial, trivial, trivial, trivial, trivial, trivial, by rw [wt]⟩
      · simp (disch := (try simp only [sz_set]) <;> omega) only [BS, BC, e_seq, cond_if, ↓reduceIte, Nat.reduceEqDiff, reduceCtorEq, q0, qc, q1, q2, q7, q8, decide_false, wsub, wadd1, cge2, h6]
        refine ⟨(k + 1, i2, d3), ⟨trivial, trivial, trivial, trivial, rfl, rfl, rfl, by simp; omega, by simp; omega, ie, hs3, ?_⟩, by simp; omega, Nat.le_refl _⟩
        rw [← gt, fixUp, if_neg h6]
    · have hd3' : d3 = swp d1 i2 (i2 - 1) := by rw [hd3, fixDown, if_neg h5]
      have hs3 : d3.size = n := by rw [hd3]; unfold fixDown; split <;> simp [shiftDown_size, swp, gs]
      by_cases h6 : b - i2 ≥ 2
      · simp (disch := (try simp only [sz_set]) <;> omega) only [BS, BC, e_seq, cond_if, ↓reduceIte, Nat.reduceEqDiff, reduceCtorEq, undef_t, q0, q1, q2, q7, ceq, h3, decide_false, wsub, wsub1, wadd1, clt50, h4, cge2, h5, h6, decide_true, ix, ld, st, sw, ← hd3']
        refine awp_mono _ (Q := fun e A' W' => e = .exit 6 ∧ A' 0 = some (.slr r 0 n 3) ∧ A' 3 = some (.fn (.func 109) [] []) ∧ A' 1 = some (.int .i64 a) ∧ A' 2 = some (.int .i64 b) ∧ A' 9 = some (.int .i64 i2) ∧ A' 10 = some (.int .i64 k) ∧ W' = pv W r (shiftUp ltE b (i2 + 1) d3)) ?_ ?_
        · rintro e A4 W4 ⟨rfl, u0, uc, u1, u2, u7, u8, rfl⟩
          simp (maxSteps := 2000000) (disch := omega) only [BS, ↓reduceIte, Nat.reduceEqDiff, reduceCtorEq, u0, uc, u1, u2, u7, u8, wadd1]
          refine ⟨(k + 1, i2, shiftUp ltE b (i2 + 1) d3), ⟨trivial, trivial, trivial, trivial, rfl, rfl, rfl, by simp; omega, by simp; omega, ie, by rw [shiftUp_size _ _ _ _ _ (Nat.le_refl _), hs3], ?_⟩, by simp; omega, Nat.le_refl _⟩
          rw [← gt, fixUp, if_pos h6]
        · rw [e_loop]
          refine ALoop.go (B := awp E _) (fun h => awp_mono _ h) (fun (s : Nat × Array Ed) A5 W5 => A5 0 = some (.slr r 0 n 3) ∧ A5 3 = some (.fn (.func 109) [] []) ∧ A5 1 = some (.int .i64 a) ∧ A5 2 = some (.int .i64 b) ∧ A5 9 = some (.int .i64 i2) ∧ A5 10 = some (.int .i64 k) ∧ A5 12 = some (.int .i64 s.1) ∧
            W5 = pv W r s.2 ∧ 1 ≤ s.1 ∧ s.2.size = n ∧ shiftUp ltE b s.1 s.2 = shiftUp ltE b (i2 + 1) d3) (fun s => b - s.1) (i2 + 1, d3)
            ⟨by simp only [BS, ↓reduceIte, reduceCtorEq, q0], by simp only [BS, ↓reduceIte, Nat.reduceEqDiff, qc], by simp only [BS, ↓reduceIte, Nat.reduceEqDiff, q1], by simp only [BS, ↓reduceIte, Nat.reduceEqDiff, q2], by simp only [BS, ↓reduceIte, Nat.reduceEqDiff, q7], by simp only [BS, ↓reduceIte, Nat.reduceEqDiff, q8], rfl, rfl, by simp, hs3, rfl⟩ ?_
          rintro ⟨j, d4⟩ A5 W5 ⟨w0, wc, w1, w2, w7, w8, w10, rfl, wj, ws, wt⟩ _
          simp only at w10 wj ws wt
          rw [shiftUp] at wt
          by_cases k1 : j < b
          · rw [if_pos k1] at wt
            simp (maxSteps := 2000000) (disch := omega) only [BS, BC, e_seq, cond_if, ↓reduceIte, Nat.reduceEqDiff, reduceCtorEq, ed_frz, List.nil_append, List.append_nil, w0, wc, w2, w10, clt, k1, decide_true, wsub1, ix, ld]
            refine (less_c hP _ _ _).mono ?_
            rintro X W' ⟨rfl, rfl⟩
            by_cases k2 : d4[j]! < d4[j - 1]!
            · rw [if_neg (by simp [ltE, k2])] at wt
              simp (disch := (try simp only [sz_set]) <;> omega) only [BS, BC, cond_if, ↓reduceIte, Nat.reduceEqDiff, reduceCtorEq, cmp_lt, undef_t, w0, wc, w1, w2, w7, w8, w10, k2, decide_true, Bool.not_true, wadd1, wsub1, ix, ld, st, sw]
              exact ⟨(j + 1, swp d4 j (j - 1)), ⟨trivial, trivial, trivial, trivial, trivial, trivial, rfl, rfl, by simp, by simp [swp, ws], wt⟩, by simp; omega, Nat.le_refl _⟩
            · rw [if_pos (by simp [ltE, k2])] at wt
              simp (maxSteps := 2000000) (disch := omega) only [BS, cond_if, ↓reduceIte, Nat.reduceEqDiff, reduceCtorEq, cmp_lt, w0, wc, w1, w2, w7, w8, k2, decide_false, Bool.not_false]
              exact ⟨trivial, trivial, trivial, trivial, trivial, trivial, trivial, by rw [wt]⟩
          · rw [if_neg k1] at wt
            simp (maxSteps := 2000000) (disch := omega) only [BS, BC, e_seq, cond_if, ↓reduceIte, Nat.reduceEqDiff, reduceCtorEq, w0, wc, w1, w2, w7, w8, w10, clt, k1, decide_false]
            exact ⟨trivial, trivial, trivial, trivial, trivial, trivial, trivial, by rw [wt]⟩
      · simp (disch := (try simp only [sz_set]) <;> omega) only [BS, BC, e_seq, cond_if, ↓reduceIte, Nat.reduceEqDiff, reduceCtorEq, undef_t, q0, qc, q1, q2, q7, q8, ceq, h3, decide_false, wsub, wsub1, wadd1, clt50, h4, cge2, h5, h6, ix, ld, st, sw, ← hd3']
        refine ⟨(k + 1, i2, d3), ⟨trivial, trivial, trivial, trivial, rfl, rfl, rfl, by simp; omega, by simp; omega, ie, hs3, ?_⟩, by simp; omega, Nat.le_refl _⟩
        rw [← gt, fixUp, if_neg h6]
  · have : 5 - k = 0 := by omega
    rw [this] at gt
    simp only [BS, BC, e_seq, cond_if, ↓reduceIte, g8, clt5, hk, decide_false]
    exact ⟨_, rfl, _, _, .weak weak_id, Nat.le_refl _, by rw [← gt]; rfl, by rw [← gt]; rfl⟩
end Go.AL.SE
set_option maxRecDepth 100000
set_option maxHeartbeats 2000000
namespace Go.AL.SE
open Go Go.AL Go.AL.S Go.Proofs Go.Sort
/- slices.breakPatternsCmpFunc[umpire/graph.Edge] -/
def c_e83 : AC := (AC.seq (AC.reg [⟨some 13, .mov, [.t 2], none⟩,⟨some 14, .mov, [.t 1], none⟩,⟨some 15, .bin .sub, [.t 13, .t 14], none⟩,⟨some 8, .mov, [.t 15], none⟩]) (AC.seq (AC.reg [⟨some 16, .mov, [.t 8], none⟩,⟨some 17, .bin .geq, [.t 16, .c (.int .i64 8)], none⟩]) (AC.cond (.t 17) (AC.seq (AC.reg [⟨some 18, .mov, [.t 8], none⟩,⟨some 19, .conv .u64, [.t 18], none⟩,⟨some 9, .alloc [.int .u64 0], [], none⟩,⟨none, .store 1, [.t 9, .t 19], none⟩]) (AC.seq (AC.reg [⟨some 20, .mov, [.t 8], none⟩,⟨some 21, .call 188, [.t 20], none⟩,⟨some 10, .mov, [.t 21], none⟩]) (AC.seq (AC.reg [⟨some 22, .mov, [.t 1], none⟩,⟨some 23, .mov, [.t 8], none⟩,⟨some 24, .bin .quo, [.t 23, .c (.int .i64 4)], none⟩,⟨some 25, .bin .mul, [.t 24, .c (.int .i64 2)], none⟩,⟨some 26, .bin .add, [.t 22, .t 25], none⟩,⟨some 27, .bin .sub, [.t 26, .c (.int .i64 1)], none⟩,⟨some 11, .mov, [.t 27], none⟩]) (AC.block 0 (AC.loop (AC.seq (AC.seq (AC.reg [⟨some 28, .mov, [.t 11], none⟩,⟨some 29, .mov, [.t 1], none⟩,⟨some 30, .mov, [.t 8], none⟩,⟨some 31, .bin .quo, [.t 30, .c (.int .i64 4)], none⟩,⟨some 32, .bin .mul, [.t 31, .c (.int .i64 2)], none⟩,⟨some 33, .bin .add, [.t 29, .t 32], none⟩,⟨some 34, .bin .add, [.t 33, .c (.int .i64 1)], none⟩,⟨some 35, .bin .leq, [.t 28, .t 34], none⟩]) (AC.cond (.t 35) AC.skip (AC.exit 0))) (AC.seq (AC.block 1 (AC.seq (AC.reg [⟨some 38, .call 189, [.t 9], none⟩,⟨some 39, .mov, [.t 10], none⟩,⟨some 40, .bin .sub, [.t 39, .c (.int .u64 1)], none⟩,⟨some 41, .bin .and, [.t 38, .t 40], none⟩,⟨some 42, .conv .i64, [.t 41], none⟩,⟨some 12, .mov, [.t 42], none⟩]) (AC.seq (AC.seq (AC.reg [⟨some 43, .mov, [.t 12], none⟩,⟨some 44, .mov, [.t 8], none⟩,⟨some 45, .bin .geq, [.t 43, .t 44], none⟩]) (AC.cond (.t 45) (AC.reg [⟨some 46, .mov, [.t 12], none⟩,⟨some 47, .mov, [.t 8], none⟩,⟨some 48, .bin .sub, [.t 46, .t 47], none⟩,⟨some 12, .mov, [.t 48], none⟩]) AC.skip)) (AC.par (PT.step 0 ⟨some 49, .mov, [.t 0], none⟩ (PT.step 1 ⟨some 50, .mov, [.t 11], none⟩ (PT.step 2 ⟨some 51, .mov, [.t 0], none⟩ (PT.step 3 ⟨some 52, .mov, [.t 1], none⟩ (PT.step 4 ⟨some 53, .mov, [.t 12], none⟩ (PT.step 5 ⟨some 54, .bin .add, [.t 52, .t 53], none⟩ (PT.step 6 ⟨some 55, .mov, [.t 0], none⟩ (PT.step 7 ⟨some 56, .mov, [.t 1], none⟩ (PT.step 8 ⟨some 57, .mov, [.t 12], none⟩ (PT.step 9 ⟨some 58, .bin .add, [.t 56, .t 57], none⟩ (PT.step 12 ⟨some 61, .mov, [.t 0], none⟩ (PT.step 13 ⟨some 62, .mov, [.t 11], none⟩ (PT.step 10 ⟨some 59, .idxp 3, [.t 55, .t 58], none⟩ (PT.step 11 ⟨some 60, .load true 3, [.t 59], none⟩ (PT.step 14 ⟨some 63, .idxp 3, [.t 61, .t 62], none⟩ (PT.step 15 ⟨some 64, .load true 3, [.t 63], none⟩ (PT.step 16 ⟨some 65, .idxp 3, [.t 49, .t 50], none⟩ (PT.step 17 ⟨none, .store 3, [.t 65, .t 60], none⟩ (PT.step 18 ⟨some 66, .idxp 3, [.t 51, .t 54], none⟩ (PT.step 19 ⟨none, .store 3, [.t 66, .t 64], none⟩ PT.done)))))))))))))))))))))))) (AC.reg [⟨some 36, .mov, [.t 11], none⟩,⟨some 37, .bin .add, [.t 36, .c (.int .i64 1)], none⟩,⟨some 11, .mov, [.t 37], none⟩])))))))) AC.skip)))
def r_e83 : AC × List RT × Nat := (c_e83, [], 67)
theorem ok_e83e : compF Tryz.prog Tryz.f194 ⟨true, false, []⟩ = some r_e83 := by kernel_rfl
variable {E : Env}
/-- The world while patterns are broken: the array at r, the drawn number at p. -/
def pb (W : AW) (r p : Nat) (d : Array Ed) (x : UInt64) : AW := px (pv W r d) p x
theorem ldb {W : AW} {K : V → AW → Prop} {r p i : Nat} {d : Array Ed} {x : UInt64} (hp : r ≠ p) (h : i < d.size) : sem E (.load true 3) [.vptr r (i * 3)] (pb W r p d x) K = K d[i]!.V (pb W r p d x) :=
  sem_load_vec (s' := 3) (cells := cellsE d) (by simp [pb, px, pv, AW.put, hp]) (part_cellsE h)
theorem stb {W : AW} {K : V → AW → Prop} {r p i : Nat} {d : Array Ed} {x : UInt64} {v : Ed} (hp : r ≠ p) (h : i < d.size) : sem E (.store 3) [.vptr r (i * 3), v.V] (pb W r p d x) K = K .undef (pb W r p (d.setIfInBounds i v) x) := by
  have hg : (pb W r p d x).get r = some (.vec 3 (cellsE d)) := by simp [pb, px, pv, AW.put, hp]
  rw [sem_store_vec (s := 3) (x := v.V) hg rfl rfl (by rw [cellsE_len]; omega)]
  congr 1
  have h1 : i < d.toList.length := by simpa using h
  have e : (cellsE d).take (i * 3) ++ v.V.cells ++ (cellsE d).drop (i * 3 + 3) = cellsE (d.setIfInBounds i v) := by
    rw [cellsE, cellsE, Array.toList_setIfInBounds]
    exact cellsL_set h1
  rw [e]
  simp only [pb, px, pv, AW.put, AW.mk.injEq, and_true]
  funext z
  by_cases h1 : z = r
  · subst h1; simp [hp]
  · by_cases h2 : z = p
    · subst h2; simp [h1]
    · simp [h1, h2]
theorem bel_cE : ∀ (l : List Ed) (n : Nat), V.belL n (cellsL l) = true
  | [], _ => rfl
  | e :: l, n => by
    have := bel_cE l n
    simp only [cellsL, List.flatMap_cons, cE, List.cons_append, List.nil_append, V.belL, V.bel, Bool.true_and] at this ⊢
    exact this
def bsteps (a l m : Nat) : Nat → Nat → UInt64 × Array Ed → UInt64 × Array Ed
  | 0, _, st => st
  | k + 1, idx, st => bsteps a l m k (idx + 1) (breakStep a l m st idx)
theorem breakPatterns_eq (d : Array Ed) (a b : Nat) (h : b - a ≥ 8) : breakPatterns d a b = (bsteps a (b - a) (1 <<< bitsLen (b - a)) 3 (a + (b - a) / 4 * 2 - 1) (UInt64.ofNat (b - a), d)).2 := by
  simp only [breakPatterns, h, ↓reduceIte, bsteps]
theorem pv_ok {W : AW} {r : Nat} {d d' : Array Ed} (h : (pv W r d).ok) (hr : r < W.nx) : (pv W r d').ok := by
  intro x o hx
  by_cases e : x = r
  · subst e
    rw [pv_get] at hx
    cases hx
    refine ⟨hr, ?_⟩
    exact bel_cE _ _
  · have : (pv W r d).get x = some o := by
      simp only [pv, AW.put, e, ↓reduceIte] at hx ⊢
      exact hx
    exact h x o this
theorem breakPatterns_c (hP : E.P = Tryz.prog) (W : AW) (r n a b : Nat) (d : Array Ed) (hn : d.size = n) (hr : r < W.nx) (hab : a < b) (hb : b ≤ n) (hl : 8 ≤ b - a) (hsm : n < 4294967296) :
    ACalls E 194 [.slr r 0 n 3, .int .i64 a, .int .i64 b, (.fn (.func 109) [] [])] (pv W r d) fun X W' => X = .tuple [] ∧ W' = pv W r (breakPatterns d a b) := by
  refine ACalls.of hP Tryz.func194 ok_e83e (by simp) fun _ hok => ?_
  rw [breakPatterns_eq d a b hl]
  obtain ⟨l, hl'⟩ : ∃ l, l = b - a := ⟨_, rfl⟩
  rw [← hl']
  have hg8 : l ≥ 8 := by omega
  have hlm := lt_two_pow_bitsLen l
  have hlm2 := two_pow_bitsLen_le (n := l) (by omega)
  obtain ⟨m, hm⟩ : ∃ m, m = 1 <<< bitsLen l := ⟨_, rfl⟩
  have hm' : m = 2 ^ bitsLen l := by rw [hm, Nat.shiftLeft_eq, Nat.one_mul]
  rw [← hm'] at hlm hlm2
  rw [← hm]
  obtain ⟨W1, hW1⟩ : ∃ W1, W1 = W.alloc (.row [.int .u64 0]) := ⟨_, rfl⟩
  have hp : r ≠ W.nx := by omega
  have hA0 : (pv W r d).alloc (.row [.int .u64 0]) = px (pv W1 r d) W.nx 0 := by
    rw [hW1]
    simp only [px, pv, AW.alloc, AW.put, AW.mk.injEq, and_true]
    funext x
    by_cases h : x = W.nx
    · subst h; simp
    · by_cases h2 : x = r <;> simp [h, h2]
  have hst : ∀ K : V → AW → Prop, sem E (.store 1) [.ptr W.nx 0, .int .u64 (l : Int)] (px (pv W1 r d) W.nx 0) K = K .undef (pb W1 r W.nx d (UInt64.ofNat l)) := by
    intro K
    have := stx (E := E) (K := K) (A := pv W1 r d) (p := W.nx) (x := 0) (y := UInt64.ofNat l)
    rwa [ofNat_u64 (by omega)] at this
  have hback : ∀ d' x z, z < (pv W r d').nx → (pb W1 r W.nx d' x).get z = (pv W r d').get z := by
    intro d' x z hz
    rw [pv_nx] at hz
    rw [hW1]
    have h1 : z ≠ W.nx := by omega
    by_cases h2 : z = r <;> simp [pb, px, pv, AW.alloc, AW.put, h1, h2, hp]
  simp (maxSteps := 2000000) (disch := omega) only [c_e83, BS, BC, e_seq, cond_if, ↓reduceIte, Nat.reduceEqDiff, undef_t, wsub, ← hl', cge8, hg8, decide_true, un, pv_nx, hA0, hst]
  refine (nextPow_c hP _ l (by omega)).mono ?_
  rintro X W' ⟨rfl, rfl⟩
  rw [← hm]
  obtain ⟨i0, hi0⟩ : ∃ i0, i0 = a + l / 4 * 2 - 1 := ⟨_, rfl⟩
  simp (maxSteps := 2000000) (disch := omega) only [BS, BC, e_seq, ↓reduceIte, Nat.reduceEqDiff, quo4, wmulr2, wadd, wsub1, ← hi0]
  rw [e_loop]
  refine ALoop.go (B := awp E _) (fun h => awp_mono _ h) (fun (s : Nat × UInt64 × Array Ed) A1 W2 => A1 0 = some (.slr r 0 n 3) ∧ A1 3 = some (.fn (.func 109) [] []) ∧ A1 1 = some (.int .i64 a) ∧ A1 8 = some (.int .i64 l) ∧ A1 9 = some (.ptr W.nx 0) ∧ A1 10 = some (.int .u64 m) ∧ A1 11 = some (.int .i64 ((i0 + s.1 : Nat) : Int)) ∧
    W2 = pb W1 r W.nx s.2.2 s.2.1 ∧ s.1 ≤ 3 ∧ s.2.2.size = n ∧ bsteps a l m (3 - s.1) (i0 + s.1) s.2 = bsteps a l m 3 i0 (UInt64.ofNat l, d)) (fun s => 3 - s.1) (0, UInt64.ofNat l, d)
    ⟨rfl, rfl, rfl, rfl, rfl, rfl, rfl, rfl, by simp, hn, rfl⟩ ?_
  rintro ⟨t, x, d1⟩ A1 W2 ⟨g0, gc, g1, g6, g7, g8, g9, rfl, gt, gs, gb⟩ _
  simp only at g9 gt gs gb
  by_cases ht : t < 3
  · have hc : i0 + t ≤ a + l / 4 * 2 + 1 := by omega
    rw [show 3 - t = (3 - (t + 1)) + 1 by omega, bsteps] at gb
    simp (maxSteps := 2000000) (disch := omega) only [BS, BC, e_seq, cond_if, ↓reduceIte, Nat.reduceEqDiff, g1, g6, g7, g9, quo4, wmulr2, wadd, wadd1, cle, hc, decide_true]
    refine (next_c hP _ _ x).mono ?_
    rintro X W' ⟨rfl, rfl⟩
    obtain ⟨x', hx'⟩ : ∃ x', x' = xorNext x := ⟨_, rfl⟩
    obtain ⟨o, ho⟩ : ∃ o, o = x'.toNat &&& (m - 1) := ⟨_, rfl⟩
    have hol : o ≤ m - 1 := by rw [ho]; exact Nat.and_le_right
    rw [← hx']
    have hbs : breakStep a l m (x, d1) (i0 + t) = (x', swp d1 (i0 + t) (a + (if o ≥ l then o - l else o))) := by
      simp only [breakStep, ← hx', ← ho]
    rw [hbs] at gb
    have hpb : ∀ (d : Array Ed) (y : UInt64), px (pv W1 r d) W.nx y = pb W1 r W.nx d y := fun _ _ => rfl
    by_cases h1 : o ≥ l
    · rw [if_pos h1] at gb
      simp (disch := (try simp only [sz_set]) <;> omega) only [BS, e_seq, cond_if, ↓reduceIte, Nat.reduceEqDiff, reduceCtorEq, undef_t, g0, gc, g1, g6, g7, g8, g9, usub1, andx, ← ho, wn, cge, h1, decide_true, wsub, wadd, wadd1, ix, hpb, ldb, stb, sw]
      exact ⟨(t + 1, x', swp d1 (i0 + t) (a + (o - l))), ⟨trivial, trivial, trivial, trivial, trivial, trivial, rfl, rfl, by simp; omega, by simp [swp, gs], gb⟩, by simp; omega, Nat.le_refl _⟩
    · rw [if_neg h1] at gb
      simp (disch := (try simp only [sz_set]) <;> omega) only [BS, BC, e_seq, cond_if, ↓reduceIte, Nat.reduceEqDiff, reduceCtorEq, undef_t, g0, gc, g1, g6, g7, g8, g9, usub1, andx, ← ho, wn, cge, h1, decide_false, wadd, wadd1, ix, hpb, ldb, stb, sw]
      exact ⟨(t + 1, x', swp d1 (i0 + t) (a + o)), ⟨trivial, trivial, trivial, trivial, trivial, trivial, rfl, rfl, by simp; omega, by simp [swp, gs], gb⟩, by simp; omega, Nat.le_refl _⟩
  · have hc : ¬ i0 + t ≤ a + l / 4 * 2 + 1 := by omega
    have h3 : 3 - t = 0 := by omega
    rw [h3, bsteps] at gb
    simp (maxSteps := 2000000) (disch := omega) only [BS, BC, e_seq, cond_if, ↓reduceIte, Nat.reduceEqDiff, g1, g6, g9, quo4, wmulr2, wadd, wadd1, cle, hc, decide_false]
    exact ⟨_, rfl, _, _, .weak (weak_back (W := pv W r d1) (pv_ok hok hr) rfl (hback _ _)), Nat.le_refl _, rfl, by rw [← gb]⟩
end Go.AL.SE
set_option maxRecDepth 100000
set_option maxHeartbeats 2000000
namespace Go.AL.SE
open Go Go.AL Go.AL.S Go.Proofs Go.Sort
/- slices.pdqsortCmpFunc[umpire/graph.Edge] -/
def c_e54 : AC := (AC.seq (AC.reg [⟨some 10, .mov, [.c (.bool true)], none⟩]) (AC.seq (AC.reg [⟨some 11, .mov, [.c (.bool true)], none⟩]) (AC.block 0 (AC.loop (AC.block 1 (AC.seq (AC.reg [⟨some 21, .mov, [.t 2], none⟩,⟨some 22, .mov, [.t 1], none⟩,⟨some 23, .bin .sub, [.t 21, .t 22], none⟩,⟨some 12, .mov, [.t 23], none⟩]) (AC.seq (AC.seq (AC.reg [⟨some 24, .mov, [.t 12], none⟩,⟨some 25, .bin .leq, [.t 24, .c (.int .i64 12)], none⟩]) (AC.cond (.t 25) (AC.seq (AC.reg [⟨some 26, .mov, [.t 0], none⟩,⟨some 27, .mov, [.t 1], none⟩,⟨some 28, .mov, [.t 2], none⟩,⟨some 29, .mov, [.t 4], none⟩,⟨some 30, .call 192, [.t 26, .t 27, .t 28, .t 29], none⟩]) AC.ret) AC.skip)) (AC.seq (AC.seq (AC.reg [⟨some 31, .mov, [.t 3], none⟩,⟨some 32, .bin .eql, [.t 31, .c (.int .i64 0)], none⟩]) (AC.cond (.t 32) (AC.seq (AC.reg [⟨some 33, .mov, [.t 0], none⟩,⟨some 34, .mov, [.t 1], none⟩,⟨some 35, .mov, [.t 2], none⟩,⟨some 36, .mov, [.t 4], none⟩,⟨some 37, .call 193, [.t 33, .t 34, .t 35, .t 36], none⟩]) AC.ret) AC.skip)) (AC.seq (AC.seq (AC.reg [⟨some 38, .mov, [.t 10], none⟩,⟨some 39, .un .not, [.t 38], none⟩]) (AC.cond (.t 39) (AC.seq (AC.reg [⟨some 40, .mov, [.t 0], none⟩,⟨some 41, .mov, [.t 1], none⟩,⟨some 42, .mov, [.t 2], none⟩,⟨some 43, .mov, [.t 4], none⟩,⟨some 44, .call 194, [.t 40, .t 41, .t 42, .t 43], none⟩]) (AC.reg [⟨some 45, .mov, [.t 3], none⟩,⟨some 46, .bin .sub, [.t 45, .c (.int .i64 1)], none⟩,⟨some 3, .mov, [.t 46], none⟩])) AC.skip)) (AC.seq (AC.reg [⟨some 48, .mov, [.t 0], none⟩,⟨some 49, .mov, [.t 1], none⟩,⟨some 50, .mov, [.t 2], none⟩,⟨some 51, .mov, [.t 4], none⟩,⟨some 52, .call 195, [.t 48, .t 49, .t 50, .t 51], none⟩,⟨some 47, .mov, [.t 52], none⟩,⟨some 53, .ext 0, [.t 47], none⟩,⟨some 54, .ext 1, [.t 47], none⟩,⟨some 13, .mov, [.t 53], none⟩,⟨some 14, .mov, [.t 54], none⟩]) (AC.seq (AC.seq (AC.reg [⟨some 55, .mov, [.t 14], none⟩,⟨some 56, .bin .eql, [.t 55, .c (.int .i64 2)], none⟩]) (AC.cond (.t 56) (AC.seq (AC.reg [⟨some 57, .mov, [.t 0], none⟩,⟨some 58, .mov, [.t 1], none⟩,⟨some 59, .mov, [.t 2], none⟩,⟨some 60, .mov, [.t 4], none⟩,⟨some 61, .call 196, [.t 57, .t 58, .t 59, .t 60], none⟩]) (AC.seq (AC.reg [⟨some 62, .mov, [.t 2], none⟩,⟨some 63, .bin .sub, [.t 62, .c (.int .i64 1)], none⟩,⟨some 64, .mov, [.t 13], none⟩,⟨some 65, .mov, [.t 1], none⟩,⟨some 66, .bin .sub, [.t 64, .t 65], none⟩,⟨some 67, .bin .sub, [.t 63, .t 66], none⟩,⟨some 13, .mov, [.t 67], none⟩]) (AC.reg [⟨some 14, .mov, [.c (.int .i64 1)], none⟩]))) AC.skip)) (AC.seq (AC.seq (AC.reg [⟨some 68, .mov, [.t 10], none⟩,⟨some 69, .mov, [.t 68], none⟩,⟨some 70, .mov, [.t 11], (some (69, true))⟩,⟨some 71, .pick, [.t 69, .t 70, .c (.bool false)], none⟩,⟨some 72, .mov, [.t 71], none⟩,⟨some 73, .mov, [.t 14], (some (72, true))⟩,⟨some 74, .bin .eql, [.t 73, .c (.int .i64 1)], (some (72, true))⟩,⟨some 75, .pick, [.t 72, .t 74, .c (.bool false)], none⟩]) (AC.cond (.t 75) (AC.seq (AC.reg [⟨some 76, .mov, [.t 0], none⟩,⟨some 77, .mov, [.t 1], none⟩,⟨some 78, .mov, [.t 2], none⟩,⟨some 79, .mov, [.t 4], none⟩,⟨some 80, .call 197, [.t 76, .t 77, .t 78, .t 79], none⟩]) (AC.cond (.t 80) AC.ret AC.skip)) AC.skip)) (AC.seq (AC.seq (AC.par (PT.step 0 ⟨some 81, .mov, [.t 1], none⟩ (PT.step 1 ⟨some 82, .bin .gtr, [.t 81, .c (.int .i64 0)], none⟩ (PT.step 2 ⟨some 83, .mov, [.t 82], none⟩ (PT.step 3 ⟨some 84, .mov, [.t 4], (some (83, true))⟩ (PT.step 4 ⟨some 85, .mov, [.t 0], (some (83, true))⟩ (PT.step 5 ⟨some 86, .mov, [.t 1], (some (83, true))⟩ (PT.step 6 ⟨some 87, .bin .sub, [.t 86, .c (.int .i64 1)], (some (83, true))⟩ (PT.step 9 ⟨some 90, .mov, [.t 0], (some (83, true))⟩ (PT.step 10 ⟨some 91, .mov, [.t 13], (some (83, true))⟩ (PT.step 7 ⟨some 88, .idxp 3, [.t 85, .t 87], (some (83, true))⟩ (PT.step 8 ⟨some 89, .load true 3, [.t 88], (some (83, true))⟩ (PT.step 11 ⟨some 92, .idxp 3, [.t 90, .t 91], (some (83, true))⟩ (PT.step 12 ⟨some 93, .load true 3, [.t 92], (some (83, true))⟩ (PT.step 13 ⟨some 94, .callv, [.t 84, .t 89, .t 93], (some (83, true))⟩ (PT.step 14 ⟨some 95, .bin .lss, [.t 94, .c (.int .i64 0)], (some (83, true))⟩ (PT.step 15 ⟨some 96, .un .not, [.t 95], (some (83, true))⟩ (PT.step 16 ⟨some 97, .pick, [.t 83, .t 96, .c (.bool false)], none⟩ PT.done)))))))))))))))))) (AC.cond (.t 97) (AC.seq (AC.reg [⟨some 98, .mov, [.t 0], none⟩,⟨some 99, .mov, [.t 1], none⟩,⟨some 100, .mov, [.t 2], none⟩,⟨some 101, .mov, [.t 13], none⟩,⟨some 102, .mov, [.t 4], none⟩,⟨some 103, .call 198, [.t 98, .t 99, .t 100, .t 101, .t 102], none⟩,⟨some 15, .mov, [.t 103], none⟩]) (AC.seq (AC.reg [⟨some 104, .mov, [.t 15], none⟩,⟨some 1, .mov, [.t 104], none⟩]) (AC.exit 1))) AC.skip)) (AC.seq (AC.reg [⟨some 106, .mov, [.t 0], none⟩,⟨some 107, .mov, [.t 1], none⟩,⟨some 108, .mov, [.t 2], none⟩,⟨some 109, .mov, [.t 13], none⟩,⟨some 110, .mov, [.t 4], none⟩,⟨some 111, .call 199, [.t 106, .t 107, .t 108, .t 109, .t 110], none⟩,⟨some 105, .mov, [.t 111], none⟩,⟨some 112, .ext 0, [.t 105], none⟩,⟨some 113, .ext 1, [.t 105], none⟩,⟨some 16, .mov, [.t 112], none⟩,⟨some 17, .mov, [.t 113], none⟩]) (AC.seq (AC.reg [⟨some 114, .mov, [.t 17], none⟩,⟨some 11, .mov, [.t 114], none⟩]) (AC.seq (AC.reg [⟨some 115, .mov, [.t 16], none⟩,⟨some 116, .mov, [.t 1], none⟩,⟨some 117, .bin .sub, [.t 115, .t 116], none⟩,⟨some 118, .mov, [.t 2], none⟩,⟨some 119, .mov, [.t 16], none⟩,⟨some 120, .bin .sub, [.t 118, .t 119], none⟩,⟨some 18, .mov, [.t 117], none⟩,⟨some 19, .mov, [.t 120], none⟩]) (AC.seq (AC.reg [⟨some 121, .mov, [.t 12], none⟩,⟨some 122, .bin .quo, [.t 121, .c (.int .i64 8)], none⟩,⟨some 20, .mov, [.t 122], none⟩]) (AC.seq (AC.reg [⟨some 123, .mov, [.t 18], none⟩,⟨some 124, .mov, [.t 19], none⟩,⟨some 125, .bin .lss, [.t 123, .t 124], none⟩]) (AC.cond (.t 125) (AC.seq (AC.reg [⟨some 126, .mov, [.t 18], none⟩,⟨some 127, .mov, [.t 20], none⟩,⟨some 128, .bin .geq, [.t 126, .t 127], none⟩,⟨some 10, .mov, [.t 128], none⟩]) (AC.seq (AC.reg [⟨some 129, .mov, [.t 0], none⟩,⟨some 130, .mov, [.t 1], none⟩,⟨some 131, .mov, [.t 16], none⟩,⟨some 132, .mov, [.t 3], none⟩,⟨some 133, .mov, [.t 4], none⟩,⟨some 134, .call 164, [.t 129, .t 130, .t 131, .t 132, .t 133], none⟩]) (AC.reg [⟨some 135, .mov, [.t 16], none⟩,⟨some 136, .bin .add, [.t 135, .c (.int .i64 1)], none⟩,⟨some 1, .mov, [.t 136], none⟩]))) (AC.seq (AC.reg [⟨some 137, .mov, [.t 19], none⟩,⟨some 138, .mov, [.t 20], none⟩,⟨some 139, .bin .geq, [.t 137, .t 138], none⟩,⟨some 10, .mov, [.t 139], none⟩]) (AC.seq (AC.reg [⟨some 140, .mov, [.t 0], none⟩,⟨some 141, .mov, [.t 16], none⟩,⟨some 142, .bin .add, [.t 141, .c (.int .i64 1)], none⟩,⟨some 143, .mov, [.t 2], none⟩,⟨some 144, .mov, [.t 3], none⟩,⟨some 145, .mov, [.t 4], none⟩,⟨some 146, .call 164, [.t 140, .t 142, .t 143, .t 144, .t 145], none⟩]) (AC.reg [⟨some 147, .mov, [.t 16], none⟩,⟨some 2, .mov, [.t 147], none⟩]))))))))))))))))))))))
def r_e54 : AC × List RT × Nat := (c_e54, [], 148)
theorem ok_e54e : compF Tryz.prog Tryz.f164 ⟨true, false, []⟩ = some r_e54 := by kernel_rfl
variable {E : Env}
theorem partialIns_size (a b : Nat) : ∀ (s i : Nat) (d : Array Ed), (partialIns ltE a b s i d).1.size = d.size
  | 0, i, d => rfl
  | s + 1, i, d => by
    rw [partialIns_succ]
    split
    · rfl
    split
    · rfl
    rw [partialIns_size]
    unfold fixUp
    split
    · rw [shiftUp_size _ _ _ _ _ (Nat.le_refl _)]
      unfold fixDown
      split
      · rw [shiftDown_size]; simp [swp]
      · simp [swp]
    · unfold fixDown
      split
      · rw [shiftDown_size]; simp [swp]
      · simp [swp]
def pdqF (A : AFr) (r n a b lim : Nat) (wb wp : Bool) : Prop := A 0 = some (.slr r 0 n 3) ∧ A 4 = some (.fn (.func 109) [] []) ∧ A 1 = some (.int .i64 a) ∧ A 2 = some (.int .i64 b) ∧ A 3 = some (.int .i64 lim) ∧ A 10 = some (.bool wb) ∧ A 11 = some (.bool wp) ∧ A 12 = some (.int .i64 ((b - a : Nat) : Int))
theorem pdq_size : ∀ (m : Nat) (d : Array Ed) (a b limit : Nat) (wb wp : Bool), b - a < m → a ≤ b → b ≤ d.size → (pdq ltE d a b limit wb wp).size = d.size := by
  intro m
  induction m with
  | zero => intro d a b limit wb wp h; omega
  | succ m ih =>
  intro d a b limit wb wp hm hab hb
  rw [pdq]
  by_cases h12 : b - a ≤ 12
  · rw [if_pos h12]; exact (insertionSort_holds swo_ltE d a b hab hb).1.1
  rw [if_neg h12]
  by_cases h0 : limit = 0
  · rw [if_pos h0]; exact (heapSort_holds swo_ltE d a b hab hb).1.1
  rw [if_neg h0]
  obtain ⟨d2, hd2⟩ : ∃ d2, d2 = (if !wb then breakPatterns d a b else d) := ⟨_, rfl⟩
  obtain ⟨l2, hl2⟩ : ∃ l2, l2 = (if !wb then limit - 1 else limit) := ⟨_, rfl⟩
  simp only [← hd2, ← hl2]
  have gs2 : d2.size = d.size := by
    rw [hd2]; split
    · exact (breakPatterns_holds d a b hab hb).1
    · rfl
  obtain ⟨c, hc⟩ : ∃ c, c = choosePivot ltE d2 a b := ⟨_, rfl⟩
  have hcr := choosePivot_holds ltE d2 a b (by omega)
  rw [← hc] at hcr
  simp only [← hc]
  obtain ⟨d3, hd3⟩ : ∃ d3, d3 = (if c.2 = .decreasing then reverseRange d2 a b else d2) := ⟨_, rfl⟩
  obtain ⟨pv0, hpv0⟩ : ∃ pv0, pv0 = (if c.2 = .decreasing then (b - 1) - (c.1 - a) else c.1) := ⟨_, rfl⟩
  obtain ⟨hint, hhint⟩ : ∃ hint, hint = (if c.2 = .decreasing then Hint.increasing else c.2) := ⟨_, rfl⟩
  simp only [← hd3, ← hpv0, ← hhint]
  have gs3 : d3.size = d.size := by
    rw [hd3]; split
    · rw [(reverseRange_holds d2 a b hab (by omega)).1, gs2]
    · exact gs2
  have gpv : a ≤ pv0 ∧ pv0 < b := by rw [hpv0]; split <;> omega
  obtain ⟨pi, hpi⟩ : ∃ pi, pi = (if wb && wp && hint = .increasing then partialInsertionSort ltE d3 a b else (d3, false)) := ⟨_, rfl⟩
  simp only [← hpi]
  have gs4 : pi.1.size = d.size := by
    rw [hpi]; split
    · rw [partialInsertionSort, partialIns_size, gs3]
    · exact gs3
  split
  · exact gs4
  split
  · obtain ⟨pe, hpe'⟩ : ∃ pe, pe = partitionEqual ltE pi.1 a b pv0 := ⟨_, rfl⟩
    have hsp := partEqLoop_spec ltE a b _ (a + 1) (b - 1) (swp pi.1 a pv0) (Nat.le_refl _) (Nat.lt_succ_self a) (by omega) (by omega) (by rw [size_swp]; omega) (fun t h1 h2 => by omega) (fun t h1 h2 => by omega)
    have hpe : partitionEqual ltE pi.1 a b pv0 = partEqLoop ltE a (a + 1) (b - 1) (swp pi.1 a pv0) := rfl
    rw [← hpe, ← hpe'] at hsp
    simp only [← hpe']
    have hss : pe.2.size = d.size := by rw [hsp.2.2.1.1, size_swp, gs4]
    rw [dif_pos ⟨hsp.1, hsp.2.1⟩, ih _ _ _ _ _ _ (by omega) hsp.2.1 (by omega), hss]
  · have hsp := partition_holds ltE swo_ltE pi.1 a b pv0 gpv.1 gpv.2 (by omega)
    obtain ⟨pt, hpt⟩ : ∃ pt, pt = partition ltE pi.1 a b pv0 := ⟨_, rfl⟩
    rw [← hpt] at hsp
    simp only [← hpt]
    rw [dif_pos ⟨hsp.1, hsp.2.1⟩]
    have hss : pt.2.2.size = d.size := by rw [hsp.2.2.1.1, gs4]
    obtain ⟨t1, t2, t3, _⟩ := hsp
    split
    · have e := ih pt.2.2 a pt.1 l2 true true (by omega) t1 (by omega)
      exact (ih _ _ _ _ _ _ (by omega) (by omega) (by rw [e, hss]; exact hb)).trans (e.trans hss)
    · have e := ih pt.2.2 (pt.1 + 1) b l2 true true (by omega) (by omega) (by omega)
      exact (ih _ _ _ _ _ _ (by omega) t1 (by rw [e, hss]; omega)).trans (e.trans hss)
theorem pdq_c (hP : E.P = Tryz.prog) (n : Nat) (hsm : n < 4294967296) : ∀ (m : Nat) (W : AW) (r a b lim : Nat) (d : Array Ed), b - a < m → d.size = n → r < W.nx → a ≤ b → b ≤ n → lim < 1000 →
    ACalls E 164 [.slr r 0 n 3, .int .i64 a, .int .i64 b, .int .i64 lim, (.fn (.func 109) [] [])] (pv W r d) fun X W' => X = .tuple [] ∧ W' = pv W r (pdq ltE d a b lim true true) := by
  intro m
  induction m with
  | zero => intro W r a b lim d h; omega
  | succ m ih =>
  intro W r a b lim d hm hn hr hab hb hlim
  refine ACalls.of hP Tryz.func164 ok_e54e (by simp) fun _ hok => ?_
  simp (maxSteps := 2000000) (disch := omega) only [c_e54, BS, e_seq, e_loop]
  refine ALoop.go (B := awp E _) (fun h => awp_mono _ h) (fun (s : Nat × Nat × Nat × Bool × Bool × Array Ed) A1 W1 => A1 0 = some (.slr r 0 n 3) ∧ A1 4 = some (.fn (.func 109) [] []) ∧ A1 1 = some (.int .i64 s.1) ∧ A1 2 = some (.int .i64 s.2.1) ∧ A1 3 = some (.int .i64 s.2.2.1) ∧ A1 10 = some (.bool s.2.2.2.1) ∧ A1 11 = some (.bool s.2.2.2.2.1) ∧
    W1 = pv W r s.2.2.2.2.2 ∧ s.1 ≤ s.2.1 ∧ s.2.1 ≤ n ∧ s.2.1 - s.1 ≤ b - a ∧ s.2.2.1 < 1000 ∧ s.2.2.2.2.2.size = n ∧ pdq ltE s.2.2.2.2.2 s.1 s.2.1 s.2.2.1 s.2.2.2.1 s.2.2.2.2.1 = pdq ltE d a b lim true true) (fun s => s.2.1 - s.1) (a, b, lim, true, true, d)
    ⟨rfl, rfl, rfl, rfl, rfl, rfl, rfl, rfl, hab, hb, Nat.le_refl _, hlim, hn, rfl⟩ ?_
  rintro ⟨a1, b1, l1, wb, wp, d1⟩ A1 W1 ⟨g0, gc, g1, g2, g3, g8, g9, rfl, gab, gb, gm, gl, gs, gt⟩ _
  simp only at g1 g2 g3 g8 g9 gab gb gm gl gs gt
  rw [e_block]
  refine cutS (fun A' W' => pdqF A' r n a1 b1 l1 wb wp ∧ W' = pv W r d1) ?_ ?_
  · simp (maxSteps := 2000000) (disch := omega) only [BS, ↓reduceIte, Nat.reduceEqDiff, g1, g2, wsub]
    exact ⟨⟨g0, gc, g1, g2, g3, g8, g9, rfl⟩, trivial⟩
  rintro A2 W2 ⟨⟨q0, qc, q1, q2, q3, q8, q9, q10⟩, rfl⟩
  refine cutS (fun A' W' => (pdqF A' r n a1 b1 l1 wb wp ∧ W' = pv W r d1) ∧ ¬ b1 - a1 ≤ 12) ?_ ?_
  · by_cases h : b1 - a1 ≤ 12
    · rw [pdq, if_pos h] at gt
      simp (maxSteps := 2000000) (disch := omega) only [BS, BC, e_seq, cond_if, ↓reduceIte, Nat.reduceEqDiff, reduceCtorEq, q0, qc, q1, q2, q10, cle12, h, decide_true]
      refine (insertion_c hP W r n a1 b1 d1 gs gb (by omega) (by omega)).mono ?_
      rintro X W' ⟨rfl, rfl⟩
      simp only [BS]
      exact ⟨_, rfl, _, _, .weak weak_id, Nat.le_refl _, rfl, by rw [gt]⟩
    · simp (maxSteps := 2000000) (disch := omega) only [BS, BC, e_seq, cond_if, ↓reduceIte, q10, cle12, h, decide_false]
      exact ⟨⟨⟨q0, qc, q1, q2, q3, q8, q9, q10⟩, trivial⟩, not_false⟩
  rintro A3 W3 ⟨⟨⟨q0, qc, q1, q2, q3, q8, q9, q10⟩, rfl⟩, h12⟩
  rw [pdq, if_neg h12] at gt
  refine cutS (fun A' W' => (pdqF A' r n a1 b1 l1 wb wp ∧ W' = pv W r d1) ∧ ¬ l1 = 0) ?_ ?_
  · by_cases h : l1 = 0
    · rw [if_pos h] at gt
      simp (maxSteps := 2000000) (disch := omega) only [BS, BC, e_seq, cond_if, ↓reduceIte, Nat.reduceEqDiff, reduceCtorEq, q0, qc, q1, q2, q3, eq0, h, decide_true]
      refine (heapSort_c hP W r n a1 b1 d1 gs (by omega) gb (by omega)).mono ?_
      rintro X W' ⟨rfl, rfl⟩
      simp only [BS]
      exact ⟨_, rfl, _, _, .weak weak_id, Nat.le_refl _, rfl, by rw [gt]⟩
    · simp (maxSteps := 2000000) (disch := omega) only [BS, BC, e_seq, cond_if, ↓reduceIte, q3, eq0, h, decide_false]
      exact ⟨⟨⟨q0, qc, q1, q2, q3, q8, q9, q10⟩, trivial⟩, not_false⟩
  rintro A4 W4 ⟨⟨⟨q0, qc, q1, q2, q3, q8, q9, q10⟩, rfl⟩, hl0⟩
  rw [if_neg hl0] at gt
  obtain ⟨d2, hd2⟩ : ∃ d2, d2 = (if !wb then breakPatterns d1 a1 b1 else d1) := ⟨_, rfl⟩
  obtain ⟨l2, hl2⟩ : ∃ l2, l2 = (if !wb then l1 - 1 else l1) := ⟨_, rfl⟩
  have gs2 : d2.size = n := by
    rw [hd2]; split
    · rw [(breakPatterns_holds d1 a1 b1 gab (by omega)).1, gs]
    · exact gs
  have gl2 : l2 < 1000 := by rw [hl2]; split <;> omega
  refine cutS (fun A' W' => pdqF A' r n a1 b1 l2 wb wp ∧ W' = pv W r d2) ?_ ?_
  · cases wb
    · simp only [Bool.not_false, ↓reduceIte] at hd2 hl2
      simp (maxSteps := 2000000) (disch := omega) only [BS, BC, e_seq, cond_if, ↓reduceIte, Nat.reduceEqDiff, reduceCtorEq, q0, qc, q1, q2, q8, Bool.not_false]
      refine (breakPatterns_c hP W r n a1 b1 d1 gs hr (by omega) gb (by omega) (by omega)).mono ?_
      rintro X W' ⟨rfl, rfl⟩
      simp (maxSteps := 2000000) (disch := omega) only [BS, ↓reduceIte, Nat.reduceEqDiff, q3, wsub1, ← hd2, ← hl2]
      exact ⟨⟨q0, qc, q1, q2, rfl, q8, q9, q10⟩, trivial⟩
    · simp only [Bool.not_true, Bool.false_eq_true, ↓reduceIte] at hd2 hl2
      simp (maxSteps := 2000000) (disch := omega) only [BS, BC, e_seq, cond_if, ↓reduceIte, q8, Bool.not_true]
      rw [hd2, hl2]
      exact ⟨⟨q0, qc, q1, q2, q3, q8, q9, q10⟩, rfl⟩
  rintro A5 W5 ⟨⟨q0, qc, q1, q2, q3, q8, q9, q10⟩, rfl⟩
  simp only [← hd2, ← hl2] at gt
  obtain ⟨c, hc⟩ : ∃ c, c = choosePivot ltE d2 a1 b1 := ⟨_, rfl⟩
  have hcr := choosePivot_holds ltE d2 a1 b1 (by omega)
  rw [← hc] at hcr
  simp only [← hc] at gt
  refine cutS (fun A' W' => (pdqF A' r n a1 b1 l2 wb wp ∧ A' 13 = some (.int .i64 c.1) ∧ A' 14 = some (.int .i64 (hintN c.2))) ∧ W' = pv W r d2) ?_ ?_
  · simp only [BS, BC, ↓reduceIte, Nat.reduceEqDiff, q0, qc, q1, q2]
    refine (choosePivot_c hP W r n a1 b1 d2 gs2 hr (by omega) gb (by omega) (by omega)).mono ?_
    rintro X W' ⟨rfl, rfl⟩
    rw [← hc]
    simp (maxSteps := 2000000) (disch := omega) only [BS, ↓reduceIte, Nat.reduceEqDiff]
    exact ⟨⟨⟨q0, qc, q1, q2, q3, q8, q9, q10⟩, trivial, trivial⟩, trivial⟩
  rintro A6 W6 ⟨⟨⟨q0, qc, q1, q2, q3, q8, q9, q10⟩, q11, q12⟩, rfl⟩
  obtain ⟨d3, hd3⟩ : ∃ d3, d3 = (if c.2 = .decreasing then reverseRange d2 a1 b1 else d2) := ⟨_, rfl⟩
  obtain ⟨pv0, hpv0⟩ : ∃ pv0, pv0 = (if c.2 = .decreasing then (b1 - 1) - (c.1 - a1) else c.1) := ⟨_, rfl⟩
  obtain ⟨hint, hhint⟩ : ∃ hint, hint = (if c.2 = .decreasing then Hint.increasing else c.2) := ⟨_, rfl⟩
  simp only [← hd3, ← hpv0, ← hhint] at gt
  have gs3 : d3.size = n := by
    rw [hd3]; split
    · rw [(reverseRange_holds d2 a1 b1 gab (by omega)).1, gs2]
    · exact gs2
  have gpv : a1 ≤ pv0 ∧ pv0 < b1 := by rw [hpv0]; split <;> omega
  have hint2 : hint ≠ .decreasing := by rw [hhint]; split <;> simp_all
  refine cutS (fun A' W' => (pdqF A' r n a1 b1 l2 wb wp ∧ A' 13 = some (.int .i64 pv0) ∧ A' 14 = some (.int .i64 (hintN hint))) ∧ W' = pv W r d3) ?_ ?_
  · by_cases h : c.2 = .decreasing
    · simp only [h, ↓reduceIte] at hd3 hpv0 hhint
      simp (maxSteps := 2000000) (disch := omega) only [BS, BC, e_seq, cond_if, ↓reduceIte, Nat.reduceEqDiff, reduceCtorEq, q0, qc, q1, q2, q12, hintEq, h, decide_true]
      refine (reverseRange_c hP W r n a1 b1 d2 gs2 gb (by omega) (by omega)).mono ?_
      rintro X W' ⟨rfl, rfl⟩
      simp (maxSteps := 2000000) (disch := omega) only [BS, e_seq, ↓reduceIte, Nat.reduceEqDiff, q1, q2, q11, wsub, wsub1, ← hpv0, ← hd3]
      exact ⟨⟨⟨q0, qc, q1, q2, q3, q8, q9, q10⟩, trivial, by rw [hhint]; rfl⟩, trivial⟩
    · simp only [h, ↓reduceIte] at hd3 hpv0 hhint
      simp (maxSteps := 2000000) (disch := omega) only [BS, BC, e_seq, cond_if, ↓reduceIte, Nat.reduceEqDiff, q12, hintEq, h, decide_false]
      rw [hd3, hpv0, hhint]
      exact ⟨⟨⟨q0, qc, q1, q2, q3, q8, q9, q10⟩, q11, rfl⟩, rfl⟩
  rintro A7 W7 ⟨⟨⟨q0, qc, q1, q2, q3, q8, q9, q10⟩, q11, q12⟩, rfl⟩
  obtain ⟨pi, hpi⟩ : ∃ pi, pi = (if wb && wp && hint = .increasing then partialInsertionSort ltE d3 a1 b1 else (d3, false)) := ⟨_, rfl⟩
  simp only [← hpi] at gt
  have gs4 : pi.1.size = n := by
    rw [hpi]; split
    · rw [partialInsertionSort, partialIns_size, gs3]
    · exact gs3
  refine cutS (fun A' W' => ((pdqF A' r n a1 b1 l2 wb wp ∧ A' 13 = some (.int .i64 pv0)) ∧ W' = pv W r pi.1) ∧ pi.2 = false) ?_ ?_
  · by_cases h : (wb && wp && decide (hint = .increasing)) = true
    · rw [if_pos h] at hpi
      simp only [Bool.and_eq_true, decide_eq_true_eq] at h
      obtain ⟨⟨rfl, rfl⟩, hi⟩ := h
      simp (maxSteps := 2000000) (disch := omega) only [BS, BC, e_seq, cond_if, guard_if, ↓reduceIte, Nat.reduceEqDiff, reduceCtorEq, q0, qc, q1, q2, q8, q9, q12, hintEq1, hi, decide_true]
      refine (partialIns_c hP W r n a1 b1 d3 gs3 (by omega) gb (by omega)).mono ?_
      rintro X W' ⟨rfl, rfl⟩
      rw [← hpi]
      cases hp2 : pi.2 with
      | true =>
        rw [if_pos hp2] at gt
        simp only [BS, BC, cond_if, ↓reduceIte]
        exact ⟨_, rfl, _, _, .weak weak_id, Nat.le_refl _, rfl, by rw [gt]⟩
      | false =>
        simp only [BS, BC, cond_if, ↓reduceIte, Nat.reduceEqDiff]
        exact ⟨⟨⟨⟨q0, qc, q1, q2, q3, q8, q9, q10⟩, q11⟩, trivial⟩, trivial⟩
    · rw [if_neg h] at hpi
      have e1 : pi.1 = d3 := by rw [hpi]
      have e2 : pi.2 = false := by rw [hpi]
      rw [e1]
      cases wb
      · simp (maxSteps := 2000000) (disch := omega) only [BS, BC, e_seq, cond_if, guard_if, ↓reduceIte, Nat.reduceEqDiff, undef_t, q8]
        exact ⟨⟨⟨⟨q0, qc, q1, q2, q3, q8, q9, q10⟩, q11⟩, trivial⟩, e2⟩
      · cases wp
        · simp (maxSteps := 2000000) (disch := omega) only [BS, BC, e_seq, cond_if, guard_if, ↓reduceIte, Nat.reduceEqDiff, undef_t, q8, q9]
          exact ⟨⟨⟨⟨q0, qc, q1, q2, q3, q8, q9, q10⟩, q11⟩, trivial⟩, e2⟩
        · have hi : hint ≠ .increasing := fun e => h (by simp [e])
          simp (maxSteps := 2000000) (disch := omega) only [BS, BC, e_seq, cond_if, guard_if, ↓reduceIte, Nat.reduceEqDiff, q8, q9, q12, hintEq1, hi, decide_false]
          exact ⟨⟨⟨⟨q0, qc, q1, q2, q3, q8, q9, q10⟩, q11⟩, trivial⟩, e2⟩
  rintro A8 W8 ⟨⟨⟨⟨q0, qc, q1, q2, q3, q8, q9, q10⟩, q11⟩, rfl⟩, hp2⟩
  rw [if_neg (by simp [hp2])] at gt
  obtain ⟨d4, hd4⟩ : ∃ d4, d4 = pi.1 := ⟨_, rfl⟩
  rw [← hd4] at gs4 ⊢
  simp only [← hd4] at gt
  refine cutS (fun A' W' => ((pdqF A' r n a1 b1 l2 wb wp ∧ A' 13 = some (.int .i64 pv0)) ∧ W' = pv W r d4) ∧ (decide (a1 > 0) && !ltE d4[a1 - 1]! d4[pv0]!) = false) ?_ ?_
  · by_cases h0 : a1 > 0
    · have h0' : decide ((a1 : Int) > 0) = true := by simp; omega
      simp (maxSteps := 2000000) (disch := omega) only [BS, BC, e_seq, guard_if, ↓reduceIte, Nat.reduceEqDiff, reduceCtorEq, ed_frz, List.nil_append, List.append_nil, q0, qc, q1, q11, h0', wsub1, ix, ld]
      refine (less_c hP _ _ _).mono ?_
      rintro X W' ⟨rfl, rfl⟩
      by_cases h : d4[a1 - 1]! < d4[pv0]!
      · simp (maxSteps := 2000000) (disch := omega) only [BS, BC, cond_if, guard_if, ↓reduceIte, Nat.reduceEqDiff, cmp_lt, h, decide_true, Bool.not_true]
        exact ⟨⟨⟨⟨q0, qc, q1, q2, q3, q8, q9, q10⟩, q11⟩, trivial⟩, by simp [ltE, h]⟩
      · rw [if_pos (by simp [h0, ltE, h])] at gt
        have hsp := partEqLoop_spec ltE a1 b1 _ (a1 + 1) (b1 - 1) (swp d4 a1 pv0) (Nat.le_refl _) (Nat.lt_succ_self a1) (by omega) (by omega) (by rw [size_swp]; omega) (fun t h1 h2 => by omega) (fun t h1 h2 => by omega)
        have hpe : partitionEqual ltE d4 a1 b1 pv0 = partEqLoop ltE a1 (a1 + 1) (b1 - 1) (swp d4 a1 pv0) := rfl
        rw [← hpe] at hsp
        obtain ⟨pe, hpe'⟩ : ∃ pe, pe = partitionEqual ltE d4 a1 b1 pv0 := ⟨_, rfl⟩
        rw [← hpe'] at hsp
        simp only [← hpe'] at gt
        rw [dif_pos ⟨hsp.1, hsp.2.1⟩] at gt
        have hss : pe.2.size = n := by rw [hsp.2.2.1.1, size_swp, gs4]
        simp (maxSteps := 2000000) (disch := omega) only [BS, BC, e_seq, cond_if, guard_if, ↓reduceIte, Nat.reduceEqDiff, reduceCtorEq, cmp_lt, h, decide_false, Bool.not_false, q0, qc, q1, q2, q11]
        refine (partitionEqual_c hP W r n a1 b1 pv0 d4 gs4 (by omega) gb (by omega) (by omega)).mono ?_
        rintro X W' ⟨rfl, rfl⟩
        rw [← hpe']
        simp only [BS, e_seq, ↓reduceIte, Nat.reduceEqDiff, reduceCtorEq, q0, qc, q2, q3, q8, q9]
        exact ⟨(pe.1, b1, l2, wb, wp, pe.2), ⟨trivial, trivial, rfl, rfl, rfl, rfl, rfl, rfl, hsp.2.1, gb, by simp; omega, gl2, hss, gt⟩, by simp; omega, Nat.le_refl _⟩
    · have h0' : decide ((a1 : Int) > 0) = false := by simp; omega
      simp (maxSteps := 2000000) (disch := omega) only [BS, BC, e_seq, cond_if, guard_if, ↓reduceIte, Nat.reduceEqDiff, undef_t, q1, h0']
      exact ⟨⟨⟨⟨q0, qc, q1, q2, q3, q8, q9, q10⟩, q11⟩, trivial⟩, by simp [h0]⟩
  rintro A9 W9 ⟨⟨⟨⟨q0, qc, q1, q2, q3, q8, q9, q10⟩, q11⟩, rfl⟩, hne⟩
  rw [if_neg (by simp [hne])] at gt
  have hsp := partition_holds ltE swo_ltE d4 a1 b1 pv0 gpv.1 gpv.2 (by omega)
  obtain ⟨pt, hpt⟩ : ∃ pt, pt = partition ltE d4 a1 b1 pv0 := ⟨_, rfl⟩
  rw [← hpt] at hsp
  simp only [← hpt] at gt
  rw [dif_pos ⟨hsp.1, hsp.2.1⟩] at gt
  have hss : pt.2.2.size = n := by rw [hsp.2.2.1.1, gs4]
  obtain ⟨t1, t2, t3, _⟩ := hsp
  simp only [BS, BC, e_seq, ↓reduceIte, Nat.reduceEqDiff, q0, qc, q1, q2, q11]
  refine (partition_c hP W r n a1 b1 pv0 d4 gs4 (by omega) gb (by omega) (by omega)).mono ?_
  rintro X W' ⟨rfl, rfl⟩
  rw [← hpt]
  by_cases h : pt.1 - a1 < b1 - pt.1
  · rw [if_pos h] at gt
    simp (maxSteps := 2000000) (disch := omega) only [BS, BC, e_seq, cond_if, ↓reduceIte, Nat.reduceEqDiff, reduceCtorEq, q0, qc, q1, q2, q3, q10, wsub, quo8, clt, h, decide_true, cge]
    refine (ih W r a1 pt.1 l2 pt.2.2 (by omega) hss hr t1 (by omega) gl2).mono ?_
    rintro X W' ⟨rfl, rfl⟩
    simp (maxSteps := 2000000) (disch := omega) only [BS, ↓reduceIte, Nat.reduceEqDiff, reduceCtorEq, q0, qc, q2, q3, wadd1]
    exact ⟨(pt.1 + 1, b1, l2, decide (pt.1 - a1 ≥ (b1 - a1) / 8), pt.2.1, pdq ltE pt.2.2 a1 pt.1 l2 true true), ⟨trivial, trivial, rfl, rfl, rfl, rfl, rfl, rfl, by simp; omega, gb, by simp; omega, gl2, by rw [pdq_size _ _ _ _ _ _ _ (Nat.lt_succ_self _) (by omega) (by omega), hss], gt⟩, by simp; omega, Nat.le_refl _⟩
  · rw [if_neg h] at gt
    simp (maxSteps := 2000000) (disch := omega) only [BS, BC, e_seq, cond_if, ↓reduceIte, Nat.reduceEqDiff, reduceCtorEq, q0, qc, q1, q2, q3, q10, wsub, quo8, clt, h, decide_false, cge, wadd1]
    refine (ih W r (pt.1 + 1) b1 l2 pt.2.2 (by omega) hss hr (by omega) gb gl2).mono ?_
    rintro X W' ⟨rfl, rfl⟩
    simp (maxSteps := 2000000) (disch := omega) only [BS, ↓reduceIte, Nat.reduceEqDiff, reduceCtorEq, q0, qc, q1, q3]
    exact ⟨(a1, pt.1, l2, decide (b1 - pt.1 ≥ (b1 - a1) / 8), pt.2.1, pdq ltE pt.2.2 (pt.1 + 1) b1 l2 true true), ⟨trivial, trivial, rfl, rfl, rfl, rfl, rfl, rfl, t1, by simp; omega, by simp; omega, gl2, by rw [pdq_size _ _ _ _ _ _ _ (Nat.lt_succ_self _) (by omega) (by omega), hss], gt⟩, by simp; omega, Nat.le_refl _⟩
end Go.AL.SE
set_option maxRecDepth 100000
set_option maxHeartbeats 2000000
namespace Go.AL.SE
open Go Go.AL Go.AL.S Go.Proofs Go.Sort
/- slices.SortFunc[[]umpire/graph.Edge,umpire/graph.Edge] -/
def c_e45 : AC := (AC.seq (AC.reg [⟨some 5, .mov, [.t 0], none⟩,⟨some 6, .len 1 0, [.t 5], none⟩,⟨some 4, .mov, [.t 6], none⟩]) (AC.reg [⟨some 7, .mov, [.t 0], none⟩,⟨some 8, .mov, [.t 4], none⟩,⟨some 9, .mov, [.t 4], none⟩,⟨some 10, .conv .u64, [.t 9], none⟩,⟨some 11, .call 122, [.t 10], none⟩,⟨some 12, .mov, [.t 1], none⟩,⟨some 13, .call 164, [.t 7, .c (.int .i64 0), .t 8, .t 11, .t 12], none⟩]))
def r_e45 : AC × List RT × Nat := (c_e45, [], 14)
theorem ok_e45e : compF Tryz.prog Tryz.f124 ⟨true, false, []⟩ = some r_e45 := by kernel_rfl
variable {E : Env}
theorem sort_c (hP : E.P = Tryz.prog) (W : AW) (r n : Nat) (d : Array Ed) (hn : d.size = n) (hr : r < W.nx) (hsm : n < 4294967296) :
    ACalls E 124 [.slr r 0 n 3, (.fn (.func 109) [] [])] (pv W r d) fun X W' => X = .tuple [] ∧ W' = pv W r (sort ltE d) := by
  refine ACalls.of hP Tryz.func124 ok_e45e (by simp) fun _ hok => ?_
  have hb : bitsLen n ≤ 32 := (bitsLen_le_iff n 32).2 (by omega)
  simp (maxSteps := 2000000) (disch := omega) only [c_e45, BS, BC, e_seq, ↓reduceIte, Nat.reduceEqDiff, reduceCtorEq, un]
  refine (len_c hP _ n hsm).mono ?_
  rintro X W' ⟨rfl, rfl⟩
  simp only [BS, BC, ↓reduceIte, Nat.reduceEqDiff]
  refine (pdq_c hP n hsm (n + 1) W r 0 n (bitsLen n) d (by omega) hn hr (Nat.zero_le _) (Nat.le_refl _) (by omega)).mono ?_
  rintro X W' ⟨rfl, rfl⟩
  simp only [BS]
  exact ⟨_, rfl, _, _, .weak weak_id, Nat.le_refl _, rfl, by rw [sort, hn]⟩
end Go.AL.SE
set_option maxRecDepth 100000
set_option maxHeartbeats 2000000
namespace Go.AL.SE
open Go Go.AL Go.AL.S Go.Proofs Go.Sort
/- maps.Keys[map[umpire/graph.Edge]int,umpire/graph.Edge,int]$1 -/
def c_e46 : AC := (AC.seq (AC.reg [⟨some 4, .load false 1, [.t 1], none⟩,⟨some 5, .rangem, [.t 4], none⟩]) (AC.block 0 (AC.loop (AC.seq (AC.reg [⟨some 6, .nextm, [.t 5], none⟩,⟨some 7, .ext 0, [.t 6], none⟩]) (AC.seq (AC.cond (.t 7) AC.skip (AC.exit 0)) (AC.block 1 (AC.seq (AC.reg [⟨some 8, .entry, [.t 5], none⟩,⟨some 9, .ext 0, [.t 8], none⟩,⟨some 3, .alloc [.int .u16 0, .int .u16 0, .int .u8 0], [], none⟩,⟨none, .store 3, [.t 3, .t 9], none⟩]) (AC.seq (AC.reg [⟨some 10, .mov, [.t 0], none⟩,⟨some 11, .load true 3, [.t 3], none⟩,⟨some 12, .callv, [.t 10, .t 11], none⟩,⟨some 13, .un .not, [.t 12], none⟩]) (AC.cond (.t 13) AC.ret AC.skip)))))))))
def r_e46 : AC × List RT × Nat := (c_e46, [], 14)
theorem ok_e46e : compF Tryz.prog Tryz.f125 ⟨true, false, []⟩ = some r_e46 := by kernel_rfl
/- slices.AppendSeq[[]umpire/graph.Edge,umpire/graph.Edge] -/
def c_e53 : AC := (AC.seq (AC.reg [⟨some 2, .box, [.t 0], none⟩,⟨some 4, .mov, [.c (.nilsl)], none⟩]) (AC.seq (AC.seq (AC.reg [⟨some 6, .mov, [.t 1], none⟩]) (AC.block 0 (AC.rangef (.t 6) [7] (AC.reg [⟨some 5, .alloc [.int .u16 0, .int .u16 0, .int .u8 0], [], none⟩,⟨none, .store 3, [.t 5, .t 7], none⟩]) (AC.block 1 (AC.reg [⟨some 8, .load false 1, [.t 2], none⟩,⟨some 9, .load true 3, [.t 5], none⟩,⟨some 10, .bslice 3 1 (.agg [.int .u16 0, .int .u16 0, .int .u8 0]) [0], [.t 9], none⟩,⟨some 11, .appendx 3 6 [.int .u16 0, .int .u16 0, .int .u8 0], [.t 8, .t 10], none⟩,⟨none, .store 1, [.t 2, .t 11], none⟩]))))) (AC.seq (AC.reg [⟨some 12, .load false 1, [.t 2], none⟩,⟨some 4, .mov, [.t 12], none⟩]) AC.ret)))
def r_e53 : AC × List RT × Nat := (c_e53, [.tmp 4], 13)
theorem ok_e53e : compF Tryz.prog Tryz.f163 ⟨true, false, []⟩ = some r_e53 := by kernel_rfl
/- slices.Collect[umpire/graph.Edge] -/
def c_e44 : AC := (AC.seq (AC.reg [⟨some 2, .mov, [.c (.nilsl)], none⟩]) (AC.seq (AC.reg [⟨some 3, .mov, [.t 0], none⟩,⟨some 4, .call 163, [.c (.nilsl), .t 3], none⟩,⟨some 2, .mov, [.t 4], none⟩]) AC.ret))
def r_e44 : AC × List RT × Nat := (c_e44, [.tmp 2], 5)
theorem ok_e44e : compF Tryz.prog Tryz.f123 ⟨true, false, []⟩ = some r_e44 := by kernel_rfl
/- slices.SortedFunc[umpire/graph.Edge] -/
def c_e34 : AC := (AC.seq (AC.reg [⟨some 4, .mov, [.c (.nilsl)], none⟩]) (AC.seq (AC.reg [⟨some 6, .mov, [.t 0], none⟩,⟨some 7, .call 123, [.t 6], none⟩,⟨some 5, .mov, [.t 7], none⟩]) (AC.seq (AC.reg [⟨some 8, .mov, [.t 5], none⟩,⟨some 9, .mov, [.t 1], none⟩,⟨some 10, .call 124, [.t 8, .t 9], none⟩]) (AC.seq (AC.reg [⟨some 11, .mov, [.t 5], none⟩,⟨some 4, .mov, [.t 11], none⟩]) AC.ret))))
def r_e34 : AC × List RT × Nat := (c_e34, [.tmp 4], 12)
theorem ok_e34e : compF Tryz.prog Tryz.f107 ⟨true, false, []⟩ = some r_e34 := by kernel_rfl
/- maps.Keys[map[umpire/graph.Edge]int,umpire/graph.Edge,int] -/
def c_e35 : AC := (AC.seq (AC.reg [⟨some 1, .box, [.t 0], none⟩,⟨some 2, .mov, [.c (.nilfn)], none⟩]) (AC.seq (AC.reg [⟨some 3, .mkfn (.func 125) 0, [.t 1], none⟩,⟨some 2, .mov, [.t 3], none⟩]) AC.ret))
def r_e35 : AC × List RT × Nat := (c_e35, [.tmp 2], 4)
theorem ok_e35e : compF Tryz.prog Tryz.f108 ⟨true, false, []⟩ = some r_e35 := by kernel_rfl
variable {E : Env}
theorem insertion_nil (hP : E.P = Tryz.prog) (W : AW) : ACalls E 192 [.nilsl, .int .i64 0, .int .i64 0, (.fn (.func 109) [] [])] W fun X W' => X = .tuple [] ∧ W' = W := by
  refine ACalls.of hP Tryz.func192 ok_e81e (by simp) fun _ hok => ?_
  have h1 : IntKind.i64.wrap (0 + 1) = 1 := rfl
  have h2 : decide ((1 : Int) < 0) = false := by decide
  simp only [c_e81, BS, BC, e_seq, ↓reduceIte, h1, e_loop]
  refine ALoop.go (B := awp E _) (fun h => awp_mono _ h) (fun (s : Unit) A1 W1 => A1 2 = some (.int .i64 0) ∧ A1 8 = some (.int .i64 1) ∧ W1 = W) (fun s => 0) ()
    ⟨rfl, rfl, rfl⟩ ?_
  rintro _ A1 W1 ⟨g2, g6, rfl⟩ _
  simp only [BS, BC, e_seq, cond_if, ↓reduceIte, Nat.reduceEqDiff, g2, g6, h2]
  exact ⟨_, rfl, _, _, .weak weak_id, Nat.le_refl _, rfl, rfl⟩
theorem pdq_nil (hP : E.P = Tryz.prog) (W : AW) (lim : Nat) : ACalls E 164 [.nilsl, .int .i64 0, .int .i64 0, .int .i64 lim, (.fn (.func 109) [] [])] W fun X W' => X = .tuple [] ∧ W' = W := by
  refine ACalls.of hP Tryz.func164 ok_e54e (by simp) fun _ hok => ?_
  have h1 : IntKind.i64.wrap (0 - 0) = 0 := rfl
  have h2 : decide ((0 : Int) ≤ 12) = true := by decide
  simp only [c_e54, BS, e_seq, e_loop]
  refine ALoop.go (B := awp E _) (fun h => awp_mono _ h) (fun (s : Unit) A1 W1 => A1 0 = some .nilsl ∧ A1 4 = some (.fn (.func 109) [] []) ∧ A1 1 = some (.int .i64 0) ∧ A1 2 = some (.int .i64 0) ∧ W1 = W) (fun s => 0) ()
    ⟨rfl, rfl, rfl, rfl, rfl⟩ ?_
  rintro _ A1 W1 ⟨g0, gc, g1, g2, rfl⟩ _
  simp only [BS, BC, e_seq, cond_if, ↓reduceIte, Nat.reduceEqDiff, reduceCtorEq, g0, gc, g1, g2, h1, h2]
  refine (insertion_nil hP _).mono ?_
  rintro X W' ⟨rfl, rfl⟩
  simp only [BS]
  exact ⟨_, rfl, _, _, .weak weak_id, Nat.le_refl _, rfl, rfl⟩
theorem sort_nil (hP : E.P = Tryz.prog) (W : AW) : ACalls E 124 [.nilsl, (.fn (.func 109) [] [])] W fun X W' => X = .tuple [] ∧ W' = W := by
  refine ACalls.of hP Tryz.func124 ok_e45e (by simp) fun _ hok => ?_
  have h1 : IntKind.u64.wrap 0 = ((0 : Nat) : Int) := rfl
  simp only [c_e45, BS, BC, e_seq, ↓reduceIte, Nat.reduceEqDiff, reduceCtorEq, h1]
  refine (len_c hP _ 0 (by decide)).mono ?_
  rintro X W' ⟨rfl, rfl⟩
  simp only [BS, BC, ↓reduceIte, Nat.reduceEqDiff]
  refine (pdq_nil hP _ _).mono ?_
  rintro X W' ⟨rfl, rfl⟩
  simp only [BS]
  exact ⟨_, rfl, _, _, .weak weak_id, Nat.le_refl _, rfl, rfl⟩
def edOf (e : En) : Ed := match e.1 with
  | .agg [.int _ a, .int _ b, .int _ c] => ⟨a, b, c⟩
  | _ => ⟨0, 0, 0⟩
/-- maps.Keys' function, over edges: it hands out each key once, in any order. -/
theorem keysE_iter (hP : E.P = Tryz.prog) {W : AW} {y pb m clock : Nat} {es : List En} (hb : W.get pb = some (.row [.map m])) (hm : W.get m = some (.map es clock)) (hf : Fresh es clock) (hlt : m < W.nx) (_ : pb < W.nx)
    (hk : ∀ e ∈ es, e.1 = (edOf e).V) (J : List En → AW → Prop) (h0 : J [] (W.alloc (.iter (some m) clock [] clock)))
    (hJ : ∀ done W1, J done W1 → Cl W1 ∧ W.nx < W1.nx ∧ W1.get W.nx = some (.iter (some m) clock (stamps done) clock) ∧ W1.get m = some (.map es clock))
    (hmono : ∀ (vs : List V) (W1 : AW) (K K' : V → AW → Prop), (∀ v W', K v W' → K' v W') → E.yield y vs W1 K → E.yield y vs W1 K')
    (hy : ∀ done e W1, J done W1 → e ∈ es → e.2.2 ∉ stamps done → done.length < es.length → E.yield y [(edOf e).V] (X (W1.put W.nx (.iter (some m) clock (stamps done ++ [e.2.2]) clock)) W1.nx [.row (cE (edOf e))]) (fun Y W2 => Y = .bool true ∧ J (done ++ [e]) W2)) :
    ACalls E 125 [.yld y, .ptr pb 0] W fun Y W' => Y = .tuple [] ∧ ∃ done : List En, done.Perm es ∧ J done W' := by
  refine ACalls.of hP Tryz.func125 ok_e46e (by simp) fun _ hok => ?_
  have hl : partV [V.map m] 0 1 false = some (.map m) := rfl
  simp only [c_e46, BS, BC, e_seq, ↓reduceIte, sem_load_row hb hl, sem_rangem hm, e_loop]
  refine ALoop.go (B := awp E _) (fun h => awp_mono _ h) (fun (done : List En) A1 W1 => A1 0 = some (.yld y) ∧ A1 5 = some (.ptr W.nx 0) ∧ J done W1 ∧ (stamps done).Nodup ∧ ∀ e ∈ done, e ∈ es) (fun done => es.length - done.length) []
    ⟨rfl, rfl, h0, List.nodup_nil, by simp⟩ ?_
  rintro done A1 W1 ⟨g0, g5, gJ, gn, gs⟩ _
  obtain ⟨k0, k1, k2, k3⟩ := hJ _ _ gJ
  simp only [BS, BC, e_seq, cond_if, ↓reduceIte, Nat.reduceEqDiff, g5, sem_nextm k2 k3]
  refine ⟨?_, ?_, ?_⟩
  · cases es with
    | nil => exact .inr (.inl rfl)
    | cons e es => exact .inr (.inr ⟨e, by simp, hf.lt e (by simp)⟩)
  · intro hall
    refine ⟨_, rfl, _, _, .weak weak_id, Nat.le_of_lt k1, rfl, done, ?_, gJ⟩
    refine perm_of_mem (nodup_of_stamps gn) (nodup_of_stamps hf.nodup) fun x => ⟨gs x, fun hx => ?_⟩
    by_cases hm' : x.2.2 ∈ stamps done
    · obtain ⟨x', h1, h2⟩ := List.mem_map.1 hm'
      rwa [← same_stamp hf.nodup (gs x' h1) hx h2]
    · have := hall x hx hm'
      have := hf.lt x hx
      omega
  · intro e he hne
    have hlen : done.length < es.length := by
      have h1 := length_le_of_sub (l := done ++ [e]) (m := es) (nodup_of_stamps (by
          simp only [stamps, List.map_append, List.map_cons, List.map_nil]
          exact List.nodup_append.2 ⟨gn, by simp, fun a ha b hb => by
            rw [List.mem_singleton.1 hb]
            exact fun e' => hne (e' ▸ ha)⟩)) (fun x hx => by
            rcases List.mem_append.1 hx with hx | hx
            · exact gs x hx
            · rw [List.mem_singleton.1 hx]; exact he)
      simp at h1; omega
    obtain ⟨W2, hW2⟩ : ∃ W2, W2 = W1.put W.nx (.iter (some m) clock (stamps done ++ [e.2.2]) clock) := ⟨_, rfl⟩
    have hyv := hy done e W1 gJ he hne hlen
    rw [← hW2] at hyv ⊢
    have hn2 : W2.nx = W1.nx := by rw [hW2]; rfl
    have hC2 : Cl W2 := by rw [hW2]; exact k0.put k1
    have hne' : m ≠ W.nx := by omega
    have j1 : W2.get W.nx = some (.iter (some m) clock (stamps done ++ [e.2.2]) clock) := by rw [hW2, S.put_at]
    have j2 : W2.get m = some (.map es clock) := by rw [hW2, S.put_ne hne']; exact k3
    have j3 : (stamps done ++ [e.2.2]).getLast? = some e.2.2 := by simp
    rw [sem_entry j1 j2 j3 (Fresh.find hf.nodup he), hk e he]
    rw [← hn2] at hyv
    rw [hC2.start]
    simp (maxSteps := 2000000) (disch := omega) only [BS, BC, e_seq, ↓reduceIte, Nat.reduceEqDiff, reduceCtorEq, BM, BD, Nat.reduceAdd, Nat.reduceLeDiff, Nat.reduceLT, Ed.V, g0, sem_yield]
    refine hmono _ _ _ _ ?_ hyv
    rintro Y W3 ⟨rfl, gJ2⟩
    obtain ⟨l0, l1, l2, l3⟩ := hJ _ _ gJ2
    simp only [BS, BC, cond_if, ↓reduceIte, Nat.reduceEqDiff, reduceCtorEq, BD, g0, g5]
    refine ⟨done ++ [e], ⟨(by first | trivial | rfl | omega), (by first | trivial | rfl | omega), gJ2, ?_, ?_⟩, ?_, ?_⟩
    · simp only [stamps, List.map_append, List.map_cons, List.map_nil]
      exact List.nodup_append.2 ⟨gn, by simp, fun a ha b hb => by
        rw [List.mem_singleton.1 hb]
        exact fun e' => hne (e' ▸ ha)⟩
    · intro x hx
      rcases List.mem_append.1 hx with hx | hx
      · exact gs x hx
      · rw [List.mem_singleton.1 hx]; exact he
    · simp; omega
    · rw [alloc_nx]; omega
end Go.AL.SE
set_option maxRecDepth 100000
set_option maxHeartbeats 2000000
namespace Go.AL.SE
open Go Go.AL Go.AL.S Go.Proofs Go.Sort
variable {E : Env}
theorem bs3 {W : AW} {K : V → AW → Prop} {a b c : V} (_ : a.cells = [a]) (_ : b.cells = [b]) (_ : c.cells = [c]) : sem E (.bslice 3 1 (.agg [.int .u16 0, .int .u16 0, .int .u8 0]) [0]) [.agg [a, b, c]] W K = K (.sl 3 true [.agg [a, b, c]]) W := by
  simp [sem, rsem, tsem, fillE, V.cells]
theorem appxE_nil {W : AW} {K : V → AW → Prop} {by' : Nat} {z : List V} {v : V} (h : by' ≤ 2 ^ 46) : sem E (.appendx 3 by' z) [.nilsl, .sl 3 true [v]] W K = K (.slr W.nx 0 1 3) (W.alloc (.vec 3 v.cells)) := by
  simp [sem, elemsV, h]
theorem appxE_slr {W : AW} {K : V → AW → Prop} {by' r len : Nat} {z cells : List V} {v : V} (hg : W.get r = some (.vec 3 cells)) (hl : cells.length = len * 3) (hv : v.cells.all V.one = true) (h : (len + 1) * by' ≤ 2 ^ 46) :
    sem E (.appendx 3 by' z) [.slr r 0 len 3, .sl 3 true [v]] W K = K (.slr W.nx 0 (len + 1) 3) (W.move r (.vec 3 (cells ++ v.cells))) := by
  simp only [sem, elemsV, hg]
  simp [hl, hv, h]
theorem X_move {W : AW} {n r : Nat} {l : List AObj} {o : AObj} (h : r < n) : (X W n l).move r o = X (W.drop r) n (l ++ [o]) := by
  refine aw_ext (fun x => ?_) (by simp [AW.move, X, Nat.add_assoc])
  rw [X_gets]
  simp only [AW.move, X_nx, rf, X_gets, AW.drop]
  by_cases h1 : x = n + l.length
  · subst h1
    rw [if_pos rfl, if_neg (by omega)]
    simp
  · rw [if_neg h1]
    by_cases h2 : x = r
    · subst h2
      rw [if_pos rfl, if_pos h, if_pos rfl]
    · rw [if_neg h2]
      by_cases h3 : x < n
      · rw [if_pos h3, if_pos h3, if_neg h2]
      · rw [if_neg h3, if_neg h3, List.getElem?_append]
        split
        · rfl
        · rw [List.getElem?_eq_none (by omega), List.getElem?_eq_none (by simp; omega)]
theorem drop_ne {W : AW} {r x : Nat} (h : x ≠ r) : (W.drop r).get x = W.get x := by simp [AW.drop, h]
theorem cells_slr {r k l s : Nat} : (V.slr r k l s).cells = [.slr r k l s] := id rfl
theorem one_slr {r k l s : Nat} : (V.slr r k l s).one = true := id rfl
theorem collectE_c (hP : E.P = Tryz.prog) {W : AW} {pb m clock : Nat} {es : List En} (hb : W.get pb = some (.row [.map m])) (hm : W.get m = some (.map es clock)) (hf : Fresh es clock) (hpb : pb < W.nx) (hmlt : m < W.nx)
    (hk : ∀ e ∈ es, e.1 = (edOf e).V) (hsz : es.length < 2 ^ 40) :
    ACalls E 163 [.nilsl, .fn (.func 125) [] [.ptr pb 0]] W fun Y W' => ∃ done : List En, done.Perm es ∧ Ex W W' ∧
      ((done = [] ∧ Y = .nilsl) ∨ ∃ r, (W.nx ≤ r ∧ done ≠ []) ∧ r < W'.nx ∧ Y = .slr r 0 done.length 3 ∧ W'.get r = some (.vec 3 (cellsL (done.map edOf)))) := by
  refine ACalls.of hP Tryz.func163 ok_e53e (by simp) fun _ hok => ?_
  refine awp_start hok ?_
  simp only [c_e53, BS, BC, e_seq, ↓reduceIte, Nat.reduceEqDiff, BM, BD, awp_rangef']
  intro E' eP eG ey _
  have hP' : E'.P = Tryz.prog := eP.trans hP
  obtain ⟨W0, hW0⟩ : ∃ W0, W0 = X W W.nx [.row [.nilsl], .loop .ready none] := ⟨_, rfl⟩
  rw [← hW0]
  have hn0 : W0.nx = W.nx + 2 := by rw [hW0]; rfl
  have hE0 : Ex W W0 := by rw [hW0]; exact .x0
  have hq0 : W0.get (W.nx + 0) = some (.row [.nilsl]) := by rw [hW0]; exact X_get (k := 0)
  have hr0 : W0.get (W.nx + 1) = some (.loop .ready none) := by rw [hW0]; exact X_get (k := 1)
  have r0 : rf W.nx 0 = W.nx + 0 := rfl
  have r1 : rf W.nx 1 = W.nx + 1 := rfl
  refine (keysE_iter (E := E') hP' (W := W0) (y := rf W.nx 1) (pb := pb) (m := m) (clock := clock) (es := es) (by rw [hE0.get _ hpb]; exact hb) (by rw [hE0.get _ hmlt]; exact hm) hf (by omega) (by omega) hk
    (fun done W1 => Cl W1 ∧ W0.nx < W1.nx ∧ W1.get W0.nx = some (.iter (some m) clock (stamps done) clock) ∧ (∀ x, x < W.nx → W1.get x = W.get x) ∧ W1.get (W.nx + 1) = some (.loop .ready none) ∧
      ((done = [] ∧ W1.get (W.nx + 0) = some (.row [.nilsl])) ∨ ∃ r, (W0.nx < r ∧ done ≠ []) ∧ r < W1.nx ∧ W1.get (W.nx + 0) = some (.row [.slr r 0 done.length 3]) ∧ W1.get r = some (.vec 3 (cellsL (done.map edOf))))) ?_ ?_ (fun vs W1 K K' hh hy => E'.yieldMono _ _ _ _ _ hh hy) ?_).mono ?_
  · refine ⟨fun x hx => ?_, by rw [alloc_nx]; omega, by rw [alloc_at]; rfl, fun x hx => by rw [alloc_lt (by omega), hE0.get x hx], by rw [alloc_lt (by omega)]; exact hr0, .inl ⟨rfl, by rw [alloc_lt (by omega)]; exact hq0⟩⟩
    rw [alloc_nx] at hx
    rw [al_gets, if_neg (by omega)]
    exact hE0.cl x (by omega)
  · rintro done W1 ⟨j0, j1, j2, j3, j4, j5⟩
    exact ⟨j0, j1, j2, by rw [j3 m hmlt]; exact hm⟩
  · rintro done e W1 ⟨j0, j1, j2, j3, j4, j5⟩ he hne hlen
    apply ey
    have hst : ∀ (l : List En), stamps (l ++ [e]) = stamps l ++ [e.2.2] := fun l => by simp [stamps]
    refine ⟨by rw [X_old (by omega), put_ne (by omega)]; exact j4, rfl, ?_⟩
    rw [← r0] at j5
    rw [← r1] at j4
    have hcl : cellsL ([e].map edOf) = cE (edOf e) := by simp [cellsL]
    rcases j5 with ⟨rfl, j5⟩ | ⟨r, ⟨q1, q2⟩, q3, j5, q4⟩
    · simp (maxSteps := 2000000) (disch := omega) only [BS, BC, ↓reduceIte, Nat.reduceEqDiff, reduceCtorEq, BM, BD, Nat.reduceAdd, Nat.reduceLeDiff, Nat.reduceLT, e_puts1, e_endQ, Ed.V, cE, S.put_ne, S.put_at, j4, j5, bs3 cells_int cells_int cells_int, appxE_nil (by' := 6) (by decide), cells_slr, one_slr]
      refine ⟨trivial, trivial, trivial, Cl.X, (by first | omega | (simp only [rf]; omega) | (simp only [rf, X, List.length_cons, List.length_nil, Nat.zero_add]; omega) | (simp [rf, X]; omega)), ?_, fun x hx => ?_, ?_, .inr ⟨rf W1.nx 2, ⟨(by first | omega | (simp only [rf]; omega) | (simp only [rf, X, List.length_cons, List.length_nil, Nat.zero_add]; omega) | (simp [rf, X]; omega)), by simp⟩, by simp [rf], ?_, ?_⟩⟩
      · (try simp (maxSteps := 2000000) (disch := omega) only [X_old, S.put_ne, S.put_at]); rfl
      · (try simp (maxSteps := 2000000) (disch := omega) only [X_old, S.put_ne]); exact j3 x hx
      · rw [← r1]; simp (maxSteps := 2000000) (disch := omega) only [S.put_at]
      · show AW.get _ (rf W.nx 0) = _; (try simp (maxSteps := 2000000) (disch := omega) only [S.put_at]); (try rfl)
      · (try rw [X_get]); (try simp only [List.nil_append, hcl]); (try rfl)
    · have hcn : (cellsL (done.map edOf)).length = done.length * 3 := by rw [cellsL_len]; simp
      have happ : ∀ (o : List AObj) o1 o2 K (a b c : Int), sem E (.appendx 3 6 [.int .u16 0, .int .u16 0, .int .u8 0]) [.slr r 0 done.length 3, .sl 3 true [.agg [.int .u16 a, .int .u16 b, .int .u8 c]]] (X ((W1.put W0.nx o1).put (rf W.nx 1) o2) W1.nx o) K = K (.slr (rf W1.nx o.length) 0 (done.length + 1) 3) (X (((W1.put W0.nx o1).put (rf W.nx 1) o2).drop r) W1.nx (o ++ [.vec 3 (cellsL (done.map edOf) ++ [.int .u16 a, .int .u16 b, .int .u8 c])])) := fun o o1 o2 K a b c => by
        rw [appxE_slr (v := .agg [.int .u16 a, .int .u16 b, .int .u8 c]) (len := done.length) (cells := cellsL (done.map edOf)) (by rw [X_old q3, S.put_ne (by omega), S.put_ne (by omega)]; exact q4) hcn rfl (by omega), X_move q3]
        rfl
      have hdrop : ∀ (B : AW) x, x ≠ r → (B.drop r).get x = B.get x := fun B x hx => drop_ne hx
      simp (maxSteps := 2000000) (disch := omega) only [BS, BC, ↓reduceIte, Nat.reduceEqDiff, BM, BD, Nat.reduceAdd, Nat.reduceLeDiff, Nat.reduceLT, e_puts1, e_endQ, Ed.V, cE, S.put_ne, S.put_at, j4, j5, bs3 cells_int cells_int cells_int, happ, hdrop, cells_slr, one_slr]
      refine ⟨trivial, trivial, trivial, Cl.X, (by first | omega | (simp only [rf]; omega) | (simp only [rf, X, List.length_cons, List.length_nil, Nat.zero_add]; omega) | (simp [rf, X]; omega)), ?_, fun x hx => ?_, ?_, .inr ⟨rf W1.nx 2, ⟨(by first | omega | (simp only [rf]; omega) | (simp only [rf, X, List.length_cons, List.length_nil, Nat.zero_add]; omega) | (simp [rf, X]; omega)), by simp⟩, by simp [rf], ?_, ?_⟩⟩
      · (try simp (maxSteps := 2000000) (disch := omega) only [X_old, S.put_ne, S.put_at, hdrop]); rw [hst]
      · (try simp (maxSteps := 2000000) (disch := omega) only [X_old, S.put_ne, hdrop]); exact j3 x hx
      · rw [← r1]; simp (maxSteps := 2000000) (disch := omega) only [S.put_at]
      · show AW.get _ (rf W.nx 0) = _; simp (maxSteps := 2000000) (disch := omega) only [S.put_at]
      · (try rw [X_get]); simp only [List.map_append, cellsL, List.flatMap_append]; simp [cE]
  · rintro Y W1 ⟨rfl, done, hperm, j0, j1, j2, j3, j4, j5⟩
    rw [← r0] at j5
    rw [← r1] at j4
    simp only [doneQ, j4]
    have hC : Cl (W1.put (rf W.nx 1) (.loop .exhausted none)) := j0.put (by omega)
    have hx : ∀ x, x < W.nx → (W1.put (rf W.nx 1) (.loop .exhausted none)).get x = W.get x := fun x hx => by rw [S.put_ne (by omega)]; exact j3 x hx
    rcases j5 with ⟨rfl, j5⟩ | ⟨r, ⟨q1, q2⟩, q3, j5, q4⟩
    · simp (maxSteps := 2000000) (disch := omega) only [BS, BC, e_seq, ↓reduceIte, Nat.reduceEqDiff, BM, S.put_ne, j5]
      exact ⟨_, rfl, _, _, .weak weak_id, by rw [put_nx]; omega, [], hperm, ⟨hC, by rw [put_nx]; omega, hx⟩, .inl ⟨rfl, rfl⟩⟩
    · simp (maxSteps := 2000000) (disch := omega) only [BS, BC, e_seq, ↓reduceIte, Nat.reduceEqDiff, BM, S.put_ne, j5]
      exact ⟨_, rfl, _, _, .weak weak_id, by rw [put_nx]; omega, done, hperm, ⟨hC, by rw [put_nx]; omega, hx⟩, .inr ⟨r, ⟨by omega, q2⟩, by rw [put_nx]; exact q3, rfl, by rw [S.put_ne (by omega)]; exact q4⟩⟩
end Go.AL.SE
set_option maxRecDepth 100000
set_option maxHeartbeats 2000000
namespace Go.AL.S
open Go Go.AL Go.AL.SE Go.Proofs
/- slices.Clone[[]uint16,uint16] -/
def c_cloneX : AC := (AC.seq (AC.reg [⟨some 2, .mov, [.c (.nilsl)], none⟩]) (AC.seq (AC.seq (AC.reg [⟨some 3, .mov, [.t 0], none⟩,⟨some 4, .eqn false 1, [.t 3, .c (.nilsl)], none⟩]) (AC.cond (.t 4) (AC.seq (AC.reg [⟨some 2, .mov, [.c (.nilsl)], none⟩]) AC.ret) AC.skip)) (AC.seq (AC.reg [⟨some 5, .bslice 1 0 (.int .u16 0) [], [], none⟩,⟨some 6, .mov, [.t 0], none⟩,⟨some 7, .appendx 1 2 [.int .u16 0], [.t 5, .t 6], none⟩,⟨some 2, .mov, [.t 7], none⟩]) AC.ret)))
def r_cloneX : AC × List RT × Nat := (c_cloneX, [.tmp 2], 8)
theorem ok_cloneXe : compF Tryz.prog Tryz.f44 ⟨true, false, []⟩ = some r_cloneX := by kernel_rfl
/- (*umpire/order.Orders).Of -/
def c_ofX : AC := (AC.seq (AC.reg [⟨some 4, .mov, [.c (.nilsl)], none⟩]) (AC.seq (AC.reg [⟨some 5, .mov, [.t 0], none⟩,⟨some 6, .mov, [.t 1], none⟩,⟨some 7, .call 88, [.t 5, .t 6], none⟩,⟨some 8, .call 44, [.t 7], none⟩,⟨some 4, .mov, [.t 8], none⟩]) AC.ret))
def r_ofX : AC × List RT × Nat := (c_ofX, [.tmp 4], 9)
theorem ok_ofXe : compF Tryz.prog Tryz.f45 ⟨true, false, []⟩ = some r_ofX := by kernel_rfl
variable {E : Env}
/-! slices that grow, told to the letter -/
def slX (W : AW) (h : V) (l : List Int) (lo : Nat) : Prop := (h = .nilsl ∧ l = []) ∨ ∃ r, lo ≤ r ∧ r < W.nx ∧ h = .slr r 0 l.length 1 ∧ l ≠ [] ∧ W.get r = some (.vec 1 (intsV l))
theorem slX.len {W W1 : AW} {K : V → AW → Prop} {h : V} {l : List Int} {lo n : Nat} (hn : slX W h l lo) : sem E (.len 1 n) [h] W1 K = K (.int .i64 l.length) W1 := by
  rcases hn with ⟨rfl, rfl⟩ | ⟨r, _, _, rfl, _⟩ <;> rfl
theorem slX.cells1 {W : AW} {h : V} {l : List Int} {lo : Nat} (hn : slX W h l lo) : h.cells = [h] ∧ h.one = true := by
  rcases hn with ⟨rfl, rfl⟩ | ⟨r, _, _, rfl, _⟩ <;> exact ⟨rfl, rfl⟩
theorem slX.frz {W W1 : AW} {h : V} {l : List Int} {lo : Nat} (hn : slX W h l lo) : W1.frz h = h := by
  rcases hn with ⟨rfl, rfl⟩ | ⟨r, _, _, rfl, _⟩ <;> rfl
theorem slX.to {W W' : AW} {h : V} {l : List Int} {lo : Nat} (hn : slX W h l lo) (hx : W.nx ≤ W'.nx) (hg : ∀ x n, h = .slr x 0 n 1 → lo ≤ x → x < W.nx → W'.get x = W.get x) : slX W' h l lo := by
  rcases hn with hn | ⟨r, h1, h2, h3, h4, h5⟩
  · exact .inl hn
  · exact .inr ⟨r, h1, by omega, h3, h4, by rw [hg r _ h3 h1 h2]; exact h5⟩
theorem ints_one (l : List Int) : (intsV l).all V.one = true := by
  induction l with
  | nil => rfl
  | cons x l ih => simp only [intsV, List.map_cons, List.all_cons, Bool.and_eq_true]; exact ⟨rfl, ih⟩
theorem ints_flat (l : List Int) : (intsV l).flatMap V.cells = intsV l := by
  induction l with
  | nil => rfl
  | cons x l ih => simp only [intsV, List.map_cons, List.flatMap_cons] at ih ⊢; rw [ih]; rfl
theorem ints_ones (l : List Int) : ((intsV l).all fun y => y.cells.all V.one) = true := by
  induction l with
  | nil => rfl
  | cons x l ih => simp only [intsV, List.map_cons, List.all_cons, Bool.and_eq_true]; exact ⟨rfl, ih⟩
theorem ints_chunks (l : List Int) : ∀ n, n ≤ l.length → chunks 1 n (intsV l) = intsV (l.take n) := by
  induction l with
  | nil => intro n h; obtain rfl : n = 0 := by simpa using h
           rfl
  | cons x l ih =>
    intro n h
    cases n with
    | zero => rfl
    | succ n => simp only [chunks, intsV, List.map_cons, if_true, List.headD_cons, List.drop_succ_cons, List.drop_zero, List.take_succ_cons] at ih ⊢; rw [ih n (by simpa using h)]
theorem win_elems {W : AW} {r k n : Nat} {l : List Int} (hg : W.get r = some (.vec 1 (intsV l))) (h : k + n ≤ l.length) : elemsV 1 W (.slr r k n 1) = some (intsV ((l.drop k).take n)) := by
  have h1 : (k + n) * 1 ≤ (intsV l).length := by rw [ints_len]; omega
  have hd : (intsV l).drop (k * 1) = intsV (l.drop k) := by simp [intsV]
  have h2 : (((intsV l).drop (k * 1)).take (n * 1)).all V.one = true := by
    rw [hd, ints_take]; exact ints_one _
  simp only [elemsV, hg]
  rw [if_pos ⟨trivial, trivial, h1, h2⟩, hd, ints_chunks _ _ (by simp; omega)]
theorem app_slX {W : AW} {K : V → AW → Prop} {h y : V} {l m : List Int} {lo : Nat} (hn : slX W h l lo) (hy : elemsV 1 W y = some (intsV m)) (hC : Cl W) (hlo : lo ≤ W.nx) (hb : l.length + m.length < 2 ^ 40)
    (hk : ∀ h' W', slX W' h' (l ++ m) lo → Cl W' → W.nx ≤ W'.nx → (∀ x, x < W.nx → (∀ n, h ≠ .slr x 0 n 1) → W'.get x = W.get x) → (∀ x n, h' = .slr x 0 n 1 → W.nx ≤ x ∨ h = .slr x 0 n 1) → K h' W') : sem E (.appendx 1 2 [.int .u16 0]) [h, y] W K := by
  have hml := ints_len m
  rcases hn with ⟨rfl, rfl⟩ | ⟨r, h1, h2, rfl, h4, h5⟩
  · simp only [sem, hy]
    refine ⟨by decide, by rw [hml]; simp only [List.length_nil] at hb; omega, ?_⟩
    cases m with
    | nil => exact hk _ _ (.inl ⟨rfl, rfl⟩) hC (Nat.le_refl _) (fun x _ _ => rfl) (fun x n e => by cases e)
    | cons a m =>
      refine hk _ _ (.inr ⟨W.nx, hlo, by rw [alloc_nx]; omega, by rw [hml]; rfl, by simp, by rw [alloc_at, ints_flat]; rfl⟩) ?_ (by rw [alloc_nx]; omega) (fun x hx _ => alloc_lt hx) (fun x n e => by cases e; exact .inl (Nat.le_refl _))
      exact fun x hx => by rw [alloc_nx] at hx; rw [al_gets, if_neg (by omega)]; exact hC x (by omega)
  · simp only [sem, hy, h5]
    refine ⟨by decide, trivial, trivial, by rw [ints_len]; omega, by rw [hml]; omega, ints_ones m, ?_⟩
    cases m with
    | nil =>
      refine hk _ _ (.inr ⟨r, h1, h2, by simp, by simpa using h4, by rw [List.append_nil]; exact h5⟩) hC (Nat.le_refl _) (fun x _ _ => rfl) (fun x n e => .inr e)
    | cons a m =>
      have hm : (W.move r (.vec 1 ((intsV l).drop (0 * 1) ++ (intsV (a :: m)).flatMap V.cells))).get W.nx = some (.vec 1 (intsV (l ++ a :: m))) := by
        rw [move_at, ints_flat]; simp [intsV]
      refine hk _ _ (.inr ⟨W.nx, hlo, by rw [move_nx]; omega, by rw [hml]; simp, by simp, hm⟩) ?_ (by rw [move_nx]; omega) (fun x hx hne => move_ne (fun e => hne l.length (e ▸ rfl)) (by omega)) (fun x n e => by cases e; exact .inl (Nat.le_refl _))
      intro x hx
      rw [move_nx] at hx
      rw [move_ne (by omega) (by omega)]; exact hC x (by omega)
theorem Ex.alloc {W : AW} {o : AObj} (hC : Cl W) : Ex W (W.alloc o) := ⟨fun x hx => by rw [alloc_nx] at hx; rw [al_gets, if_neg (by omega)]; exact hC x (by omega), by rw [alloc_nx]; omega, fun x hx => alloc_lt hx⟩
theorem cloneX_c (hP : E.P = Tryz.prog) (W : AW) (l : List Int) (hl : l.length < 2 ^ 40) : ACalls E 44 [oV l] W fun Y W' => slX W' Y l W.nx ∧ Ex W W' := by
  refine ACalls.of hP Tryz.func44 ok_cloneXe (by simp) fun _ hok => ?_
  cases l with
  | nil =>
    simp only [oV, c_cloneX, BS, BC, e_seq, cond_if, ↓reduceIte, reduceCtorEq, eqn_nil]
    exact ⟨_, rfl, _, _, .weak weak_id, Nat.le_refl _, .inl ⟨rfl, rfl⟩, Ex.refl (ok_Cl hok)⟩
  | cons a l =>
    have ha : ∀ (W : AW) K, sem E (.appendx 1 2 [.int .u16 0]) [.sl 1 true [], .sl 1 false (intsV (a :: l))] W K = K (.slr W.nx 0 (a :: l).length 1) (W.alloc (.vec 1 (intsV (a :: l)))) := by
      intro W K
      have hf := ints_flat (a :: l)
      have hL := ints_len (a :: l)
      have he : (intsV (a :: l)).isEmpty = false := rfl
      have hbd : (0 + (a :: l).length) * 2 ≤ 2 ^ 46 := by omega
      simp only [sem, elemsV, List.nil_append, if_true, hf, hL, List.length_nil, he, hbd]
      simp
    have ho : oV (a :: l) = .sl 1 false (intsV (a :: l)) := if_neg (by simp)
    rw [ho]
    simp only [c_cloneX, BS, BC, e_seq, cond_if, ↓reduceIte, Nat.reduceEqDiff, reduceCtorEq, eqn_sl, sem_bslice0 (s := 1) (z := .int .u16 0) rfl, ha]
    exact ⟨_, rfl, _, _, .weak weak_id, by rw [alloc_nx]; omega, .inr ⟨W.nx, Nat.le_refl _, by rw [alloc_nx]; omega, rfl, by simp, alloc_at⟩, Ex.alloc (ok_Cl hok)⟩
theorem ofX_c (hP : E.P = Tryz.prog) (W : AW) {q : Nat} {o : Ods} (h : Od W q o) (k : Int) (h0 : 0 ≤ k) (h1 : k < 256) :
    ACalls E 45 [.ptr q 0, .int .u8 k] W fun Y W' => slX W' Y (keyO o k) W.nx ∧ Ex W W' := by
  refine ACalls.of hP Tryz.func45 ok_ofXe (by simp) fun _ hok => ?_
  simp (maxSteps := 200000) (disch := omega) only [BS, BC, e_seq, ↓reduceIte, Nat.reduceEqDiff, reduceCtorEq, c_ofX]
  refine pc (orderO_c hP W h k h0 h1) ?_
  have hl := (keyO_ok h k).1
  simp (maxSteps := 200000) (disch := omega) only [BS, BC, ↓reduceIte, (oV_isS (keyO o k)).frz]
  refine (cloneX_c hP W _ (by omega)).mono ?_
  rintro Y W' ⟨g1, g2⟩
  simp (maxSteps := 200000) (disch := omega) only [BS, BC, ↓reduceIte, g1.frz]
  exact ⟨_, rfl, _, _, .weak weak_id, g2.nx, g1, g2⟩
end Go.AL.S
set_option maxRecDepth 100000
set_option maxHeartbeats 2000000
namespace Go.AL.S
open Go Go.AL Go.Proofs
/- (umpire/graph.builder).writer -/
def c_writer : AC := (AC.seq (AC.reg [⟨some 3, .box, [.t 0], none⟩,⟨some 6, .mov, [.c (.int .u16 0)], none⟩,⟨some 7, .mov, [.c (.bool false)], none⟩]) (AC.seq (AC.reg [⟨some 11, .fld 0, [.t 3], none⟩,⟨some 12, .load false 1, [.t 11], none⟩,⟨some 13, .mov, [.t 1], none⟩,⟨some 14, .mov, [.t 2], none⟩,⟨some 15, .call 60, [.t 12, .t 13, .t 14], none⟩,⟨some 10, .mov, [.t 15], none⟩,⟨some 16, .ext 0, [.t 10], none⟩,⟨some 17, .ext 1, [.t 10], none⟩,⟨some 8, .alloc [.int .u16 0, .int .u8 0, .nilsl, .nilsl, .int .u8 0], [], none⟩,⟨none, .store 5, [.t 8, .t 16], none⟩,⟨some 9, .mov, [.t 17], none⟩]) (AC.seq (AC.par (PT.step 0 ⟨some 18, .fld 0, [.t 8], none⟩ (PT.step 2 ⟨some 20, .mov, [.t 9], none⟩ (PT.step 3 ⟨some 21, .mov, [.t 20], none⟩ (PT.step 1 ⟨some 19, .load false 1, [.t 18], none⟩ (PT.step 4 ⟨some 22, .load true 5, [.t 8], (some (21, true))⟩ (PT.step 5 ⟨some 23, .pcall 19, [.t 22], (some (21, true))⟩ (PT.step 6 ⟨some 24, .pick, [.t 21, .t 23, .c (.bool false)], none⟩ (PT.step 7 ⟨some 6, .mov, [.t 19], none⟩ (PT.step 8 ⟨some 7, .mov, [.t 24], none⟩ PT.done)))))))))) AC.ret)))
def r_writer : AC × List RT × Nat := (c_writer, [.tmp 6, .tmp 7], 25)
theorem ok_writere : compF Tryz.prog Tryz.f80 ⟨false, false, []⟩ = some r_writer := by kernel_rfl
/- (umpire/graph.builder).edge -/
def c_edge : AC := (AC.seq (AC.reg [⟨some 4, .box, [.t 0], none⟩]) (AC.seq (AC.reg [⟨some 8, .mov, [.t 1], none⟩,⟨some 9, .mov, [.t 2], none⟩,⟨some 10, .bin .neq, [.t 8, .t 9], none⟩]) (AC.cond (.t 10) (AC.par (PT.step 0 ⟨some 11, .fld 2, [.t 4], none⟩ (PT.step 5 ⟨some 16, .mov, [.t 1], none⟩ (PT.step 6 ⟨some 17, .mov, [.t 2], none⟩ (PT.step 7 ⟨some 18, .mov, [.t 3], none⟩ (PT.step 8 ⟨some 19, .build [.int .u16 0, .int .u16 0, .int .u8 0] [(0, 1), (1, 1), (2, 1)], [.t 16, .t 17, .t 18], none⟩ (PT.step 1 ⟨some 12, .load false 1, [.t 11], none⟩ (PT.step 2 ⟨some 13, .nilck, [.t 12], none⟩ (PT.step 3 ⟨some 14, .fld 1, [.t 13], none⟩ (PT.step 4 ⟨some 15, .load false 1, [.t 14], none⟩ (PT.alt (PT.step 9 ⟨some 20, .lookup (true, [.i .u16, .i .u16, .i .u8]) (.int .i64 0) false, [.t 15, .t 19], none⟩ (PT.step 10 ⟨some 21, .bin .add, [.t 20, .c (.int .i64 1)], none⟩ (PT.step 11 ⟨some 22, .ment (true, [.i .u16, .i .u16, .i .u8]) (.int .i64 0), [.t 15, .t 19], none⟩ (PT.step 12 ⟨some 23, .ext 1, [.t 22], none⟩ (PT.step 13 ⟨none, .mest, [.t 15, .t 23, .t 21], none⟩ PT.done))))) (PT.step 11 ⟨some 22, .ment (true, [.i .u16, .i .u16, .i .u8]) (.int .i64 0), [.t 15, .t 19], none⟩ (PT.step 12 ⟨some 23, .ext 1, [.t 22], none⟩ (PT.step 9 ⟨some 20, .lookup (true, [.i .u16, .i .u16, .i .u8]) (.int .i64 0) false, [.t 15, .t 19], none⟩ (PT.step 10 ⟨some 21, .bin .add, [.t 20, .c (.int .i64 1)], none⟩ (PT.step 13 ⟨none, .mest, [.t 15, .t 23, .t 21], none⟩ PT.done)))))))))))))))) AC.skip)))
def r_edge : AC × List RT × Nat := (c_edge, [], 24)
theorem ok_edgee : compF Tryz.prog Tryz.f81 ⟨false, false, []⟩ = some r_edge := by kernel_rfl
variable {E : Env}
/-! a graph's builder -/
def bV (p o g : Nat) : V := .agg [.ptr p 0, .ptr o 0, .ptr g 0]
def wrR (s : Str) (k v : Int) : Int × Bool := match who s k v with
  | some t => (t.id, decide (t.st ≠ 2))
  | none => (0, false)
theorem writer_c (hP : E.P = Tryz.prog) (W : AW) {p ra rw o g : Nat} {s : Str} (h : St W p ra rw s) (k v : Int) (h0 : 0 ≤ k) (h1 : k < 256) (h2 : 0 ≤ v) (h3 : v < 65536) :
    ACalls E 80 [bV p o g, .int .u8 k, .int .u16 v] W fun Y W' => Y = .tuple [.int .u16 (wrR s k v).1, .bool (wrR s k v).2] ∧ W' = W := by
  refine ACalls.of hP Tryz.func80 ok_writere (by simp [bV]) fun _ hok => ?_
  refine awp_start hok ?_
  simp only [c_writer, BS, BC, e_seq, ↓reduceIte, Nat.reduceEqDiff, BM, BD, bV]
  refine pc (who_c hP _ (h.ex .x0) k v h0 h1 h2 h3) ?_
  cases hw : who s k v with
  | none =>
    simp only [BS, BC, e_seq, guard_if, ↓reduceIte, Nat.reduceEqDiff, BM, BD, Nat.reduceAdd, Nat.reduceLeDiff, Nat.reduceLT, msV_one, lsV_one, Option.isSome_none, Option.getD_none, Tx.V, Tx.zero]
    exact ⟨_, rfl, _, W, backX hok rfl, Nat.le_refl _, by simp [wrR, hw], rfl⟩
  | some t =>
    have ht := h.ok.ok t (who_mem hw).1
    simp only [BS, BC, e_seq, guard_if, ↓reduceIte, Nat.reduceEqDiff, BM, BD, m_pcall, Nat.reduceAdd, Nat.reduceLeDiff, Nat.reduceLT, msV_one, lsV_one, Option.isSome_some, Option.getD_some, Tx.V]
    refine ⟨.bool (decide (t.st ≠ 2)), alive_c hP _ t, ?_⟩
    simp only [BS]
    exact ⟨_, rfl, _, W, backX hok rfl, Nat.le_refl _, by simp [wrR, hw], rfl⟩
end Go.AL.S
set_option maxRecDepth 100000
set_option maxHeartbeats 2000000
namespace Go.AL.S
open Go Go.AL Go.Proofs
theorem m_ment_old {E : Env} {W : AW} {K : V → AW → Prop} {sh : Bool × List SK} {z key : V} {r c : Nat} {es : List En} {e : En} (h : W.get r = some (.map es c)) (hk : keysOk sh key es) (hf : findK key es = some e) :
    sem E (.ment sh z) [.map r, key] W K = K (.tuple [e.2.1, .int .i64 e.2.2]) W := by
  simp only [sem, h, hf]
  exact propext ⟨fun h => h.2, fun h => ⟨hk, h⟩⟩
theorem m_ment_new {E : Env} {W : AW} {K : V → AW → Prop} {sh : Bool × List SK} {z key : V} {r c : Nat} {es : List En} (h : W.get r = some (.map es c)) (hk : keysOk sh key es) (hf : findK key es = none) :
    sem E (.ment sh z) [.map r, key] W K = K (.tuple [z, .int .i64 c]) (W.put r (.map (es ++ [(key, z, c)]) (c + 1))) := by
  simp only [sem, h, hf]
  exact propext ⟨fun h => h.2, fun h => ⟨hk, h⟩⟩
theorem m_mest {E : Env} {W : AW} {K : V → AW → Prop} {r c n : Nat} {ik : IntKind} {x : V} {es es' : List En} (h : W.get r = some (.map es c)) (hs : setS n x es = some es') :
    sem E .mest [.map r, .int ik n, x] W K = K .undef (W.put r (.map es' c)) := by
  simp only [sem, h, Int.toNat_natCast, hs]
  exact propext ⟨fun h => h.2, fun h => ⟨by omega, h⟩⟩
/-! how often an edge was made -/
abbrev Ek := Int × Int × Int
def ekV (e : Ek) : V := .agg [.int .u16 e.1, .int .u16 e.2.1, .int .u8 e.2.2]
def gFrom : Nat → List (Ek × Int) → List En
  | _, [] => []
  | n, x :: l => (ekV x.1, .int .i64 x.2, n) :: gFrom (n + 1) l
def getE (l : List (Ek × Int)) (k : Ek) : Option Int := (l.find? fun x => decide (x.1 = k)).map (·.2)
def setE (l : List (Ek × Int)) (k : Ek) (c : Int) : List (Ek × Int) := match l with
  | [] => []
  | x :: l => if x.1 = k then (k, c) :: l else x :: setE l k c
theorem gFrom_snoc (l : List (Ek × Int)) (x : Ek × Int) : ∀ n, gFrom n (l ++ [x]) = gFrom n l ++ [(ekV x.1, .int .i64 x.2, n + l.length)] := by
  induction l with
  | nil => intro n; rfl
  | cons y l ih => intro n; simp only [List.cons_append, gFrom, ih, List.length_cons]; rw [show n + 1 + l.length = n + (l.length + 1) by omega]
theorem ekV_keq (a b : Ek) : (ekV a).keq (ekV b) = decide (b = a) := by
  obtain ⟨a1, a2, a3⟩ := a
  obtain ⟨b1, b2, b3⟩ := b
  rw [Bool.eq_iff_iff]
  simp only [ekV, V.keq, V.cells, V.eqs, V.eq1, Bool.and_true, cmpeq, Bool.and_eq_true, decide_eq_true_eq, Prod.mk.injEq]
  constructor <;> (rintro ⟨h1, h2, h3⟩; exact ⟨h1.symm, h2.symm, h3.symm⟩)
theorem findK_g (k : Ek) (l : List (Ek × Int)) : ∀ n, match getE l k with
    | some c => ∃ i, findK (ekV k) (gFrom n l) = some (ekV k, .int .i64 c, i) ∧ ∀ c', setS i (.int .i64 c') (gFrom n l) = some (gFrom n (setE l k c'))
    | none => findK (ekV k) (gFrom n l) = none := by
  have hi : ∀ (l : List (Ek × Int)) n i (v : V), i < n → setS i v (gFrom n l) = none := by
    intro l
    induction l with
    | nil => intro _ _ _ _; rfl
    | cons x l ih => intro n i v h; simp only [gFrom, setS]; rw [if_neg (by omega), ih _ _ _ (by omega)]; rfl
  have hge : ∀ (l : List (Ek × Int)) n e, findK (ekV k) (gFrom n l) = some e → n ≤ e.2.2 := by
    intro l
    induction l with
    | nil => intro _ _ h; cases h
    | cons x l ih =>
      intro n e h
      simp only [gFrom, findK] at h
      split at h
      · cases h; exact Nat.le_refl _
      · have := ih _ _ h; omega
  induction l with
  | nil => intro n; rfl
  | cons x l ih =>
    intro n
    by_cases hx : x.1 = k
    · have : getE (x :: l) k = some x.2 := by simp [getE, hx]
      rw [this]
      refine ⟨n, ?_, fun c' => ?_⟩
      · simp only [gFrom, findK, ekV_keq, hx, decide_true, if_true]
      · simp only [gFrom, setS, setE, hx, if_true]
    · have : getE (x :: l) k = getE l k := by simp [getE, hx]
      rw [this]
      have h1 := ih (n + 1)
      have hf : findK (ekV k) (gFrom n (x :: l)) = findK (ekV k) (gFrom (n + 1) l) := by simp only [gFrom, findK, ekV_keq, hx, decide_false, Bool.false_eq_true, if_false]
      rw [hf]
      cases hg : getE l k with
      | none => rw [hg] at h1; exact h1
      | some c =>
        rw [hg] at h1
        obtain ⟨i, h2, h3⟩ := h1
        have := hge _ _ _ h2
        refine ⟨i, h2, fun c' => ?_⟩
        simp only [gFrom, setS, setE, if_neg hx]
        rw [if_neg (by simp only at this; omega), h3]
        rfl
end Go.AL.S
set_option maxRecDepth 100000
namespace Go.AL.S
open Go Go.AL Go.Proofs
variable {E : Env}
/-! acts -/
structure Ac where
  what : Int
  client : Int
  id : Int
  tx : V
  txl : List Mi
  rd : V
  rdl : List (Option (List Int))
def Ac.V (a : Ac) : V := .agg [.int .u8 a.what, .int .u8 a.client, .int .u16 a.id, a.tx, a.rd]
structure Ac.ok (a : Ac) : Prop where
  wh : 0 ≤ a.what ∧ a.what < 256
  cl : 0 ≤ a.client ∧ a.client < 256
  id : 0 ≤ a.id ∧ a.id < 65536
  tx : isMs a.tx a.txl
  rd : isLs a.rd a.rdl
  ms : ∀ m ∈ a.txl, m.ok
  ns : ∀ o ∈ a.rdl, ∀ n ∈ nums o, 0 ≤ n ∧ n < 65536
  bel : a.rd.bel 0 = true
theorem Ac.ok.rdS {a : Ac} (h : a.ok) : ∃ xs, isS 1 a.rd xs ∧ xs.length = a.rdl.length ∧ ∀ k (h : k < xs.length) (h' : k < a.rdl.length), isEl xs[k] a.rdl[k] := h.rd
def Ac.small (a : Ac) : Prop := a.txl.length ≤ 20 ∧ a.rdl.length ≤ 20 ∧ ∀ o ∈ a.rdl, (nums o).length ≤ 40
theorem ac_load1 {W : AW} {K : V → AW → Prop} {a : Ac} : sem E (.fld 3) [.cptr a.V.cells] W K = K (.cptr [a.tx, a.rd]) W := by
  simp [Ac.V, V.cells, sem, rsem, tsem]
theorem ac_load2 {W : AW} {K : V → AW → Prop} {a : Ac} : sem E (.fld 4) [.cptr a.V.cells] W K = K (.cptr [a.rd]) W := by
  simp [Ac.V, V.cells, sem, rsem, tsem]
structure Nw (W W' : AW) (p ra rw : Nat) (s : Str) : Prop where
  st : St W' p ra rw s
  ex : Ex W W'
  hp : W.nx ≤ p
  ha : W.nx ≤ ra
  hw : W.nx ≤ rw
theorem Fr.cl {W W' : AW} {p ra rw : Nat} (h : Fr W W' p ra rw) (hC : Cl W) (hp : p < W.nx) (ha : ra < W.nx) (hw : rw < W.nx) : Cl W' := by
  intro x hx
  rw [h.nx] at hx
  rw [h.get x (by omega) (by omega) (by omega)]
  exact hC x hx
theorem Nw.exx {W W1 W2 : AW} {p ra rw : Nat} {s : Str} (h : Nw W W1 p ra rw s) (h2 : Ex W1 W2) : Nw W W2 p ra rw s := ⟨h.st.ex h2, h.ex.trans h2, h.hp, h.ha, h.hw⟩
end Go.AL.S
set_option maxRecDepth 100000
namespace Go.AL.S
open Go Go.AL Go.Proofs
/-! a graph, in plain words -/
theorem snocInd {α : Type} {p : List α → Prop} (h0 : p []) (hs : ∀ l a, p l → p (l ++ [a])) (l : List α) : p l := by
  rw [← l.reverse_reverse]
  induction l.reverse with
  | nil => exact h0
  | cons a m ih => rw [List.reverse_cons]; exact hs _ _ ih
def bumpL (l : List (Ek × Int)) (k : Ek) : List (Ek × Int) := match getE l k with
  | some c => setE l k (c + 1)
  | none => l ++ [(k, 1)]
def tally (P : List Ek) : List (Ek × Int) := P.foldl bumpL []
theorem tally_snoc (P : List Ek) (k : Ek) : tally (P ++ [k]) = bumpL (tally P) k := by simp [tally]
theorem getE_set {l : List (Ek × Int)} {k : Ek} {c0 c : Int} (h : getE l k = some c0) (e : Ek) : getE (setE l k c) e = if e = k then some c else getE l e := by
  induction l with
  | nil => simp [getE] at h
  | cons x l ih =>
    by_cases hx : x.1 = k
    · simp only [setE, if_pos hx]
      by_cases he : e = k
      · subst he; simp [getE]
      · have h1 : ¬ k = e := fun h => he h.symm
        have h2 : ¬ x.1 = e := by rw [hx]; exact h1
        simp [getE, he, h1, h2]
    · simp only [setE, if_neg hx]
      have h' : getE l k = some c0 := by simpa [getE, hx] using h
      have := ih h'
      by_cases he : x.1 = e
      · have hek : ¬ e = k := by rw [← he]; exact hx
        simp [getE, he, hek]
      · have e1 : ∀ l', getE (x :: l') e = getE l' e := fun l' => by simp [getE, he]
        rw [e1, e1, this]
theorem getE_app {l : List (Ek × Int)} {k : Ek} (h : getE l k = none) (c : Int) (e : Ek) : getE (l ++ [(k, c)]) e = if e = k then some c else getE l e := by
  simp only [getE, List.find?_append] at h ⊢
  by_cases he : e = k
  · subst he
    have : (l.find? fun x => decide (x.1 = e)) = none := by simpa using h
    rw [this]; simp
  · have : ¬ k = e := fun h => he h.symm
    simp [he, this]
theorem getE_bump (l : List (Ek × Int)) (k e : Ek) : getE (bumpL l k) e = if e = k then some ((getE l k).getD 0 + 1) else getE l e := by
  unfold bumpL
  cases h : getE l k with
  | none => rw [getE_app h]; simp
  | some c => rw [getE_set h]; simp
theorem tally_get (P : List Ek) (e : Ek) : getE (tally P) e = if e ∈ P then some (P.count e : Int) else none := by
  refine snocInd (p := fun P => getE (tally P) e = if e ∈ P then some (P.count e : Int) else none) ?_ (fun P k ih => ?_) P
  · rfl
  · skip
    rw [tally_snoc, getE_bump]
    by_cases he : e = k
    · subst he
      rw [ih]
      by_cases hm : e ∈ P
      · simp [hm]
      · simp [hm, List.count_eq_zero_of_not_mem hm]
    · have : ¬ k = e := fun h => he h.symm
      rw [if_neg he, ih]
      simp [he, List.count_append, this]
def keysE (l : List (Ek × Int)) : List Ek := l.map (·.1)
theorem keys_set (l : List (Ek × Int)) (k : Ek) (c : Int) : keysE (setE l k c) = keysE l := by
  induction l with
  | nil => rfl
  | cons x l ih =>
    simp only [setE]
    split
    · rename_i h; simp [keysE, h]
    · simp only [keysE, List.map_cons] at ih ⊢; rw [ih]
theorem getE_mem {l : List (Ek × Int)} {k : Ek} : (getE l k).isSome = true ↔ k ∈ keysE l := by
  simp only [getE, keysE, Option.isSome_map, List.find?_isSome, List.mem_map, decide_eq_true_eq]
theorem tally_mem (P : List Ek) (k : Ek) : k ∈ keysE (tally P) ↔ k ∈ P := by
  rw [← getE_mem, tally_get]
  by_cases h : k ∈ P <;> simp [h]
theorem tally_len (P : List Ek) : (tally P).length ≤ P.length := by
  refine snocInd (p := fun P => (tally P).length ≤ P.length) ?_ (fun P k ih => ?_) P
  · exact Nat.le_refl _
  · skip
    rw [tally_snoc]
    unfold bumpL
    cases h : getE (tally P) k with
    | some c =>
      have := congrArg List.length (keys_set (tally P) k (c + 1))
      simp only [keysE, List.length_map] at this
      simp only [List.length_append, List.length_cons, List.length_nil]; omega
    | none => simp only [List.length_append, List.length_cons, List.length_nil]; omega
def edgeP (f t k : Int) : List Ek := if f = t then [] else [(f, t, k)]
def keyP (s : Str) (o : Ods) (k : Int) : List Ek := ((keyO o k).zip (keyO o k).tail).flatMap fun x => if (wrR s k x.1).2 = true ∧ (wrR s k x.2).2 = true then edgeP (wrR s k x.1).1 (wrR s k x.2).1 0 else []
abbrev Rd := Int × Option (List Int)
def countsR (s : Str) (o : Ods) (r : Rd) : Bool := begins (nums r.2) (keyO o r.1) && (nums r.2).all fun v => (who s r.1 v).isSome
def lastP (s : Str) (b : Int) (r : Rd) : List Ek := match (nums r.2).getLast? with
  | some v => if (wrR s r.1 v).2 = true then edgeP (wrR s r.1 v).1 b 1 else []
  | none => []
def nextP (s : Str) (o : Ods) (b : Int) (r : Rd) : List Ek := match (keyO o r.1)[(nums r.2).length]? with
  | some v => if (wrR s r.1 v).2 = true then edgeP b (wrR s r.1 v).1 2 else []
  | none => []
def readP (s : Str) (o : Ods) (b : Int) (r : Rd) : List Ek := lastP s b r ++ nextP s o b r
def txnP (s : Str) (o : Ods) (t : Tx) : List Ek := if t.st = 2 then [] else (readsR t).flatMap fun r => if countsR s o r = true then readP s o t.id r else []
def keysP (s : Str) (o : Ods) : List Ek := (List.range 8).flatMap fun (k : Nat) => keyP s o (k : Int)
def buildP (s : Str) (o : Ods) : List Ek := keysP s o ++ s.flatMap (txnP s o)
def nodesR (s : Str) : List Int := (s.filter fun t => decide (t.st ≠ 2)).map Tx.id
end Go.AL.S
set_option maxRecDepth 100000
namespace Go.AL.S
open Go Go.AL Go.Proofs
/-! acts on a store and its orders -/
def takesR (o : Ods) : List Rd → Ods × Bool
  | [] => (o, true)
  | r :: l => ((takesR (takeR o r.1 (nums r.2)).1 l).1, ((takeR o r.1 (nums r.2)).2.1 && decide ((takeR o r.1 (nums r.2)).2.2 = 0)) && (takesR (takeR o r.1 (nums r.2)).1 l).2)
def w6 (a : Ac) : Int := a.what.tmod 6
def actG (s : Str) (o : Ods) (a : Ac) : Str × Ods × Int × Bool :=
  if w6 a = 2 ∨ w6 a = 3 then
    if (commitR s a.id a.rdl).2 = 0 then ((commitR s a.id a.rdl).1, (takesR o (readsR ((find (commitR s a.id a.rdl).1 a.id).getD Tx.zero))).1, 0, (takesR o (readsR ((find (commitR s a.id a.rdl).1 a.id).getD Tx.zero))).2)
    else ((commitR s a.id a.rdl).1, o, (commitR s a.id a.rdl).2, true)
  else if w6 a = 4 then ((endR s a.id 2).1, o, (endR s a.id 2).2, true)
  else if w6 a = 5 then ((endR s a.id 3).1, o, (endR s a.id 3).2, true)
  else ((beginR s a.client a.id a.txl).1, o, (beginR s a.client a.id a.txl).2, true)
theorem begins_iff {a b : List Int} : begins a b = true ↔ a <+: b := by
  simp only [begins, Bool.and_eq_true, decide_eq_true_eq]
  constructor
  · rintro ⟨_, h⟩; rw [h]; exact List.take_prefix _ _
  · intro h; exact ⟨h.length_le, List.prefix_iff_eq_take.1 h⟩
/-! what ends do, transaction by transaction -/
def mapId (s : Str) (i : Int) (f : Tx → Tx) : Str := s.map fun t => if t.id = i then f t else t
theorem mapId_same {s : Str} {i : Int} {f : Tx → Tx} (h : ∀ t ∈ s, t.id = i → f t = t) : mapId s i f = s := by
  unfold mapId
  conv => rhs; rw [← List.map_id s]
  refine List.map_congr_left fun t ht => ?_
  split
  · rename_i e; exact h t ht e
  · rfl
theorem upd_mapId : ∀ {s : Str} {t x : Tx} {f : Tx → Tx}, (s.Pairwise fun a b => a.id < b.id) → t ∈ s → x.id = t.id → f t = x → upd s x = mapId s t.id f
  | [], _, _, _, _, h, _, _ => by simp at h
  | y :: s, t, x, f, hs, ht, hi, hf => by
    have hp := List.pairwise_cons.1 hs
    by_cases e : y.id = x.id
    · have hy : y = t := by
        rcases List.mem_cons.1 ht with h | h
        · exact h.symm
        · have := hp.1 t h; omega
      subst hy
      have : mapId s y.id f = s := mapId_same fun z hz e' => by have := hp.1 z hz; omega
      simp only [upd, if_pos e, mapId, List.map_cons, if_true] at this ⊢
      rw [this, hf]
    · have ht' : t ∈ s := by
        rcases List.mem_cons.1 ht with h | h
        · subst h; exact absurd hi.symm e
        · exact h
      have := upd_mapId hp.2 ht' hi hf
      have hne : ¬ y.id = t.id := by rw [← hi]; exact e
      simp only [upd, if_neg e, mapId, List.map_cons, if_neg hne] at this ⊢
      rw [this]
theorem find_mapId {s : Str} {i j : Int} {f : Tx → Tx} (hf : ∀ t, (f t).id = t.id) : find (mapId s i f) j = (find s j).map fun t => if t.id = i then f t else t := by
  induction s with
  | nil => rfl
  | cons t s ih =>
    have hi : (if t.id = i then f t else t).id = t.id := by split <;> simp [hf]
    simp only [find, mapId, List.map_cons, List.find?_cons, hi] at ih ⊢
    by_cases e : t.id = j
    · simp [e]
    · simp only [decide_eq_false e]; exact ih
def comT (ls : List (Option (List Int))) (t : Tx) : Tx := if t.st = 0 ∧ okC ls = true ∧ reads t.ms = ls.length then { t with st := 1, ls := ls } else t
theorem comT_id (ls : List (Option (List Int))) (t : Tx) : (comT ls t).id = t.id := by unfold comT; split <;> rfl
theorem find_in {s : Str} {i : Int} {t : Tx} (h : find s i = some t) : t ∈ s ∧ t.id = i := by
  have h1 := List.mem_of_find?_eq_some h
  have h2 := List.find?_some h
  exact ⟨h1, by simpa using h2⟩
theorem find_uniq {s : Str} (hs : s.Pairwise fun a b => a.id < b.id) {i : Int} {x : Tx} (hx : x ∈ s) (hi : x.id = i) : find s i = some x := by
  rw [← hi]; exact find_self hs hx
theorem commitR_map {s : Str} (hs : s.Pairwise fun a b => a.id < b.id) (i : Int) (ls : List (Option (List Int))) : (commitR s i ls).1 = mapId s i (comT ls) := by
  unfold commitR
  cases hf : find s i with
  | none =>
    refine (mapId_same fun t ht e => ?_).symm
    rw [find_uniq hs ht e] at hf; cases hf
  | some t =>
    obtain ⟨h1, h2⟩ := find_in hf
    by_cases hc : t.st = 0 ∧ okC ls = true ∧ reads t.ms = ls.length
    · obtain ⟨c1, c2, c3⟩ := hc
      simp only [if_pos c1, if_pos c2, if_pos c3]
      rw [← h2]
      exact upd_mapId (x := { t with st := 1, ls := ls }) hs h1 rfl (by simp only [comT, if_pos (And.intro c1 (And.intro c2 c3))])
    · have : (if t.st = 0 then (if okC ls = true then (if reads t.ms = ls.length then (upd s { t with st := 1, ls := ls }, (0 : Int)) else (s, 10)) else (s, 4)) else (s, 7)).1 = s := by
        by_cases c1 : t.st = 0
        · by_cases c2 : okC ls = true
          · by_cases c3 : reads t.ms = ls.length
            · exact absurd ⟨c1, c2, c3⟩ hc
            · simp only [if_pos c1, if_pos c2, if_neg c3]
          · simp only [if_pos c1, if_neg c2]
        · simp only [if_neg c1]
      simp only [this]
      refine (mapId_same fun x hx e => ?_).symm
      rw [find_uniq hs hx e] at hf; cases hf
      simp only [comT, if_neg hc]
theorem commitR_ok {s : Str} {i : Int} {ls : List (Option (List Int))} : (commitR s i ls).2 = 0 ↔ ∃ t, find s i = some t ∧ t.st = 0 ∧ okC ls = true ∧ reads t.ms = ls.length := by
  unfold commitR
  cases hf : find s i with
  | none => simp
  | some t =>
    by_cases c1 : t.st = 0
    · by_cases c2 : okC ls = true
      · by_cases c3 : reads t.ms = ls.length
        · simp [c1, c2, c3]
        · simp [c1, c2, c3]
      · simp [c1, c2]
    · simp [c1]
end Go.AL.S
set_option maxRecDepth 100000
namespace Go.AL.S
open Go Go.AL Go.Proofs
/-! GraphTold: ends in two orders -/
theorem takesR_nil (o : Ods) : takesR o [] = (o, true) := rfl
theorem takesR_app (o : Ods) (l m : List Rd) : takesR o (l ++ m) = ((takesR (takesR o l).1 m).1, (takesR o l).2 && (takesR (takesR o l).1 m).2) := by
  induction l generalizing o with
  | nil => simp [takesR]
  | cons r l ih => simp only [List.cons_append, takesR, ih, Bool.and_assoc]
theorem rk_mem {l : List Mi} {k : Int} (h : k ∈ rkeys l) : ∃ m ∈ l, m.key = k := by
  simp only [rkeys, List.mem_map, List.mem_filter] at h
  obtain ⟨m, ⟨h1, _⟩, h2⟩ := h
  exact ⟨m, h1, h2⟩
theorem readsR_key {t : Tx} (h : ∀ m ∈ t.ms, m.ok) : ∀ r ∈ readsR t, 0 ≤ r.1 ∧ r.1 < 256 := by
  intro r hr
  unfold readsR at hr
  split at hr
  · simp at hr
  · obtain ⟨m, h1, h2⟩ := rk_mem (List.of_mem_zip (a := r.1) (b := r.2) hr).1
    rw [← h2]; exact ⟨(h m h1).1, (h m h1).2.1⟩
end Go.AL.S
set_option maxRecDepth 100000
namespace Go.AL.S
open Go Go.AL Go.Proofs
/-! GraphGrows: what one act makes of a graph -/
theorem mem_edgeP {f t k : Int} {x : Ek} : x ∈ edgeP f t k ↔ f ≠ t ∧ x = (f, t, k) := by
  unfold edgeP
  split
  · rename_i h; simp [h]
  · rename_i h; simp [h]
theorem mem_lastP {s : Str} {b : Int} {r : Rd} {x : Ek} : x ∈ lastP s b r ↔ ∃ v, (nums r.2).getLast? = some v ∧ (wrR s r.1 v).2 = true ∧ (wrR s r.1 v).1 ≠ b ∧ x = ((wrR s r.1 v).1, b, 1) := by
  unfold lastP
  cases h : (nums r.2).getLast? with
  | none => simp
  | some v =>
    simp only [Option.some.injEq]
    constructor
    · intro h2
      split at h2
      · rename_i h3
        obtain ⟨h4, h5⟩ := mem_edgeP.1 h2
        exact ⟨v, rfl, h3, h4, h5⟩
      · simp at h2
    · rintro ⟨_, rfl, h3, h4, h5⟩
      rw [if_pos h3]; exact mem_edgeP.2 ⟨h4, h5⟩
theorem mem_nextP {s : Str} {o : Ods} {b : Int} {r : Rd} {x : Ek} : x ∈ nextP s o b r ↔ ∃ v, (keyO o r.1)[(nums r.2).length]? = some v ∧ (wrR s r.1 v).2 = true ∧ b ≠ (wrR s r.1 v).1 ∧ x = (b, (wrR s r.1 v).1, 2) := by
  unfold nextP
  cases h : (keyO o r.1)[(nums r.2).length]? with
  | none => simp
  | some v =>
    simp only [Option.some.injEq]
    constructor
    · intro h2
      split at h2
      · rename_i h3
        obtain ⟨h4, h5⟩ := mem_edgeP.1 h2
        exact ⟨v, rfl, h3, h4, h5⟩
      · simp at h2
    · rintro ⟨_, rfl, h3, h4, h5⟩
      rw [if_pos h3]; exact mem_edgeP.2 ⟨h4, h5⟩
end Go.AL.S
set_option maxRecDepth 100000
set_option maxHeartbeats 2000000
namespace Go.AL.SE
open Go Go.AL Go.AL.S Go.Proofs Go.Sort
variable {E : Env}
theorem collect44_c (hP : E.P = Tryz.prog) {W : AW} {pb m clock : Nat} {es : List En} (hb : W.get pb = some (.row [.map m])) (hm : W.get m = some (.map es clock)) (hf : Fresh es clock) (hpb : pb < W.nx) (hmlt : m < W.nx)
    (hk : ∀ e ∈ es, e.1 = (edOf e).V) (hsz : es.length < 2 ^ 40) :
    ACalls E 123 [.fn (.func 125) [] [.ptr pb 0]] W fun Y W' => ∃ done : List En, done.Perm es ∧ Ex W W' ∧
      ((done = [] ∧ Y = .nilsl) ∨ ∃ r, (W.nx ≤ r ∧ done ≠ []) ∧ r < W'.nx ∧ Y = .slr r 0 done.length 3 ∧ W'.get r = some (.vec 3 (cellsL (done.map edOf)))) := by
  refine ACalls.of hP Tryz.func123 ok_e44e (by simp) fun _ hok => ?_
  simp only [c_e44, BS, BC, e_seq, ↓reduceIte, reduceCtorEq]
  refine (collectE_c hP hb hm hf hpb hmlt hk hsz).mono ?_
  rintro Y W' ⟨done, h1, h2, h3⟩
  have hfr : W'.frz Y = Y := by rcases h3 with ⟨_, rfl⟩ | ⟨r, _, _, rfl, _⟩ <;> rfl
  simp only [BS, BC, ↓reduceIte, hfr]
  exact ⟨_, rfl, _, _, .weak weak_id, h2.nx, done, h1, h2, h3⟩
theorem sortE_perm (d : Array Ed) : (sort ltE d).toList.Perm d.toList := by
  have := (sort_sorts ltE swo_ltE d).1
  have h := this.2.2
  rw [show (sort ltE d).extract 0 d.size = (sort ltE d) from by rw [← this.1]; simp, show d.extract 0 d.size = d from by simp] at h
  exact h
theorem sortE_pw (d : Array Ed) : (sort ltE d).toList.Pairwise fun a b => ltE b a = false := by
  have hp := sortE_perm d
  have := (sort_sorts ltE swo_ltE d).2
  rw [List.pairwise_iff_getElem]
  intro i j hi hj hij
  have hs : (sort ltE d).size = d.size := by simpa using hp.length_eq
  have h1 := this i j (Nat.zero_le _) hij (by simpa [hs] using hj)
  have hi' : i < (sort ltE d).size := by simpa using hi
  have hj' : j < (sort ltE d).size := by simpa using hj
  simpa [hi', hj'] using h1
def sortL (l : List Ed) : List Ed := (sort ltE l.toArray).toList
theorem sortL_perm (l : List Ed) : (sortL l).Perm l := sortE_perm l.toArray
theorem sortL_pw (l : List Ed) : (sortL l).Pairwise fun a b => ltE b a = false := sortE_pw _
theorem sortL_unique {l m : List Ed} (h : l.Perm m) (hm : m.Pairwise fun a b => ltE b a = false) : sortL l = m := by
  refine ((sortL_perm l).trans h).eq_of_pairwise ?_ (sortL_pw l) hm
  intro x y _ _ h1 h2
  exact ltE_anti h2 h1
theorem sortL_eq {l l' : List Ed} (h : l.Perm l') : sortL l = sortL l' := sortL_unique (h.trans (sortL_perm l').symm) (sortL_pw l')
/-- Edges in order, as a slice that is written no more. -/
def sortedEV (l : List Ed) : V := if l = [] then .nilsl else .sl 3 false ((sortL l).map Ed.V)
theorem chunks3 : ∀ (l : List Ed), chunks 3 l.length (cellsL l) = l.map Ed.V
  | [] => rfl
  | e :: l => by
    have := chunks3 l
    show (if 3 = 1 then _ else V.agg ((cellsL (e :: l)).take 3)) :: chunks 3 l.length ((cellsL (e :: l)).drop 3) = _
    rw [if_neg (by decide), show cellsL (e :: l) = cE e ++ cellsL l from rfl, show (cE e ++ cellsL l).drop 3 = cellsL l from rfl, this]
    rfl
theorem one_cellsL : ∀ (l : List Ed), (cellsL l).all V.one = true
  | [] => rfl
  | e :: l => by
    rw [show cellsL (e :: l) = cE e ++ cellsL l from rfl, List.all_append, one_cellsL l]; rfl
theorem bel_edV (n : Nat) : ∀ (l : List Ed), V.belL n (l.map Ed.V) = true
  | [] => rfl
  | e :: l => by
    simp only [List.map_cons, V.belL, Bool.and_eq_true]
    exact ⟨rfl, bel_edV n l⟩
theorem sortedE_c (hP : E.P = Tryz.prog) {W : AW} {pb m clock : Nat} {es : List En} (hb : W.get pb = some (.row [.map m])) (hm : W.get m = some (.map es clock)) (hf : Fresh es clock) (hpb : pb < W.nx) (hmlt : m < W.nx)
    (hk : ∀ e ∈ es, e.1 = (edOf e).V) (hsz : es.length < 4294967296) :
    ACalls E 107 [.fn (.func 125) [] [.ptr pb 0], (.fn (.func 109) [] [])] W fun Y W' => Y = sortedEV (es.map edOf) ∧ W' = W := by
  refine ACalls.of hP Tryz.func107 ok_e34e (by simp) fun _ hok => ?_
  simp only [c_e34, BS, BC, e_seq, ↓reduceIte, reduceCtorEq]
  refine (collect44_c hP hb hm hf hpb hmlt hk (by omega)).mono ?_
  rintro Y W' ⟨done, h1, h2, h4⟩
  rcases h4 with ⟨rfl, rfl⟩ | ⟨r, ⟨hr, hne⟩, hrn, rfl, hg⟩
  · obtain rfl : es = [] := h1.symm.eq_nil
    simp only [BS, BC, e_seq, ↓reduceIte, Nat.reduceEqDiff]
    refine pc (sort_nil hP _) ?_
    simp only [BS, BC, e_seq, ↓reduceIte, Nat.reduceEqDiff]
    exact ⟨_, rfl, _, W, h2.back hok rfl, Nat.le_refl _, rfl, rfl⟩
  · have hlen : done.length = es.length := h1.length_eq
    have hsd : (done.map edOf).toArray.size = done.length := by simp
    have hce : cellsL (done.map edOf) = cellsE (done.map edOf).toArray := by simp [cellsE]
    rw [hce] at hg
    have hpv := pv_self hg
    simp only [BS, BC, e_seq, ↓reduceIte, Nat.reduceEqDiff]
    rw [← hpv]
    refine (sort_c hP W' r done.length (done.map edOf).toArray hsd hrn (by omega)).mono ?_
    rintro Y W'' ⟨rfl, rfl⟩
    simp only [BS, BC, e_seq, ↓reduceIte, Nat.reduceEqDiff]
    have hzl : (sortL (done.map edOf)).length = done.length := by rw [(sortL_perm _).length_eq]; simp
    have hzs : cellsE (sort ltE (done.map edOf).toArray) = cellsL (sortL (done.map edOf)) := rfl
    have hpos : 0 < done.length := List.length_pos_iff.2 hne
    have hX : V.sl 3 false ((sortL (done.map edOf)).map Ed.V) = sortedEV (es.map edOf) := by
      have : es.map edOf ≠ [] := by
        intro e
        have := congrArg List.length e
        simp at this
        subst this
        simp at hlen
        exact hne hlen
      rw [sortedEV, if_neg this, sortL_eq (h1.map edOf)]
    have hch : chunks 3 done.length (cellsL (sortL (done.map edOf))) = (sortL (done.map edOf)).map Ed.V := by rw [← hzl]; exact chunks3 _
    refine ⟨_, rfl, .sl 3 false ((sortL (done.map edOf)).map Ed.V), W, ?_, Nat.le_refl _, hX, rfl⟩
    rw [← hch]
    refine .frz (by rw [pv_get, hzs]) (by rw [cellsL_len, hzl]) hpos (by decide) (one_cellsL _) ?_
    refine weak_back hok (by rw [hch]; exact bel_edV _ _) ?_
    intro x hx
    have : x ≠ r := by omega
    simp only [AW.drop, pv, AW.put, this, ↓reduceIte]
    exact h2.get x hx
end Go.AL.SE
set_option maxRecDepth 100000
namespace Go.AL.S
open Go Go.AL Go.AL.SE Go.Proofs
/-! the edges of a graph, in order -/
def toEd (e : Ek) : Ed := ⟨e.1, e.2.1, e.2.2⟩
def ofEd (e : Ed) : Ek := (e.fr, e.to, e.kd)
theorem of_to (e : Ek) : ofEd (toEd e) = e := rfl
theorem to_of (e : Ed) : toEd (ofEd e) = e := rfl
def edL (P : List Ek) : List Ed := sortL ((keysE (tally P)).map toEd)
theorem edL_perm (P : List Ek) : (edL P).Perm ((keysE (tally P)).map toEd) := sortL_perm _
theorem edL_mem {P : List Ek} {e : Ed} : e ∈ edL P ↔ ofEd e ∈ P := by
  rw [(edL_perm P).mem_iff, List.mem_map]
  constructor
  · rintro ⟨x, hx, rfl⟩; rw [of_to]; exact (tally_mem P x).1 hx
  · intro h; exact ⟨ofEd e, (tally_mem P _).2 h, to_of e⟩
theorem edL_len (P : List Ek) : (edL P).length = (keysE (tally P)).length := by
  rw [(edL_perm P).length_eq, List.length_map]
theorem edL_le (P : List Ek) : (edL P).length ≤ P.length := by
  rw [edL_len]; simp only [keysE, List.length_map]; exact tally_len P
/-! what one act makes of a graph -/
end Go.AL.S
set_option maxRecDepth 100000
set_option maxHeartbeats 2000000
namespace Go.AL.S
open Go Go.AL Go.Proofs
variable {E : Env}
/-! a graph's map of edges -/
def gmap (P : List Ek) : AObj := .map (gFrom 0 (tally P)) (tally P).length
structure ekOk (e : Ek) : Prop where
  a : 0 ≤ e.1 ∧ e.1 < 65536
  b : 0 ≤ e.2.1 ∧ e.2.1 < 65536
  c : 0 ≤ e.2.2 ∧ e.2.2 < 256
abbrev shE : Bool × List SK := (true, [.i .u16, .i .u16, .i .u8])
theorem ekV_has {e : Ek} (h : ekOk e) : (ekV e).has shE = true := by
  obtain ⟨⟨h1, h2⟩, ⟨h3, h4⟩, h5, h6⟩ := h
  simp [ekV, V.has, V.isAgg, V.cells, V.hasKs, V.hasK, Lit.wf, IntKind.min, IntKind.max, IntKind.signed, IntKind.bits]
  omega
theorem g_keys {l : List (Ek × Int)} (h : ∀ x ∈ l, ekOk x.1) {e : Ek} (he : ekOk e) : ∀ n, keysOk shE (ekV e) (gFrom n l) := by
  intro n
  refine ⟨ekV_has he, ?_⟩
  induction l generalizing n with
  | nil => intro e he; simp [gFrom] at he
  | cons x l ih =>
    intro e he
    rcases List.mem_cons.1 he with rfl | he
    · exact ekV_has (h x (by simp))
    · exact ih (fun x hx => h x (by simp [hx])) _ e he
theorem tally_ok {P : List Ek} (h : ∀ x ∈ P, ekOk x) : ∀ x ∈ tally P, ekOk x.1 := fun x hx => h _ ((tally_mem P _).1 (List.mem_map.2 ⟨x, hx, rfl⟩))
theorem lookK_g {sh : Bool × List SK} {l : List (Ek × Int)} {e : Ek} {n : Nat} {k : V → Prop} : lookK sh (.int .i64 0) false (ekV e) (gFrom n l) k = k (.int .i64 ((getE l e).getD 0)) := by
  have := findK_g e l n
  unfold lookK
  cases hg : getE l e with
  | none => rw [hg] at this; simp only at this; rw [this]; rfl
  | some c => rw [hg] at this; obtain ⟨i, h1, _⟩ := this; rw [h1]; rfl
theorem setS_snoc (l : List (Ek × Int)) (e : Ek) (c c' : Int) : ∀ n, setS (n + l.length) (.int .i64 c') (gFrom n (l ++ [(e, c)])) = some (gFrom n (l ++ [(e, c')])) := by
  induction l with
  | nil => intro n; simp [gFrom, setS]
  | cons x l ih =>
    intro n
    have := ih (n + 1)
    simp only [List.cons_append, gFrom, setS, List.length_cons]
    rw [if_neg (by omega), show n + (l.length + 1) = n + 1 + l.length by omega, this]; rfl
theorem put_put {W : AW} {r : Nat} {a b : AObj} : (W.put r a).put r b = W.put r b := by
  simp only [AW.put, AW.mk.injEq, and_true]
  funext x
  by_cases h : x = r <;> simp [h]
theorem wrapn {c : Int} (h0 : 0 ≤ c) (h : c < 2 ^ 41) : IntKind.i64.wrap c = c := by
  simp only [IntKind.wrap, IntKind.signed, IntKind.bits]
  simp
  omega
theorem g_bel (l : List (Ek × Int)) (m : Nat) : ∀ n, ((gFrom n l).all fun e => e.1.bel m && e.2.1.bel m) = true := by
  induction l with
  | nil => intro n; rfl
  | cons t s ih => intro n; simp only [gFrom, List.all_cons, ih, Bool.and_true]; rfl
theorem gmap_bel (P : List Ek) (m : Nat) : (gmap P).bel m = true := g_bel _ _ _
theorem tally_hit {P : List Ek} {e : Ek} {c : Int} (h : getE (tally P) e = some c) : gmap (P ++ [e]) = .map (gFrom 0 (setE (tally P) e (c + 1))) (tally P).length := by
  have hk := congrArg List.length (keys_set (tally P) e (c + 1))
  simp only [keysE, List.length_map] at hk
  have : tally (P ++ [e]) = setE (tally P) e (c + 1) := by rw [tally_snoc, bumpL, h]
  simp only [gmap, this, hk]
theorem tally_new {P : List Ek} {e : Ek} (h : getE (tally P) e = none) : gmap (P ++ [e]) = .map (gFrom 0 (tally P ++ [(e, 1)])) ((tally P).length + 1) := by
  have : tally (P ++ [e]) = tally P ++ [(e, 1)] := by rw [tally_snoc, bumpL, h]
  simp only [gmap, this, List.length_append, List.length_cons, List.length_nil]
theorem get_cnt {P : List Ek} {e : Ek} {c : Int} (h : getE (tally P) e = some c) : 0 < c ∧ c ≤ P.length := by
  rw [tally_get] at h
  split at h
  · rename_i hm
    have := List.count_pos_iff.2 hm
    have := List.count_le_length (a := e) (l := P)
    cases h; omega
  · cases h
theorem edge_c (hP : E.P = Tryz.prog) (W : AW) {p o g m : Nat} {hn : V} {P : List Ek} (hg : W.get g = some (.row [hn, .map m])) (hm : W.get m = some (gmap P)) (hgl : g < W.nx) (hml : m < W.nx) (hPk : ∀ x ∈ P, ekOk x) (hPl : P.length < 2 ^ 40) (f t k : Int) (he : ekOk (f, t, k)) :
    ACalls E 81 [bV p o g, .int .u16 f, .int .u16 t, .int .u8 k] W fun Y W' => Y = .tuple [] ∧ W' = W.put m (gmap (P ++ edgeP f t k)) := by
  refine ACalls.of hP Tryz.func81 ok_edgee (by simp [bV]) fun _ hok => ?_
  refine awp_start hok ?_
  by_cases hft : f = t
  · have hW : W.put m (gmap (P ++ edgeP f t k)) = W := by rw [edgeP, if_pos hft, List.append_nil]; exact put_same hm
    rw [hW]
    simp (maxSteps := 2000000) (disch := omega) only [c_edge, BS, BC, e_seq, cond_if, ↓reduceIte, Nat.reduceEqDiff, BM, BD, bV, cmpne, show decide (f ≠ t) = false by simp [hft]]
    exact ⟨_, rfl, _, W, backX hok rfl, Nat.le_refl _, rfl, rfl⟩
  · have hpe : edgeP f t k = [(f, t, k)] := by rw [edgeP, if_neg hft]
    rw [hpe]
    have hgr : ∀ l, (X W W.nx l).get g = some (.row [hn, .map m]) := fun l => by rw [X_old hgl]; exact hg
    have hmr : ∀ l, (X W W.nx l).get m = some (gmap P) := fun l => by rw [X_old hml]; exact hm
    have hks := g_keys (tally_ok hPk) he 0
    have hlk : ∀ l K, sem E (.lookup shE (.int .i64 0) false) [.map m, .agg [.int .u16 f, .int .u16 t, .int .u8 k]] (X W W.nx l) K = K (.int .i64 ((getE (tally P) (f, t, k)).getD 0)) (X W W.nx l) := fun l K => by
      rw [show V.agg [.int .u16 f, .int .u16 t, .int .u8 k] = ekV (f, t, k) from rfl, m_lookup (hmr l) hks, lookK_g]
    cases hge : getE (tally P) (f, t, k) with
    | some c =>
      obtain ⟨c1, c2⟩ := get_cnt hge
      have hf := findK_g (f, t, k) (tally P) 0
      rw [hge] at hf
      obtain ⟨i, hf1, hf2⟩ := hf
      have hmo : ∀ l K, sem E (.ment shE (.int .i64 0)) [.map m, .agg [.int .u16 f, .int .u16 t, .int .u8 k]] (X W W.nx l) K = K (.tuple [.int .i64 c, .int .i64 i]) (X W W.nx l) := fun l K => m_ment_old (hmr l) hks hf1
      have hms : ∀ l K, sem E .mest [.map m, .int .i64 (i : Int), .int .i64 (c + 1)] (X W W.nx l) K = K .undef (X (W.put m (gmap (P ++ [(f, t, k)]))) W.nx l) := fun l K => by
        rw [m_mest (hmr l) (hf2 (c + 1)), ← tally_hit hge, X_putold hml]
      simp (maxSteps := 2000000) (disch := omega) only [c_edge, BS, BC, e_seq, cond_if, ↓reduceIte, Nat.reduceEqDiff, BM, BD, Nat.reduceAdd, Nat.reduceLeDiff, bV, cmpne, show decide (f ≠ t) = true by simp [hft], hg, hlk, hge, Option.getD_some, hmo, wrapn, hms]
      exact ⟨⟨_, rfl, _, W.put m (gmap (P ++ [(f, t, k)])), backX' rfl (ok_put hok hml (gmap_bel _ _)) rfl, Nat.le_refl _, rfl, rfl⟩, ⟨_, rfl, _, W.put m (gmap (P ++ [(f, t, k)])), backX' rfl (ok_put hok hml (gmap_bel _ _)) rfl, Nat.le_refl _, rfl, rfl⟩⟩
    | none =>
      have hf := findK_g (f, t, k) (tally P) 0
      rw [hge] at hf
      simp only at hf
      have hks' : keysOk shE (ekV (f, t, k)) (gFrom 0 (tally P ++ [((f, t, k), 0)])) := g_keys (fun x hx => by
        rcases List.mem_append.1 hx with hx | hx
        · exact tally_ok hPk x hx
        · rw [List.mem_singleton.1 hx]; exact he) he 0
      obtain ⟨A, hA⟩ : ∃ A, A = AObj.map (gFrom 0 (tally P ++ [((f, t, k), (0 : Int))])) ((tally P).length + 1) := ⟨_, rfl⟩
      have hmo : ∀ l K, sem E (.ment shE (.int .i64 0)) [.map m, .agg [.int .u16 f, .int .u16 t, .int .u8 k]] (X W W.nx l) K = K (.tuple [.int .i64 0, .int .i64 (tally P).length]) (X (W.put m A) W.nx l) := fun l K => by
        have := m_ment_new (E := E) (K := K) (z := .int .i64 0) (hmr l) hks hf
        rw [show V.agg [.int .u16 f, .int .u16 t, .int .u8 k] = ekV (f, t, k) from rfl, this, X_putold hml, hA, gFrom_snoc, Nat.zero_add]
      have hmr' : ∀ l, (X (W.put m A) W.nx l).get m = some A := fun l => by rw [X_old hml, put_at]
      have hlk' : ∀ l K, sem E (.lookup shE (.int .i64 0) false) [.map m, .agg [.int .u16 f, .int .u16 t, .int .u8 k]] (X (W.put m A) W.nx l) K = K (.int .i64 0) (X (W.put m A) W.nx l) := fun l K => by
        rw [show V.agg [.int .u16 f, .int .u16 t, .int .u8 k] = ekV (f, t, k) from rfl, m_lookup (by rw [hmr' l, hA]) hks', lookK_g, getE_app hge]
        simp
      have hms : ∀ l K, sem E .mest [.map m, .int .i64 ((tally P).length : Int), .int .i64 (0 + 1)] (X (W.put m A) W.nx l) K = K .undef (X (W.put m (gmap (P ++ [(f, t, k)]))) W.nx l) := fun l K => by
        have hs := setS_snoc (tally P) (f, t, k) 0 (0 + 1) 0
        rw [Nat.zero_add] at hs
        rw [m_mest (by rw [hmr' l, hA]) hs, X_putold hml, put_put, tally_new hge]; rfl
      simp (maxSteps := 2000000) (disch := omega) only [c_edge, BS, BC, e_seq, cond_if, ↓reduceIte, Nat.reduceEqDiff, BM, BD, Nat.reduceAdd, Nat.reduceLeDiff, bV, cmpne, show decide (f ≠ t) = true by simp [hft], hg, hlk, hge, Option.getD_none, hmo, wrapn, hlk', hms]
      exact ⟨⟨_, rfl, _, W.put m (gmap (P ++ [(f, t, k)])), backX' rfl (ok_put hok hml (gmap_bel _ _)) rfl, Nat.le_refl _, rfl, rfl⟩, ⟨_, rfl, _, W.put m (gmap (P ++ [(f, t, k)])), backX' rfl (ok_put hok hml (gmap_bel _ _)) rfl, Nat.le_refl _, rfl, rfl⟩⟩
end Go.AL.S
