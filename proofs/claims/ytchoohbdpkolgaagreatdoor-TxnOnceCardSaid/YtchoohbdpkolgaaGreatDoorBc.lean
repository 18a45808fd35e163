/- The sorting of numbers, part 3; the keys of a map, in order. Conditions: none. -/
import Derived.Test.YtchoohbdpkolgaaGreatDoorBb
import Derived.Test.YtchoohbdpkolgaaGreatDoorChecked
import Derived.KernelRfl
import Derived.IntWalk
set_option maxRecDepth 100000
namespace Go.AL.S
open Go Go.AL Go.Proofs Go.Sort
/- slices.pdqsortOrdered[uint16] -/
def c54 : AC := (AC.seq (AC.reg [
  ⟨(some 8), .mov, [.c (.bool true)], none⟩])
 (AC.seq (AC.reg [
  ⟨(some 9), .mov, [.c (.bool true)], none⟩])
 (AC.block 0
  (AC.loop
   (AC.block 1
    (AC.seq (AC.reg [
     ⟨(some 19), .mov, [.t 2], none⟩,
     ⟨(some 20), .mov, [.t 1], none⟩,
     ⟨(some 21), .bin .sub, [.t 19, .t 20], none⟩,
     ⟨(some 10), .mov, [.t 21], none⟩])
    (AC.seq (AC.seq (AC.reg [
     ⟨(some 22), .mov, [.t 10], none⟩,
     ⟨(some 23), .bin .leq, [.t 22, .c (.int .i64 12)], none⟩])
    (AC.cond (.t 23)
     (AC.seq (AC.reg [
      ⟨(some 24), .mov, [.t 0], none⟩,
      ⟨(some 25), .mov, [.t 1], none⟩,
      ⟨(some 26), .mov, [.t 2], none⟩,
      ⟨(some 27), .call 81, [.t 24, .t 25, .t 26], none⟩])
     AC.ret)
     AC.skip))
    (AC.seq (AC.seq (AC.reg [
     ⟨(some 28), .mov, [.t 3], none⟩,
     ⟨(some 29), .bin .eql, [.t 28, .c (.int .i64 0)], none⟩])
    (AC.cond (.t 29)
     (AC.seq (AC.reg [
      ⟨(some 30), .mov, [.t 0], none⟩,
      ⟨(some 31), .mov, [.t 1], none⟩,
      ⟨(some 32), .mov, [.t 2], none⟩,
      ⟨(some 33), .call 82, [.t 30, .t 31, .t 32], none⟩])
     AC.ret)
     AC.skip))
    (AC.seq (AC.seq (AC.reg [
     ⟨(some 34), .mov, [.t 8], none⟩,
     ⟨(some 35), .un .not, [.t 34], none⟩])
    (AC.cond (.t 35)
     (AC.seq (AC.reg [
      ⟨(some 36), .mov, [.t 0], none⟩,
      ⟨(some 37), .mov, [.t 1], none⟩,
      ⟨(some 38), .mov, [.t 2], none⟩,
      ⟨(some 39), .call 83, [.t 36, .t 37, .t 38], none⟩])
     (AC.reg [
      ⟨(some 40), .mov, [.t 3], none⟩,
      ⟨(some 41), .bin .sub, [.t 40, .c (.int .i64 1)], none⟩,
      ⟨(some 3), .mov, [.t 41], none⟩]))
     AC.skip))
    (AC.seq (AC.reg [
     ⟨(some 43), .mov, [.t 0], none⟩,
     ⟨(some 44), .mov, [.t 1], none⟩,
     ⟨(some 45), .mov, [.t 2], none⟩,
     ⟨(some 46), .call 84, [.t 43, .t 44, .t 45], none⟩,
     ⟨(some 42), .mov, [.t 46], none⟩,
     ⟨(some 47), .ext 0, [.t 42], none⟩,
     ⟨(some 48), .ext 1, [.t 42], none⟩,
     ⟨(some 11), .mov, [.t 47], none⟩,
     ⟨(some 12), .mov, [.t 48], none⟩])
    (AC.seq (AC.seq (AC.reg [
     ⟨(some 49), .mov, [.t 12], none⟩,
     ⟨(some 50), .bin .eql, [.t 49, .c (.int .i64 2)], none⟩])
    (AC.cond (.t 50)
     (AC.seq (AC.reg [
      ⟨(some 51), .mov, [.t 0], none⟩,
      ⟨(some 52), .mov, [.t 1], none⟩,
      ⟨(some 53), .mov, [.t 2], none⟩,
      ⟨(some 54), .call 85, [.t 51, .t 52, .t 53], none⟩])
     (AC.seq (AC.reg [
      ⟨(some 55), .mov, [.t 2], none⟩,
      ⟨(some 56), .bin .sub, [.t 55, .c (.int .i64 1)], none⟩,
      ⟨(some 57), .mov, [.t 11], none⟩,
      ⟨(some 58), .mov, [.t 1], none⟩,
      ⟨(some 59), .bin .sub, [.t 57, .t 58], none⟩,
      ⟨(some 60), .bin .sub, [.t 56, .t 59], none⟩,
      ⟨(some 11), .mov, [.t 60], none⟩])
     (AC.reg [
      ⟨(some 12), .mov, [.c (.int .i64 1)], none⟩])))
     AC.skip))
    (AC.seq (AC.seq (AC.reg [
     ⟨(some 61), .mov, [.t 8], none⟩,
     ⟨(some 62), .mov, [.t 61], none⟩,
     ⟨(some 63), .mov, [.t 9], (some (62, true))⟩,
     ⟨(some 64), .pick, [.t 62, .t 63, .c (.bool false)], none⟩,
     ⟨(some 65), .mov, [.t 64], none⟩,
     ⟨(some 66), .mov, [.t 12], (some (65, true))⟩,
     ⟨(some 67), .bin .eql, [.t 66, .c (.int .i64 1)], (some (65, true))⟩,
     ⟨(some 68), .pick, [.t 65, .t 67, .c (.bool false)], none⟩])
    (AC.cond (.t 68)
     (AC.seq (AC.reg [
      ⟨(some 69), .mov, [.t 0], none⟩,
      ⟨(some 70), .mov, [.t 1], none⟩,
      ⟨(some 71), .mov, [.t 2], none⟩,
      ⟨(some 72), .call 86, [.t 69, .t 70, .t 71], none⟩])
     (AC.cond (.t 72)
      AC.ret
      AC.skip))
     AC.skip))
    (AC.seq (AC.seq (AC.par
     (PT.step 0 ⟨(some 73), .mov, [.t 1], none⟩
     (PT.step 1 ⟨(some 74), .bin .gtr, [.t 73, .c (.int .i64 0)], none⟩
     (PT.step 2 ⟨(some 75), .mov, [.t 74], none⟩
     (PT.step 3 ⟨(some 76), .mov, [.t 0], (some (75, true))⟩
     (PT.step 4 ⟨(some 77), .mov, [.t 1], (some (75, true))⟩
     (PT.step 5 ⟨(some 78), .bin .sub, [.t 77, .c (.int .i64 1)], (some (75, true))⟩
     (PT.step 8 ⟨(some 81), .mov, [.t 0], (some (75, true))⟩
     (PT.step 9 ⟨(some 82), .mov, [.t 11], (some (75, true))⟩
     (PT.step 6 ⟨(some 79), .idxp 1, [.t 76, .t 78], (some (75, true))⟩
     (PT.step 7 ⟨(some 80), .load false 1, [.t 79], (some (75, true))⟩
     (PT.step 10 ⟨(some 83), .idxp 1, [.t 81, .t 82], (some (75, true))⟩
     (PT.step 11 ⟨(some 84), .load false 1, [.t 83], (some (75, true))⟩
     (PT.step 12 ⟨(some 85), .call 87, [.t 80, .t 84], (some (75, true))⟩
     (PT.step 13 ⟨(some 86), .un .not, [.t 85], (some (75, true))⟩
     (PT.step 14 ⟨(some 87), .pick, [.t 75, .t 86, .c (.bool false)], none⟩
     PT.done))))))))))))))))
    (AC.cond (.t 87)
     (AC.seq (AC.reg [
      ⟨(some 88), .mov, [.t 0], none⟩,
      ⟨(some 89), .mov, [.t 1], none⟩,
      ⟨(some 90), .mov, [.t 2], none⟩,
      ⟨(some 91), .mov, [.t 11], none⟩,
      ⟨(some 92), .call 88, [.t 88, .t 89, .t 90, .t 91], none⟩,
      ⟨(some 13), .mov, [.t 92], none⟩])
     (AC.seq (AC.reg [
      ⟨(some 93), .mov, [.t 13], none⟩,
      ⟨(some 1), .mov, [.t 93], none⟩])
     (AC.exit 1)))
     AC.skip))
    (AC.seq (AC.reg [
     ⟨(some 95), .mov, [.t 0], none⟩,
     ⟨(some 96), .mov, [.t 1], none⟩,
     ⟨(some 97), .mov, [.t 2], none⟩,
     ⟨(some 98), .mov, [.t 11], none⟩,
     ⟨(some 99), .call 89, [.t 95, .t 96, .t 97, .t 98], none⟩,
     ⟨(some 94), .mov, [.t 99], none⟩,
     ⟨(some 100), .ext 0, [.t 94], none⟩,
     ⟨(some 101), .ext 1, [.t 94], none⟩,
     ⟨(some 14), .mov, [.t 100], none⟩,
     ⟨(some 15), .mov, [.t 101], none⟩])
    (AC.seq (AC.reg [
     ⟨(some 102), .mov, [.t 15], none⟩,
     ⟨(some 9), .mov, [.t 102], none⟩])
    (AC.seq (AC.reg [
     ⟨(some 103), .mov, [.t 14], none⟩,
     ⟨(some 104), .mov, [.t 1], none⟩,
     ⟨(some 105), .bin .sub, [.t 103, .t 104], none⟩,
     ⟨(some 106), .mov, [.t 2], none⟩,
     ⟨(some 107), .mov, [.t 14], none⟩,
     ⟨(some 108), .bin .sub, [.t 106, .t 107], none⟩,
     ⟨(some 16), .mov, [.t 105], none⟩,
     ⟨(some 17), .mov, [.t 108], none⟩])
    (AC.seq (AC.reg [
     ⟨(some 109), .mov, [.t 10], none⟩,
     ⟨(some 110), .bin .quo, [.t 109, .c (.int .i64 8)], none⟩,
     ⟨(some 18), .mov, [.t 110], none⟩])
    (AC.seq (AC.reg [
     ⟨(some 111), .mov, [.t 16], none⟩,
     ⟨(some 112), .mov, [.t 17], none⟩,
     ⟨(some 113), .bin .lss, [.t 111, .t 112], none⟩])
    (AC.cond (.t 113)
     (AC.seq (AC.reg [
      ⟨(some 114), .mov, [.t 16], none⟩,
      ⟨(some 115), .mov, [.t 18], none⟩,
      ⟨(some 116), .bin .geq, [.t 114, .t 115], none⟩,
      ⟨(some 8), .mov, [.t 116], none⟩])
     (AC.seq (AC.reg [
      ⟨(some 117), .mov, [.t 0], none⟩,
      ⟨(some 118), .mov, [.t 1], none⟩,
      ⟨(some 119), .mov, [.t 14], none⟩,
      ⟨(some 120), .mov, [.t 3], none⟩,
      ⟨(some 121), .call 54, [.t 117, .t 118, .t 119, .t 120], none⟩])
     (AC.reg [
      ⟨(some 122), .mov, [.t 14], none⟩,
      ⟨(some 123), .bin .add, [.t 122, .c (.int .i64 1)], none⟩,
      ⟨(some 1), .mov, [.t 123], none⟩])))
     (AC.seq (AC.reg [
      ⟨(some 124), .mov, [.t 17], none⟩,
      ⟨(some 125), .mov, [.t 18], none⟩,
      ⟨(some 126), .bin .geq, [.t 124, .t 125], none⟩,
      ⟨(some 8), .mov, [.t 126], none⟩])
     (AC.seq (AC.reg [
      ⟨(some 127), .mov, [.t 0], none⟩,
      ⟨(some 128), .mov, [.t 14], none⟩,
      ⟨(some 129), .bin .add, [.t 128, .c (.int .i64 1)], none⟩,
      ⟨(some 130), .mov, [.t 2], none⟩,
      ⟨(some 131), .mov, [.t 3], none⟩,
      ⟨(some 132), .call 54, [.t 127, .t 129, .t 130, .t 131], none⟩])
     (AC.reg [
      ⟨(some 133), .mov, [.t 14], none⟩,
      ⟨(some 2), .mov, [.t 133], none⟩]))))))))))))))))))))))
def r54 : AC × List RT × Nat := (c54, [], 134)
theorem ok54e : compF Tryz.prog Tryz.f54 ⟨true, false, []⟩ = some r54 := by kernel_rfl
variable {E : Env}
theorem cutS {x y : AC} {Q : Exit → AFr → AW → Prop} {A : AFr} {W : AW} (R : AFr → AW → Prop) (h1 : awp E x (thenQ R Q) A W) (h2 : ∀ A' W', R A' W' → awp E y Q A' W') : awp E (.seq x y) Q A W := by
  rw [e_seq]
  refine awp_mono _ ?_ h1
  intro e A' W' h
  cases e with
  | normal => exact h2 _ _ h
  | _ => exact h
theorem partialIns_size (a b : Nat) : ∀ (s i : Nat) (d : Array Int), (partialIns ltInt a b s i d).1.size = d.size
  | 0, i, d => rfl
  | s + 1, i, d => by
    rw [partialIns_succ]
    split
    · rfl
    split
    · rfl
    rw [partialIns_size]
    unfold fixUp
    split
    · rw [shiftUp_size _ _ _ _ _ (Nat.le_refl _)]
      unfold fixDown
      split
      · rw [shiftDown_size]; simp [swp]
      · simp [swp]
    · unfold fixDown
      split
      · rw [shiftDown_size]; simp [swp]
      · simp [swp]
def pdqF (A : AFr) (r n a b lim : Nat) (wb wp : Bool) : Prop := A 0 = some (.slr r 0 n 1) ∧ A 1 = some (.int .i64 a) ∧ A 2 = some (.int .i64 b) ∧ A 3 = some (.int .i64 lim) ∧ A 8 = some (.bool wb) ∧ A 9 = some (.bool wp) ∧ A 10 = some (.int .i64 ((b - a : Nat) : Int))
theorem cle12 {a : Nat} : decide ((a : Int) ≤ 12) = decide (a ≤ 12) := by simp; omega
theorem hintEq (h : Hint) : (hintN h == 2) = decide (h = .decreasing) := by cases h <;> rfl
theorem hintEq1 (h : Hint) : (hintN h == 1) = decide (h = .increasing) := by cases h <;> rfl

theorem pdq_size : ∀ (m : Nat) (d : Array Int) (a b limit : Nat) (wb wp : Bool), b - a < m → a ≤ b → b ≤ d.size → (pdq ltInt d a b limit wb wp).size = d.size := by
  intro m
  induction m with
  | zero => intro d a b limit wb wp h; omega
  | succ m ih =>
  intro d a b limit wb wp hm hab hb
  rw [pdq]
  by_cases h12 : b - a ≤ 12
  · rw [if_pos h12]; exact (insertionSort_holds swo_ltInt d a b hab hb).1.1
  rw [if_neg h12]
  by_cases h0 : limit = 0
  · rw [if_pos h0]; exact (heapSort_holds swo_ltInt d a b hab hb).1.1
  rw [if_neg h0]
  obtain ⟨d2, hd2⟩ : ∃ d2, d2 = (if !wb then breakPatterns d a b else d) := ⟨_, rfl⟩
  obtain ⟨l2, hl2⟩ : ∃ l2, l2 = (if !wb then limit - 1 else limit) := ⟨_, rfl⟩
  simp only [← hd2, ← hl2]
  have gs2 : d2.size = d.size := by
    rw [hd2]; split
    · exact (breakPatterns_holds d a b hab hb).1
    · rfl
  obtain ⟨c, hc⟩ : ∃ c, c = choosePivot ltInt d2 a b := ⟨_, rfl⟩
  have hcr := choosePivot_holds ltInt d2 a b (by omega)
  rw [← hc] at hcr
  simp only [← hc]
  obtain ⟨d3, hd3⟩ : ∃ d3, d3 = (if c.2 = .decreasing then reverseRange d2 a b else d2) := ⟨_, rfl⟩
  obtain ⟨pv0, hpv0⟩ : ∃ pv0, pv0 = (if c.2 = .decreasing then (b - 1) - (c.1 - a) else c.1) := ⟨_, rfl⟩
  obtain ⟨hint, hhint⟩ : ∃ hint, hint = (if c.2 = .decreasing then Hint.increasing else c.2) := ⟨_, rfl⟩
  simp only [← hd3, ← hpv0, ← hhint]
  have gs3 : d3.size = d.size := by
    rw [hd3]; split
    · rw [(reverseRange_holds d2 a b hab (by omega)).1, gs2]
    · exact gs2
  have gpv : a ≤ pv0 ∧ pv0 < b := by rw [hpv0]; split <;> omega
  obtain ⟨pi, hpi⟩ : ∃ pi, pi = (if wb && wp && hint = .increasing then partialInsertionSort ltInt d3 a b else (d3, false)) := ⟨_, rfl⟩
  simp only [← hpi]
  have gs4 : pi.1.size = d.size := by
    rw [hpi]; split
    · rw [partialInsertionSort, partialIns_size, gs3]
    · exact gs3
  split
  · exact gs4
  split
  · obtain ⟨pe, hpe'⟩ : ∃ pe, pe = partitionEqual ltInt pi.1 a b pv0 := ⟨_, rfl⟩
    have hsp := partEqLoop_spec ltInt a b _ (a + 1) (b - 1) (swp pi.1 a pv0) (Nat.le_refl _) (Nat.lt_succ_self a) (by omega) (by omega) (by rw [size_swp]; omega) (fun t h1 h2 => by omega) (fun t h1 h2 => by omega)
    have hpe : partitionEqual ltInt pi.1 a b pv0 = partEqLoop ltInt a (a + 1) (b - 1) (swp pi.1 a pv0) := rfl
    rw [← hpe, ← hpe'] at hsp
    simp only [← hpe']
    have hss : pe.2.size = d.size := by rw [hsp.2.2.1.1, size_swp, gs4]
    rw [dif_pos ⟨hsp.1, hsp.2.1⟩, ih _ _ _ _ _ _ (by omega) hsp.2.1 (by omega), hss]
  · have hsp := partition_holds ltInt swo_ltInt pi.1 a b pv0 gpv.1 gpv.2 (by omega)
    obtain ⟨pt, hpt⟩ : ∃ pt, pt = partition ltInt pi.1 a b pv0 := ⟨_, rfl⟩
    rw [← hpt] at hsp
    simp only [← hpt]
    rw [dif_pos ⟨hsp.1, hsp.2.1⟩]
    have hss : pt.2.2.size = d.size := by rw [hsp.2.2.1.1, gs4]
    obtain ⟨t1, t2, t3, _⟩ := hsp
    split
    · have e := ih pt.2.2 a pt.1 l2 true true (by omega) t1 (by omega)
      exact (ih _ _ _ _ _ _ (by omega) (by omega) (by rw [e, hss]; exact hb)).trans (e.trans hss)
    · have e := ih pt.2.2 (pt.1 + 1) b l2 true true (by omega) (by omega) (by omega)
      exact (ih _ _ _ _ _ _ (by omega) t1 (by rw [e, hss]; omega)).trans (e.trans hss)
theorem pdq_c (hP : E.P = Tryz.prog) (n : Nat) (hsm : n < 4294967296) : ∀ (m : Nat) (W : AW) (r a b lim : Nat) (d : Array Int), b - a < m → d.size = n → r < W.nx → a ≤ b → b ≤ n → lim < 1000 →
    ACalls E 54 [.slr r 0 n 1, .int .i64 a, .int .i64 b, .int .i64 lim] (pv W r d) fun X W' => X = .tuple [] ∧ W' = pv W r (pdq ltInt d a b lim true true) := by
  intro m
  induction m with
  | zero => intro W r a b lim d h; omega
  | succ m ih =>
  intro W r a b lim d hm hn hr hab hb hlim
  refine ACalls.of hP Tryz.func54 ok54e (by simp) fun _ hok => ?_
  simp (disch := omega) only [c54, e_seq, e_reg, e_block, e_cons, e_nil, e_plain, evs_nil, evs_cons, ev_c, e_putK, e_putd, e_then, sem_mov, e_loop]
  refine ALoop.go (B := awp E _) (fun h => awp_mono _ h) (fun (s : Nat × Nat × Nat × Bool × Bool × Array Int) A1 W1 => A1 0 = some (.slr r 0 n 1) ∧ A1 1 = some (.int .i64 s.1) ∧ A1 2 = some (.int .i64 s.2.1) ∧ A1 3 = some (.int .i64 s.2.2.1) ∧ A1 8 = some (.bool s.2.2.2.1) ∧ A1 9 = some (.bool s.2.2.2.2.1) ∧
    W1 = pv W r s.2.2.2.2.2 ∧ s.1 ≤ s.2.1 ∧ s.2.1 ≤ n ∧ s.2.1 - s.1 ≤ b - a ∧ s.2.2.1 < 1000 ∧ s.2.2.2.2.2.size = n ∧ pdq ltInt s.2.2.2.2.2 s.1 s.2.1 s.2.2.1 s.2.2.2.1 s.2.2.2.2.1 = pdq ltInt d a b lim true true) (fun s => s.2.1 - s.1) (a, b, lim, true, true, d)
    ⟨rfl, rfl, rfl, rfl, rfl, rfl, rfl, hab, hb, Nat.le_refl _, hlim, hn, rfl⟩ ?_
  rintro ⟨a1, b1, l1, wb, wp, d1⟩ A1 W1 ⟨g0, g1, g2, g3, g8, g9, rfl, gab, gb, gm, gl, gs, gt⟩ _
  simp only at g1 g2 g3 g8 g9 gab gb gm gl gs gt
  rw [e_block]
  refine cutS (fun A' W' => pdqF A' r n a1 b1 l1 wb wp ∧ W' = pv W r d1) ?_ ?_
  · simp (disch := omega) only [e_reg, e_cons, e_nil, e_plain, evs_nil, evs_cons, ev_t, e_putK, e_putd, e_put, e_then, ↓reduceIte, Nat.reduceEqDiff, sem_mov, sem_sub, g1, g2, wsub]
    exact ⟨⟨g0, g1, g2, g3, g8, g9, rfl⟩, trivial⟩
  rintro A2 W2 ⟨⟨q0, q1, q2, q3, q8, q9, q10⟩, rfl⟩
  refine cutS (fun A' W' => (pdqF A' r n a1 b1 l1 wb wp ∧ W' = pv W r d1) ∧ ¬ b1 - a1 ≤ 12) ?_ ?_
  · by_cases h : b1 - a1 ≤ 12
    · rw [pdq, if_pos h] at gt
      simp (disch := omega) only [e_seq, e_reg, cond_if, e_cons, e_nil, e_plain, evs_nil, evs_cons, ev_t, ev_c, e_putK, e_putd, e_put, e_then, ↓reduceIte, Nat.reduceEqDiff, reduceCtorEq, List.map_cons, List.map_nil, frz_int, frz_slr, sem_mov, sem_leq, sem_call, q0, q1, q2, q10, cle12, h, decide_true]
      refine (insertion_c hP W r n a1 b1 d1 gs gb (by omega) (by omega)).mono ?_
      rintro X W' ⟨rfl, rfl⟩
      simp only [e_ret, e_nil, e_putK, e_putd, e_then_ret, e_blk_ret, retQ_ret, e_res0]
      exact ⟨_, rfl, _, _, .weak weak_id, Nat.le_refl _, rfl, by rw [gt]⟩
    · simp (disch := omega) only [e_seq, e_reg, cond_if, e_skip, e_cons, e_nil, e_plain, evs_nil, evs_cons, ev_t, ev_c, e_putK, e_putd, e_put, e_then, ↓reduceIte, Bool.false_eq_true, sem_mov, sem_leq, q10, cle12, h, decide_false]
      exact ⟨⟨⟨q0, q1, q2, q3, q8, q9, q10⟩, trivial⟩, not_false⟩
  rintro A3 W3 ⟨⟨⟨q0, q1, q2, q3, q8, q9, q10⟩, rfl⟩, h12⟩
  rw [pdq, if_neg h12] at gt
  refine cutS (fun A' W' => (pdqF A' r n a1 b1 l1 wb wp ∧ W' = pv W r d1) ∧ ¬ l1 = 0) ?_ ?_
  · by_cases h : l1 = 0
    · rw [if_pos h] at gt
      simp (disch := omega) only [e_seq, e_reg, cond_if, e_cons, e_nil, e_plain, evs_nil, evs_cons, ev_t, ev_c, e_putK, e_putd, e_put, e_then, ↓reduceIte, Nat.reduceEqDiff, reduceCtorEq, List.map_cons, List.map_nil, frz_int, frz_slr, sem_mov, sem_eql, sem_call, q0, q1, q2, q3, eq0, h, decide_true]
      refine (heapSort_c hP W r n a1 b1 d1 gs (by omega) gb (by omega)).mono ?_
      rintro X W' ⟨rfl, rfl⟩
      simp only [e_ret, e_nil, e_putK, e_putd, e_then_ret, e_blk_ret, retQ_ret, e_res0]
      exact ⟨_, rfl, _, _, .weak weak_id, Nat.le_refl _, rfl, by rw [gt]⟩
    · simp (disch := omega) only [e_seq, e_reg, cond_if, e_skip, e_cons, e_nil, e_plain, evs_nil, evs_cons, ev_t, ev_c, e_putK, e_putd, e_put, e_then, ↓reduceIte, Bool.false_eq_true, sem_mov, sem_eql, q3, eq0, h, decide_false]
      exact ⟨⟨⟨q0, q1, q2, q3, q8, q9, q10⟩, trivial⟩, not_false⟩
  rintro A4 W4 ⟨⟨⟨q0, q1, q2, q3, q8, q9, q10⟩, rfl⟩, hl0⟩
  rw [if_neg hl0] at gt
  obtain ⟨d2, hd2⟩ : ∃ d2, d2 = (if !wb then breakPatterns d1 a1 b1 else d1) := ⟨_, rfl⟩
  obtain ⟨l2, hl2⟩ : ∃ l2, l2 = (if !wb then l1 - 1 else l1) := ⟨_, rfl⟩
  have gs2 : d2.size = n := by
    rw [hd2]; split
    · rw [(breakPatterns_holds d1 a1 b1 gab (by omega)).1, gs]
    · exact gs
  have gl2 : l2 < 1000 := by rw [hl2]; split <;> omega
  refine cutS (fun A' W' => pdqF A' r n a1 b1 l2 wb wp ∧ W' = pv W r d2) ?_ ?_
  · cases wb
    · simp only [Bool.not_false, ↓reduceIte] at hd2 hl2
      simp (disch := omega) only [e_seq, e_reg, cond_if, e_cons, e_nil, e_plain, evs_nil, evs_cons, ev_t, e_putK, e_putd, e_put, e_then, ↓reduceIte, Nat.reduceEqDiff, reduceCtorEq, List.map_cons, List.map_nil, frz_int, frz_slr, sem_mov, sem_not, sem_call, q0, q1, q2, q8, Bool.not_false]
      refine (breakPatterns_c hP W r n a1 b1 d1 gs hr (by omega) gb (by omega) (by omega)).mono ?_
      rintro X W' ⟨rfl, rfl⟩
      simp (disch := omega) only [e_reg, e_cons, e_nil, e_plain, evs_nil, evs_cons, ev_t, ev_c, e_putK, e_putd, e_put, e_then, ↓reduceIte, Nat.reduceEqDiff, sem_mov, sem_sub, q3, wsub1, ← hd2, ← hl2]
      exact ⟨⟨q0, q1, q2, rfl, q8, q9, q10⟩, trivial⟩
    · simp only [Bool.not_true, Bool.false_eq_true, ↓reduceIte] at hd2 hl2
      simp (disch := omega) only [e_seq, e_reg, cond_if, e_skip, e_cons, e_nil, e_plain, evs_nil, evs_cons, ev_t, e_putK, e_putd, e_put, e_then, ↓reduceIte, Bool.false_eq_true, sem_mov, sem_not, q8, Bool.not_true]
      rw [hd2, hl2]
      exact ⟨⟨q0, q1, q2, q3, q8, q9, q10⟩, rfl⟩
  rintro A5 W5 ⟨⟨q0, q1, q2, q3, q8, q9, q10⟩, rfl⟩
  simp only [← hd2, ← hl2] at gt
  obtain ⟨c, hc⟩ : ∃ c, c = choosePivot ltInt d2 a1 b1 := ⟨_, rfl⟩
  have hcr := choosePivot_holds ltInt d2 a1 b1 (by omega)
  rw [← hc] at hcr
  simp only [← hc] at gt
  refine cutS (fun A' W' => (pdqF A' r n a1 b1 l2 wb wp ∧ A' 11 = some (.int .i64 c.1) ∧ A' 12 = some (.int .i64 (hintN c.2))) ∧ W' = pv W r d2) ?_ ?_
  · simp only [e_reg, e_cons, e_plain, evs_nil, evs_cons, ev_t, e_putK, e_putd, e_put, e_then, ↓reduceIte, Nat.reduceEqDiff, List.map_cons, List.map_nil, frz_int, frz_slr, sem_mov, sem_call, q0, q1, q2]
    refine (choosePivot_c hP W r n a1 b1 d2 gs2 hr (by omega) gb (by omega) (by omega)).mono ?_
    rintro X W' ⟨rfl, rfl⟩
    rw [← hc]
    simp (disch := omega) only [e_cons, e_nil, e_plain, evs_nil, evs_cons, ev_t, e_putK, e_putd, e_put, ↓reduceIte, Nat.reduceEqDiff, sem_mov, sem_ext0, sem_ext1]
    exact ⟨⟨⟨q0, q1, q2, q3, q8, q9, q10⟩, trivial, trivial⟩, trivial⟩
  rintro A6 W6 ⟨⟨⟨q0, q1, q2, q3, q8, q9, q10⟩, q11, q12⟩, rfl⟩
  obtain ⟨d3, hd3⟩ : ∃ d3, d3 = (if c.2 = .decreasing then reverseRange d2 a1 b1 else d2) := ⟨_, rfl⟩
  obtain ⟨pv0, hpv0⟩ : ∃ pv0, pv0 = (if c.2 = .decreasing then (b1 - 1) - (c.1 - a1) else c.1) := ⟨_, rfl⟩
  obtain ⟨hint, hhint⟩ : ∃ hint, hint = (if c.2 = .decreasing then Hint.increasing else c.2) := ⟨_, rfl⟩
  simp only [← hd3, ← hpv0, ← hhint] at gt
  have gs3 : d3.size = n := by
    rw [hd3]; split
    · rw [(reverseRange_holds d2 a1 b1 gab (by omega)).1, gs2]
    · exact gs2
  have gpv : a1 ≤ pv0 ∧ pv0 < b1 := by rw [hpv0]; split <;> omega
  have hint2 : hint ≠ .decreasing := by rw [hhint]; split <;> simp_all
  refine cutS (fun A' W' => (pdqF A' r n a1 b1 l2 wb wp ∧ A' 11 = some (.int .i64 pv0) ∧ A' 12 = some (.int .i64 (hintN hint))) ∧ W' = pv W r d3) ?_ ?_
  · by_cases h : c.2 = .decreasing
    · simp only [h, ↓reduceIte] at hd3 hpv0 hhint
      simp (disch := omega) only [e_seq, e_reg, cond_if, e_cons, e_nil, e_plain, evs_nil, evs_cons, ev_t, ev_c, e_putK, e_putd, e_put, e_then, ↓reduceIte, Nat.reduceEqDiff, reduceCtorEq, List.map_cons, List.map_nil, frz_int, frz_slr, sem_mov, sem_eql, sem_call, q0, q1, q2, q12, hintEq, h, decide_true]
      refine (reverseRange_c hP W r n a1 b1 d2 gs2 gb (by omega) (by omega)).mono ?_
      rintro X W' ⟨rfl, rfl⟩
      simp (disch := omega) only [e_seq, e_reg, e_cons, e_nil, e_plain, evs_nil, evs_cons, ev_t, ev_c, e_putK, e_putd, e_put, e_then, ↓reduceIte, Nat.reduceEqDiff, sem_mov, sem_sub, q1, q2, q11, wsub, wsub1, ← hpv0, ← hd3]
      exact ⟨⟨⟨q0, q1, q2, q3, q8, q9, q10⟩, trivial, by rw [hhint]; rfl⟩, trivial⟩
    · simp only [h, ↓reduceIte] at hd3 hpv0 hhint
      simp (disch := omega) only [e_seq, e_reg, cond_if, e_skip, e_cons, e_nil, e_plain, evs_nil, evs_cons, ev_t, ev_c, e_putK, e_putd, e_put, e_then, ↓reduceIte, Nat.reduceEqDiff, Bool.false_eq_true, sem_mov, sem_eql, q12, hintEq, h, decide_false]
      rw [hd3, hpv0, hhint]
      exact ⟨⟨⟨q0, q1, q2, q3, q8, q9, q10⟩, q11, rfl⟩, rfl⟩
  rintro A7 W7 ⟨⟨⟨q0, q1, q2, q3, q8, q9, q10⟩, q11, q12⟩, rfl⟩
  obtain ⟨pi, hpi⟩ : ∃ pi, pi = (if wb && wp && hint = .increasing then partialInsertionSort ltInt d3 a1 b1 else (d3, false)) := ⟨_, rfl⟩
  simp only [← hpi] at gt
  have gs4 : pi.1.size = n := by
    rw [hpi]; split
    · rw [partialInsertionSort, partialIns_size, gs3]
    · exact gs3
  refine cutS (fun A' W' => ((pdqF A' r n a1 b1 l2 wb wp ∧ A' 11 = some (.int .i64 pv0)) ∧ W' = pv W r pi.1) ∧ pi.2 = false) ?_ ?_
  · by_cases h : (wb && wp && decide (hint = .increasing)) = true
    · rw [if_pos h] at hpi
      simp only [Bool.and_eq_true, decide_eq_true_eq] at h
      obtain ⟨⟨rfl, rfl⟩, hi⟩ := h
      simp (disch := omega) only [e_seq, e_reg, cond_if, e_cons, e_nil, e_plain, guard_if, evs_nil, evs_cons, ev_t, ev_c, e_putK, e_putd, e_put, e_then, ↓reduceIte, Nat.reduceEqDiff, reduceCtorEq, List.map_cons, List.map_nil, frz_int, frz_slr, sem_mov, sem_pick, sem_eql, sem_call, q0, q1, q2, q8, q9, q12, hintEq1, hi, decide_true]
      refine (partialIns_c hP W r n a1 b1 d3 gs3 (by omega) gb (by omega)).mono ?_
      rintro X W' ⟨rfl, rfl⟩
      rw [← hpi]
      cases hp2 : pi.2 with
      | true =>
        rw [if_pos hp2] at gt
        simp only [cond_if, e_ret, e_nil, ev_t, e_putK, e_putd, e_put, e_then_ret, e_blk_ret, retQ_ret, e_res0, ↓reduceIte, Bool.true_eq_false]
        exact ⟨_, rfl, _, _, .weak weak_id, Nat.le_refl _, rfl, by rw [gt]⟩
      | false =>
        simp only [cond_if, e_skip, e_nil, ev_t, e_putK, e_putd, e_put, e_then, ↓reduceIte, Nat.reduceEqDiff, Bool.false_eq_true]
        exact ⟨⟨⟨⟨q0, q1, q2, q3, q8, q9, q10⟩, q11⟩, trivial⟩, trivial⟩
    · rw [if_neg h] at hpi
      have e1 : pi.1 = d3 := by rw [hpi]
      have e2 : pi.2 = false := by rw [hpi]
      rw [e1]
      cases wb
      · simp (disch := omega) only [e_seq, e_reg, cond_if, e_skip, e_cons, e_nil, e_plain, guard_if, evs_nil, evs_cons, ev_t, ev_c, e_putK, e_putd, e_put, e_then, ↓reduceIte, Nat.reduceEqDiff, Bool.false_eq_true, sem_mov, sem_pick, q8]
        exact ⟨⟨⟨⟨q0, q1, q2, q3, q8, q9, q10⟩, q11⟩, trivial⟩, e2⟩
      · cases wp
        · simp (disch := omega) only [e_seq, e_reg, cond_if, e_skip, e_cons, e_nil, e_plain, guard_if, evs_nil, evs_cons, ev_t, ev_c, e_putK, e_putd, e_put, e_then, ↓reduceIte, Nat.reduceEqDiff, Bool.false_eq_true, sem_mov, sem_pick, q8, q9]
          exact ⟨⟨⟨⟨q0, q1, q2, q3, q8, q9, q10⟩, q11⟩, trivial⟩, e2⟩
        · have hi : hint ≠ .increasing := fun e => h (by simp [e])
          simp (disch := omega) only [e_seq, e_reg, cond_if, e_skip, e_cons, e_nil, e_plain, guard_if, evs_nil, evs_cons, ev_t, ev_c, e_putK, e_putd, e_put, e_then, ↓reduceIte, Nat.reduceEqDiff, Bool.false_eq_true, sem_mov, sem_pick, sem_eql, q8, q9, q12, hintEq1, hi, decide_false]
          exact ⟨⟨⟨⟨q0, q1, q2, q3, q8, q9, q10⟩, q11⟩, trivial⟩, e2⟩
  rintro A8 W8 ⟨⟨⟨⟨q0, q1, q2, q3, q8, q9, q10⟩, q11⟩, rfl⟩, hp2⟩
  rw [if_neg (by simp [hp2])] at gt
  obtain ⟨d4, hd4⟩ : ∃ d4, d4 = pi.1 := ⟨_, rfl⟩
  rw [← hd4] at gs4 ⊢
  simp only [← hd4] at gt
  refine cutS (fun A' W' => ((pdqF A' r n a1 b1 l2 wb wp ∧ A' 11 = some (.int .i64 pv0)) ∧ W' = pv W r d4) ∧ (decide (a1 > 0) && !ltInt d4[a1 - 1]! d4[pv0]!) = false) ?_ ?_
  · by_cases h0 : a1 > 0
    · have h0' : decide ((a1 : Int) > 0) = true := by simp; omega
      simp (disch := omega) only [e_seq, e_par, e_step, e_plain, guard_if, evs_nil, evs_cons, ev_t, ev_c, e_putK, e_putd, e_put, e_then, ↓reduceIte, Nat.reduceEqDiff, reduceCtorEq, List.map_cons, List.map_nil, frz_int, sem_mov, sem_sub, sem_gtr, sem_call, q0, q1, q11, h0', wsub1, ix, ld]
      refine (less_c hP _ _ _).mono ?_
      rintro X W' ⟨rfl, rfl⟩
      by_cases h : d4[a1 - 1]! < d4[pv0]!
      · simp (disch := omega) only [cond_if, e_skip, e_done, e_step, e_plain, guard_if, evs_nil, evs_cons, ev_t, ev_c, e_putK, e_putd, e_put, e_then, ↓reduceIte, Nat.reduceEqDiff, Bool.false_eq_true, sem_pick, sem_not, h, decide_true, Bool.not_true]
        exact ⟨⟨⟨⟨q0, q1, q2, q3, q8, q9, q10⟩, q11⟩, trivial⟩, by simp [ltInt, h]⟩
      · rw [if_pos (by simp [h0, ltInt, h])] at gt
        have hsp := partEqLoop_spec ltInt a1 b1 _ (a1 + 1) (b1 - 1) (swp d4 a1 pv0) (Nat.le_refl _) (Nat.lt_succ_self a1) (by omega) (by omega) (by rw [size_swp]; omega) (fun t h1 h2 => by omega) (fun t h1 h2 => by omega)
        have hpe : partitionEqual ltInt d4 a1 b1 pv0 = partEqLoop ltInt a1 (a1 + 1) (b1 - 1) (swp d4 a1 pv0) := rfl
        rw [← hpe] at hsp
        obtain ⟨pe, hpe'⟩ : ∃ pe, pe = partitionEqual ltInt d4 a1 b1 pv0 := ⟨_, rfl⟩
        rw [← hpe'] at hsp
        simp only [← hpe'] at gt
        rw [dif_pos ⟨hsp.1, hsp.2.1⟩] at gt
        have hss : pe.2.size = n := by rw [hsp.2.2.1.1, size_swp, gs4]
        simp (disch := omega) only [e_seq, e_reg, cond_if, e_done, e_step, e_cons, e_plain, guard_if, evs_nil, evs_cons, ev_t, ev_c, e_putK, e_putd, e_put, e_then, ↓reduceIte, Nat.reduceEqDiff, reduceCtorEq, List.map_cons, List.map_nil, frz_int, frz_slr, sem_mov, sem_pick, sem_not, sem_call, h, decide_false, Bool.not_false, q0, q1, q2, q11]
        refine (partitionEqual_c hP W r n a1 b1 pv0 d4 gs4 (by omega) gb (by omega) (by omega)).mono ?_
        rintro X W' ⟨rfl, rfl⟩
        rw [← hpe']
        simp only [e_seq, e_reg, e_exit, e_cons, e_nil, e_plain, evs_nil, evs_cons, ev_t, e_putK, e_putd, e_put, e_then, e_then_exit, e_blk_exit, ↓reduceIte, Nat.reduceEqDiff, reduceCtorEq, sem_mov, q0, q2, q3, q8, q9]
        exact ⟨(pe.1, b1, l2, wb, wp, pe.2), ⟨trivial, rfl, rfl, rfl, rfl, rfl, rfl, hsp.2.1, gb, by simp; omega, gl2, hss, gt⟩, by simp; omega, Nat.le_refl _⟩
    · have h0' : decide ((a1 : Int) > 0) = false := by simp; omega
      simp (disch := omega) only [e_seq, cond_if, e_skip, e_par, e_done, e_step, e_plain, guard_if, evs_nil, evs_cons, ev_t, ev_c, e_putK, e_putd, e_put, e_then, ↓reduceIte, Nat.reduceEqDiff, Bool.false_eq_true, sem_mov, sem_pick, sem_gtr, q1, h0']
      exact ⟨⟨⟨⟨q0, q1, q2, q3, q8, q9, q10⟩, q11⟩, trivial⟩, by simp [h0]⟩
  rintro A9 W9 ⟨⟨⟨⟨q0, q1, q2, q3, q8, q9, q10⟩, q11⟩, rfl⟩, hne⟩
  rw [if_neg (by simp [hne])] at gt
  have hsp := partition_holds ltInt swo_ltInt d4 a1 b1 pv0 gpv.1 gpv.2 (by omega)
  obtain ⟨pt, hpt⟩ : ∃ pt, pt = partition ltInt d4 a1 b1 pv0 := ⟨_, rfl⟩
  rw [← hpt] at hsp
  simp only [← hpt] at gt
  rw [dif_pos ⟨hsp.1, hsp.2.1⟩] at gt
  have hss : pt.2.2.size = n := by rw [hsp.2.2.1.1, gs4]
  obtain ⟨t1, t2, t3, _⟩ := hsp
  simp only [e_seq, e_reg, e_cons, e_plain, evs_nil, evs_cons, ev_t, e_putK, e_putd, e_put, e_then, ↓reduceIte, Nat.reduceEqDiff, List.map_cons, List.map_nil, frz_int, frz_slr, sem_mov, sem_call, q0, q1, q2, q11]
  refine (partition_c hP W r n a1 b1 pv0 d4 gs4 (by omega) gb (by omega) (by omega)).mono ?_
  rintro X W' ⟨rfl, rfl⟩
  rw [← hpt]
  by_cases h : pt.1 - a1 < b1 - pt.1
  · rw [if_pos h] at gt
    simp (disch := omega) only [e_seq, e_reg, cond_if, e_cons, e_nil, e_plain, evs_nil, evs_cons, ev_t, ev_c, e_putK, e_putd, e_put, e_then, ↓reduceIte, Nat.reduceEqDiff, reduceCtorEq, List.map_cons, List.map_nil, frz_int, frz_slr, sem_mov, sem_sub, sem_lss, sem_geq, sem_ext0, sem_ext1, sem_call, q0, q1, q2, q3, q10, wsub, quo8, clt, h, decide_true, cge]
    refine (ih W r a1 pt.1 l2 pt.2.2 (by omega) hss hr t1 (by omega) gl2).mono ?_
    rintro X W' ⟨rfl, rfl⟩
    simp (disch := omega) only [e_reg, e_cons, e_nil, e_plain, evs_nil, evs_cons, ev_t, ev_c, e_putK, e_putd, e_put, e_then, e_blk, ↓reduceIte, Nat.reduceEqDiff, reduceCtorEq, sem_mov, sem_add, q0, q2, q3, wadd1]
    exact ⟨(pt.1 + 1, b1, l2, decide (pt.1 - a1 ≥ (b1 - a1) / 8), pt.2.1, pdq ltInt pt.2.2 a1 pt.1 l2 true true), ⟨trivial, rfl, rfl, rfl, rfl, rfl, rfl, by simp; omega, gb, by simp; omega, gl2, by rw [pdq_size _ _ _ _ _ _ _ (Nat.lt_succ_self _) (by omega) (by omega), hss], gt⟩, by simp; omega, Nat.le_refl _⟩
  · rw [if_neg h] at gt
    simp (disch := omega) only [e_seq, e_reg, cond_if, e_cons, e_nil, e_plain, evs_nil, evs_cons, ev_t, ev_c, e_putK, e_putd, e_put, e_then, ↓reduceIte, Nat.reduceEqDiff, reduceCtorEq, List.map_cons, List.map_nil, Bool.false_eq_true, frz_int, frz_slr, sem_mov, sem_add, sem_sub, sem_lss, sem_geq, sem_ext0, sem_ext1, sem_call, q0, q1, q2, q3, q10, wsub, quo8, clt, h, decide_false, cge, wadd1]
    refine (ih W r (pt.1 + 1) b1 l2 pt.2.2 (by omega) hss hr (by omega) gb gl2).mono ?_
    rintro X W' ⟨rfl, rfl⟩
    simp (disch := omega) only [e_reg, e_cons, e_nil, e_plain, evs_nil, evs_cons, ev_t, e_putK, e_putd, e_put, e_then, e_blk, ↓reduceIte, Nat.reduceEqDiff, reduceCtorEq, sem_mov, q0, q1, q3]
    exact ⟨(a1, pt.1, l2, decide (b1 - pt.1 ≥ (b1 - a1) / 8), pt.2.1, pdq ltInt pt.2.2 (pt.1 + 1) b1 l2 true true), ⟨trivial, rfl, rfl, rfl, rfl, rfl, rfl, t1, by simp; omega, by simp; omega, gl2, by rw [pdq_size _ _ _ _ _ _ _ (Nat.lt_succ_self _) (by omega) (by omega), hss], gt⟩, by simp; omega, Nat.le_refl _⟩
end Go.AL.S
set_option maxRecDepth 100000
namespace Go.AL.S
open Go Go.AL Go.Proofs
/- maps.Keys[map[uint16]umpire/txn.Txn,uint16,umpire/txn.Txn]$1 -/
def c46 : AC := (AC.seq (AC.reg [
  ⟨(some 4), .load false 1, [.t 1], none⟩,
  ⟨(some 5), .rangem, [.t 4], none⟩])
 (AC.block 0
  (AC.loop
   (AC.seq (AC.reg [
    ⟨(some 6), .nextm, [.t 5], none⟩,
    ⟨(some 7), .ext 0, [.t 6], none⟩])
   (AC.seq (AC.cond (.t 7)
    AC.skip
    (AC.exit 0))
   (AC.block 1
    (AC.seq (AC.reg [
     ⟨(some 8), .entry, [.t 5], none⟩,
     ⟨(some 9), .ext 0, [.t 8], none⟩,
     ⟨(some 3), .mov, [.t 9], none⟩])
    (AC.seq (AC.reg [
     ⟨(some 10), .mov, [.t 0], none⟩,
     ⟨(some 11), .mov, [.t 3], none⟩,
     ⟨(some 12), .callv, [.t 10, .t 11], none⟩,
     ⟨(some 13), .un .not, [.t 12], none⟩])
    (AC.cond (.t 13)
     AC.ret
     AC.skip)))))))))
def r46 : AC × List RT × Nat := (c46, [], 14)

theorem ok46e : compF Tryz.prog Tryz.f46 ⟨false, false, []⟩ = some r46 := by kernel_rfl

variable {E : Env}
abbrev En := V × V × Nat
def stamps (l : List En) : List Nat := l.map (·.2.2)
theorem sem_rangem {W : AW} {K : V → AW → Prop} {r : Nat} {es : List En} {clock : Nat} (h : W.get r = some (.map es clock)) : sem E .rangem [.map r] W K = K (.ptr W.nx 0) (W.alloc (.iter (some r) clock [] clock)) := by simp only [sem, h]
theorem sem_nextm {W : AW} {K : V → AW → Prop} {i m since last clock : Nat} {seen : List Nat} {es : List En} (h : W.get i = some (.iter (some m) since seen last)) (hm : W.get m = some (.map es clock)) :
    sem E .nextm [.ptr i 0] W K = ((seen = [] ∨ es = [] ∨ ∃ e ∈ es, e.2.2 < last) ∧ ((∀ e ∈ es, e.2.2 ∉ seen → since ≤ e.2.2) → K (.tuple [.bool false]) W) ∧
      (∀ e ∈ es, e.2.2 ∉ seen → K (.tuple [.bool true, e.1, e.2.1]) (W.put i (.iter (some m) since (seen ++ [e.2.2]) clock)))) := by simp only [sem, h, hm]
theorem sem_entry {W : AW} {K : V → AW → Prop} {i m since clock stamp : Nat} {seen : List Nat} {es : List En} {e : En} (h : W.get i = some (.iter (some m) since seen clock)) (hm : W.get m = some (.map es clock)) (hl : seen.getLast? = some stamp) (hf : (es.find? fun e => e.2.2 == stamp) = some e) :
    sem E .entry [.ptr i 0] W K = K (.tuple [e.1, e.2.1]) W := by simp [sem, h, hm, hl, hf]

/-- Entries that have stamps of their own, all of them past. -/
structure Fresh (es : List En) (clock : Nat) : Prop where
  nodup : (stamps es).Nodup
  lt : ∀ e ∈ es, e.2.2 < clock
theorem Fresh.find {es : List En} (h : (stamps es).Nodup) {e : En} (he : e ∈ es) : (es.find? fun x => x.2.2 == e.2.2) = some e := by
  induction es with
  | nil => simp at he
  | cons x xs ih =>
    simp only [stamps, List.map_cons, List.nodup_cons] at h
    rcases List.mem_cons.1 he with rfl | he
    · simp
    · have hne : (x.2.2 == e.2.2) = false := by
        simp only [beq_eq_false_iff_ne, ne_eq]
        intro heq
        exact h.1 (heq ▸ List.mem_map.2 ⟨e, he, rfl⟩)
      rw [List.find?_cons, hne]
      exact ih h.2 he

theorem perm_of_mem {α : Type} : ∀ {l m : List α}, l.Nodup → m.Nodup → (∀ x, x ∈ l ↔ x ∈ m) → l.Perm m
  | [], m, _, _, h => by
    cases m with
    | nil => exact .refl _
    | cons y m => exact absurd ((h y).2 (by simp)) (by simp)
  | x :: l, m, hl, hm, h => by
    obtain ⟨s, t, rfl⟩ := List.append_of_mem ((h x).1 (by simp))
    have hl' := List.nodup_cons.1 hl
    have hm' : (x :: (s ++ t)).Nodup := List.perm_middle.nodup_iff.1 hm
    have hm2 := List.nodup_cons.1 hm'
    refine (List.Perm.cons x (perm_of_mem hl'.2 hm2.2 fun y => ?_)).trans List.perm_middle.symm
    have hy := h y
    simp only [List.mem_cons, List.mem_append] at hy ⊢
    by_cases e : y = x
    · subst e
      exact ⟨fun hh => absurd hh hl'.1, fun hh => absurd (by simpa using hh) hm2.1⟩
    · constructor
      · intro hh
        rcases hy.1 (.inr hh) with h1 | h1 | h1
        · exact .inl h1
        · exact absurd h1 e
        · exact .inr h1
      · intro hh
        rcases hy.2 (hh.elim .inl fun h1 => .inr (.inr h1)) with h1 | h1
        · exact absurd h1 e
        · exact h1
theorem length_le_of_sub {α : Type} : ∀ {l m : List α}, l.Nodup → (∀ x ∈ l, x ∈ m) → l.length ≤ m.length
  | [], _, _, _ => by simp
  | x :: l, m, hl, h => by
    obtain ⟨s, t, rfl⟩ := List.append_of_mem (h x (by simp))
    have hl' := List.nodup_cons.1 hl
    have := length_le_of_sub (l := l) (m := s ++ t) hl'.2 fun y hy => by
      have hyx : y ≠ x := fun e => hl'.1 (e ▸ hy)
      have := h y (List.mem_cons_of_mem _ hy)
      simp only [List.mem_append, List.mem_cons] at this ⊢
      rcases this with h1 | h1 | h1
      · exact .inl h1
      · exact absurd h1 hyx
      · exact .inr h1
    simp at this ⊢; omega
theorem nodup_of_stamps {l : List En} (h : (stamps l).Nodup) : l.Nodup := by
  induction l with
  | nil => exact List.nodup_nil
  | cons x l ih =>
    simp only [stamps, List.map_cons] at h
    have h' := List.nodup_cons.1 h
    exact List.nodup_cons.2 ⟨fun hm => h'.1 (List.mem_map.2 ⟨x, hm, rfl⟩), ih h'.2⟩
theorem same_stamp {l : List En} (h : (stamps l).Nodup) {x y : En} (hx : x ∈ l) (hy : y ∈ l) (e : x.2.2 = y.2.2) : x = y := by
  have h1 := Fresh.find h hx
  have h2 := Fresh.find h hy
  rw [e] at h1
  rw [h1] at h2
  exact Option.some.inj h2

/-- maps.Keys' function: it hands out each key once, in any order. -/
theorem keys_iter (hP : E.P = Tryz.prog) {W : AW} {y pb m clock : Nat} {es : List En} (hb : W.get pb = some (.row [.map m])) (hm : W.get m = some (.map es clock)) (hf : Fresh es clock) (hlt : m < W.nx)
    (J : List En → AW → Prop) (h0 : J [] (W.alloc (.iter (some m) clock [] clock)))
    (hJ : ∀ done W1, J done W1 → W1.get W.nx = some (.iter (some m) clock (stamps done) clock) ∧ W1.get m = some (.map es clock) ∧ W.nx ≤ W1.nx)
    (hnx : ∀ done W1, J done W1 → W.nx < W1.nx)
    (hy : ∀ done e W1, J done W1 → e ∈ es → e.2.2 ∉ stamps done → done.length < es.length → E.yield y [(W1.put W.nx (.iter (some m) clock (stamps done ++ [e.2.2]) clock)).frz e.1] (W1.put W.nx (.iter (some m) clock (stamps done ++ [e.2.2]) clock)) (fun X W2 => X = .bool true ∧ J (done ++ [e]) W2)) :
    ACalls E 46 [.yld y, .ptr pb 0] W fun X W' => X = .tuple [] ∧ ∃ done : List En, done.Perm es ∧ J done W' := by
  refine ACalls.of hP Tryz.func46 ok46e (by simp) fun _ hok => ?_
  have hl : partV [V.map m] 0 1 false = some (.map m) := rfl
  simp only [c46, e_seq, e_reg, e_block, e_cons, e_nil, e_plain, evs_nil, evs_cons, ev_t, argsA_ap, e_putK, e_putd, e_put, e_then, ↓reduceIte, List.getElem?_cons_zero, List.getElem?_cons_succ, sem_load_row hb hl, sem_rangem hm, e_loop]
  refine ALoop.go (B := awp E _) (fun h => awp_mono _ h) (fun (done : List En) A1 W1 => A1 0 = some (.yld y) ∧ A1 5 = some (.ptr W.nx 0) ∧ J done W1 ∧ (stamps done).Nodup ∧ ∀ e ∈ done, e ∈ es) (fun done => es.length - done.length) []
    ⟨rfl, rfl, h0, List.nodup_nil, by simp⟩ ?_
  rintro done A1 W1 ⟨g0, g5, gJ, gn, gs⟩ _
  obtain ⟨k1, k2, k3⟩ := hJ _ _ gJ
  simp only [e_seq, e_reg, cond_if, e_block, e_exit, e_skip, e_cons, e_nil, e_plain, evs_nil, evs_cons, ev_t, e_putK, e_putd, e_put, e_then, e_then_exit, e_blk_exit, retQ_normal, e_res0, ↓reduceIte, Nat.reduceEqDiff, Bool.false_eq_true, sem_ext0, g5, sem_nextm k1 k2]
  refine ⟨?_, ?_, ?_⟩
  · cases es with
    | nil => exact .inr (.inl rfl)
    | cons e es => exact .inr (.inr ⟨e, by simp, hf.lt e (by simp)⟩)
  · intro hall
    refine ⟨_, rfl, _, _, .weak weak_id, k3, rfl, done, ?_, gJ⟩
    refine perm_of_mem ?_ ?_ fun x => ⟨gs x, fun hx => ?_⟩
    · exact nodup_of_stamps gn
    · exact nodup_of_stamps hf.nodup
    · by_cases hm' : x.2.2 ∈ stamps done
      · obtain ⟨x', h1, h2⟩ := List.mem_map.1 hm'
        rwa [← same_stamp hf.nodup (gs x' h1) hx h2]
      · have := hall x hx hm'
        have := hf.lt x hx
        omega
  · intro e he hne
    have hlen : done.length < es.length := by
      have h1 := length_le_of_sub (l := done ++ [e]) (m := es) (nodup_of_stamps (by
          simp only [stamps, List.map_append, List.map_cons, List.map_nil]
          exact List.nodup_append.2 ⟨gn, by simp, fun a ha b hb => by
            rw [List.mem_singleton.1 hb]
            exact fun e' => hne (e' ▸ ha)⟩)) (fun x hx => by
            rcases List.mem_append.1 hx with hx | hx
            · exact gs x hx
            · rw [List.mem_singleton.1 hx]; exact he)
      simp at h1; omega
    have hne' : m ≠ W.nx := by omega
    have j1 : (W1.put W.nx (.iter (some m) clock (stamps done ++ [e.2.2]) clock)).get W.nx = some (.iter (some m) clock (stamps done ++ [e.2.2]) clock) := by simp [AW.put]
    have j2 : (W1.put W.nx (.iter (some m) clock (stamps done ++ [e.2.2]) clock)).get m = some (.map es clock) := by simp [AW.put, hne', k2]
    have j3 : (stamps done ++ [e.2.2]).getLast? = some e.2.2 := by simp
    rw [sem_entry j1 j2 j3 (Fresh.find hf.nodup he)]
    simp only [e_seq, e_reg, e_cons, e_nil, e_plain, evs_nil, evs_cons, ev_t, e_putK, e_putd, e_put, e_then, ↓reduceIte, Nat.reduceEqDiff, reduceCtorEq, List.map_cons, List.map_nil, sem_mov, sem_ext0, g0, sem_yield]
    refine E.yieldMono _ _ _ _ _ ?_ (hy done e W1 gJ he hne hlen)
    rintro X W2 ⟨rfl, gJ2⟩
    obtain ⟨k4, k5, k6⟩ := hJ _ _ gJ2

    simp only [cond_if, e_skip, e_cons, e_nil, e_plain, evs_nil, evs_cons, ev_t, e_putK, e_putd, e_put, e_then, e_blk, ↓reduceIte, Nat.reduceEqDiff, reduceCtorEq, Bool.false_eq_true, sem_not, g0, g5, Bool.not_true]
    refine ⟨done ++ [e], ⟨trivial, trivial, gJ2, ?_, ?_⟩, ?_, ?_⟩
    · simp only [stamps, List.map_append, List.map_cons, List.map_nil]
      exact List.nodup_append.2 ⟨gn, by simp, fun a ha b hb => by
        rw [List.mem_singleton.1 hb]
        exact fun e' => hne (e' ▸ ha)⟩
    · intro x hx
      rcases List.mem_append.1 hx with hx | hx
      · exact gs x hx
      · rw [List.mem_singleton.1 hx]; exact he
    · have := hlen
      simp; omega
    · have := (hJ _ _ gJ2).2.2
      have h7 : W.nx < W2.nx := hnx _ _ gJ2
      show W.nx + 1 ≤ W2.nx; omega
/- slices.AppendSeq[[]uint16,uint16] -/
def c53 : AC := (AC.seq (AC.reg [
  ⟨(some 2), .box, [.t 0], none⟩,
  ⟨(some 4), .mov, [.c (.nilsl)], none⟩])
 (AC.seq (AC.seq (AC.reg [
  ⟨(some 6), .mov, [.t 1], none⟩])
 (AC.block 0
  (AC.rangef (.t 6) [7]
   (AC.reg [
    ⟨(some 5), .mov, [.t 7], none⟩])
   (AC.block 1
    (AC.reg [
     ⟨(some 8), .load false 1, [.t 2], none⟩,
     ⟨(some 9), .mov, [.t 5], none⟩,
     ⟨(some 10), .bslice 1 1 (.int .u16 0) [0], [.t 9], none⟩,
     ⟨(some 11), .appendx 1 2 [.int .u16 0], [.t 8, .t 10], none⟩,
     ⟨none, .store 1, [.t 2, .t 11], none⟩])))))
 (AC.seq (AC.reg [
  ⟨(some 12), .load false 1, [.t 2], none⟩,
  ⟨(some 4), .mov, [.t 12], none⟩])
 AC.ret)))
def r53 : AC × List RT × Nat := (c53, [.tmp 4], 13)
/- slices.Collect[uint16] -/
def c44 : AC := (AC.seq (AC.reg [
  ⟨(some 2), .mov, [.c (.nilsl)], none⟩])
 (AC.seq (AC.reg [
  ⟨(some 3), .mov, [.t 0], none⟩,
  ⟨(some 4), .call 53, [.c (.nilsl), .t 3], none⟩,
  ⟨(some 2), .mov, [.t 4], none⟩])
 AC.ret))
def r44 : AC × List RT × Nat := (c44, [.tmp 2], 5)

theorem ok53e : compF Tryz.prog Tryz.f53 ⟨true, false, []⟩ = some r53 := by kernel_rfl
theorem ok44e : compF Tryz.prog Tryz.f44 ⟨true, false, []⟩ = some r44 := by kernel_rfl

theorem alloc_lt {W : AW} {o : AObj} {x : Nat} (h : x < W.nx) : (W.alloc o).get x = W.get x := by simp [AW.alloc]; omega
theorem sem_bslice1 {W : AW} {K : V → AW → Prop} {k : IntKind} {n : Int} {z : V} (hz : z.cells.length = 1) : sem E (.bslice 1 1 z [0]) [.int k n] W K = K (.sl 1 true [.int k n]) W := by
  have h1 : (V.int k n).cells.length = 1 := rfl
  simp [sem, rsem, tsem, hz, fillE, h1]
def vecOf (n : Nat) : Option Nat → V
  | none => .nilsl
  | some r => .slr r 0 n 1

theorem sem_appx_nil {W : AW} {K : V → AW → Prop} {by' : Nat} {z : List V} {v : V} (h : by' ≤ 2 ^ 46) : sem E (.appendx 1 by' z) [.nilsl, .sl 1 true [v]] W K = K (.slr W.nx 0 1 1) (W.alloc (.vec 1 v.cells)) := by
  simp [sem, elemsV, h]
theorem sem_appx_slr {W : AW} {K : V → AW → Prop} {by' r len : Nat} {z cells : List V} {v : V} (hg : W.get r = some (.vec 1 cells)) (hl : cells.length = len) (hv : v.cells.all V.one = true) (h : (len + 1) * by' ≤ 2 ^ 46) :
    sem E (.appendx 1 by' z) [.slr r 0 len 1, .sl 1 true [v]] W K = K (.slr W.nx 0 (len + 1) 1) (W.move r (.vec 1 (cells ++ v.cells))) := by
  simp only [sem, elemsV, hg]
  simp [hl, hv, h]
theorem e_endQ {r : Nat} {K : V → AW → Prop} {A : AFr} {W : AW} : endQ r K .normal A W = (W.get r = some (.loop .busy none) ∧ K (.bool true) (W.put r (.loop .ready none))) := id rfl
theorem e_puts1 {A : AFr} {p : Nat} {v : V} : A.puts [p] [v] = A.put p v := id rfl
theorem put_at {W : AW} {r : Nat} {o : AObj} : (W.put r o).get r = some o := by simp [AW.put]
theorem put_ne {W : AW} {r x : Nat} {o : AObj} (h : x ≠ r) : (W.put r o).get x = W.get x := by simp [AW.put, h]
theorem alloc_at {W : AW} {o : AObj} : (W.alloc o).get W.nx = some o := by simp [AW.alloc]
theorem move_ne {W : AW} {r x : Nat} {o : AObj} (h : x ≠ r) (h' : x ≠ W.nx) : (W.move r o).get x = W.get x := by simp [AW.move, h, h']
theorem move_at {W : AW} {r : Nat} {o : AObj} : (W.move r o).get W.nx = some o := by simp [AW.move]
theorem move_nx {W : AW} {r : Nat} {o : AObj} : (W.move r o).nx = W.nx + 1 := id rfl
theorem put_nx {W : AW} {r : Nat} {o : AObj} : (W.put r o).nx = W.nx := id rfl
theorem alloc_nx {W : AW} {o : AObj} : (W.alloc o).nx = W.nx + 1 := id rfl

theorem collect_c (hP : E.P = Tryz.prog) {W : AW} {pb m clock : Nat} {es : List En} (hb : W.get pb = some (.row [.map m])) (hm : W.get m = some (.map es clock)) (hf : Fresh es clock) (hpb : pb < W.nx) (hmlt : m < W.nx)
    (hk : ∀ e ∈ es, ∃ n, e.1 = .int .u16 n) (hsz : es.length < 2 ^ 40) :
    ACalls E 53 [.nilsl, .fn (.func 46) [] [.ptr pb 0]] W fun X W' => ∃ done : List En, done.Perm es ∧ (∀ x, x < W.nx → W'.get x = W.get x) ∧ W.nx ≤ W'.nx ∧
      ((done = [] ∧ X = .nilsl) ∨ ∃ r, (W.nx ≤ r ∧ done ≠ []) ∧ r < W'.nx ∧ X = .slr r 0 done.length 1 ∧ W'.get r = some (.vec 1 (done.map (·.1)))) := by
  refine ACalls.of hP Tryz.func53 ok53e (by simp) fun _ hok => ?_
  simp only [c53, e_seq, e_reg, e_block, e_cons, e_nil, e_plain, evs_nil, evs_cons, ev_t, ev_c, argsA_ap, e_putK, e_putd, e_put, e_then, ↓reduceIte, Nat.reduceEqDiff, List.map_cons, List.map_nil, List.getElem?_cons_zero, List.getElem?_cons_succ, frz_ptr, sem_mov, sem_box, awp_rangef']
  intro E' eP eG ey _
  have hP' : E'.P = Tryz.prog := eP.trans hP
  have hbox : ((W.alloc (.row [.nilsl])).alloc (.loop .ready none)).get pb = some (.row [.map m]) := by rw [alloc_lt (by simp [AW.alloc]; omega), alloc_lt hpb, hb]
  have hmap : ((W.alloc (.row [.nilsl])).alloc (.loop .ready none)).get m = some (.map es clock) := by rw [alloc_lt (by simp [AW.alloc]; omega), alloc_lt hmlt, hm]
  refine (keys_iter (E := E') hP' (y := W.nx + 1) hbox hmap hf (by simp [AW.alloc]; omega) (fun done W' => ∃ h, W'.get W.nx = some (.row [h]) ∧ ((done = [] ∧ h = .nilsl) ∨ ∃ r, (W.nx + 3 ≤ r ∧ done ≠ []) ∧ r < W'.nx ∧ h = .slr r 0 done.length 1 ∧ W'.get r = some (.vec 1 (done.map (·.1)))) ∧
    W'.get (W.nx + 1) = some (.loop .ready none) ∧ W'.get (W.nx + 2) = some (.iter (some m) clock (stamps done) clock) ∧ (∀ x, x < W.nx → W'.get x = W.get x) ∧ W.nx + 3 ≤ W'.nx) ?_ ?_ ?_ ?_).mono ?_
  · refine ⟨.nilsl, ?_, .inl ⟨rfl, rfl⟩, ?_, ?_, ?_, ?_⟩
    · simp [AW.alloc]; omega
    · simp [AW.alloc]
    · simp [AW.alloc, stamps]
    · intro x hx
      rw [alloc_lt (by simp [AW.alloc]; omega), alloc_lt (by simp [AW.alloc]; omega), alloc_lt hx]
    · simp [AW.alloc]
  · rintro done W1 ⟨h, b1, b2, b3, b4, b5, b6⟩
    exact ⟨b4, by rw [b5 m hmlt, hm], by simp only [alloc_nx]; omega⟩
  · rintro done W1 ⟨h, b1, b2, b3, b4, b5, b6⟩
    simp only [alloc_nx]; omega
  · rintro done e W1 ⟨h, b1, b2, b3, b4, b5, b6⟩ he hne hlen
    obtain ⟨kv, hkv⟩ := hk e he
    rw [hkv, frz_int]
    apply ey
    have d1 : W.nx ≠ W.nx + 1 + 1 := by omega
    have d2 : W.nx + 1 ≠ W.nx + 1 + 1 := by omega
    have d3 : W.nx ≠ W.nx + 1 := by omega
    have d4 : W.nx + 1 + 1 ≠ W.nx + 1 := by omega
    have d5 : W.nx + 1 + 1 ≠ W.nx := by omega
    have d6 : W.nx + 1 ≠ W.nx := by omega
    simp only [alloc_nx]
    refine ⟨by rw [put_ne d2]; exact b3, rfl, ?_⟩
    have hg3 : ((W1.put (W.nx + 1 + 1) (.iter (some m) clock (stamps done ++ [e.2.2]) clock)).put (W.nx + 1) (.loop .busy none)).get W.nx = some (.row [h]) := by rw [put_ne d3, put_ne d1]; exact b1
    have hl : partV [h] 0 1 false = some h := rfl
    have hst : ∀ (l : List En), stamps (l ++ [e]) = stamps l ++ [e.2.2] := fun l => by simp [stamps]
    simp only [e_reg, e_block, e_cons, e_nil, e_plain, evs_nil, evs_cons, ev_t, e_putK, e_putd, e_put, e_then, e_blk, ↓reduceIte, Nat.reduceEqDiff, sem_mov, e_puts1]
    refine ⟨by rw [put_ne d2]; exact b3, ?_⟩
    have hv1 : (V.int .u16 kv).cells.all V.one = true := rfl
    have hz : (V.int .u16 0).cells.length = 1 := rfl
    rcases b2 with ⟨rfl, rfl⟩ | ⟨r, ⟨r1, rne⟩, r2, rfl, r3⟩
    · have hst2 : (((W1.put (W.nx + 1 + 1) (.iter (some m) clock (stamps [] ++ [e.2.2]) clock)).put (W.nx + 1) (.loop .busy none)).alloc (.vec 1 (V.int .u16 kv).cells)).get W.nx = some (.row [.nilsl]) := by rw [alloc_lt (by simp only [put_nx]; omega)]; exact hg3
      have c1 : (V.slr W1.nx 0 1 1).cells.length = 1 := rfl
      have c2 : (V.slr W1.nx 0 1 1).cells.all V.one = true := rfl
      simp only [e_cons, e_nil, e_plain, evs_nil, evs_cons, ev_t, e_putK, e_putd, e_putd0, e_put, ↓reduceIte, Nat.reduceEqDiff, sem_mov, e_endQ, sem_load_row hg3 hl, sem_bslice1 hz, sem_appx_nil (by' := 2) (by decide), put_nx, sem_store_row (off := 0) (s := 1) hst2 c1 c2 (by simp)]
      refine ⟨?_, trivial, .slr W1.nx 0 1 1, ?_, .inr ⟨W1.nx, ⟨by omega, by simp⟩, ?_, by simp, ?_⟩, ?_, ?_, ?_, ?_⟩
      · rw [put_ne d6, alloc_lt (by simp only [put_nx]; omega), put_at]
      · rw [put_ne d3, put_at]; rfl
      · simp only [put_nx, alloc_nx]; omega
      · rw [put_ne (by omega), put_ne (by omega)]
        have : ((W1.put (W.nx + 1 + 1) (.iter (some m) clock (stamps [] ++ [e.2.2]) clock)).put (W.nx + 1) (.loop .busy none)).nx = W1.nx := rfl
        rw [← this, alloc_at]; simp [hkv, V.cells]
      · rw [put_at]
      · rw [put_ne d4, put_ne d5, alloc_lt (by simp only [put_nx]; omega), put_ne d4, put_at, hst]
      · intro x hx
        rw [put_ne (by omega), put_ne (by omega), alloc_lt (by simp only [put_nx]; omega), put_ne (by omega), put_ne (by omega)]; exact b5 x hx
      · simp only [put_nx, alloc_nx]; omega
    · have hgr : ((W1.put (W.nx + 1 + 1) (.iter (some m) clock (stamps done ++ [e.2.2]) clock)).put (W.nx + 1) (.loop .busy none)).get r = some (.vec 1 (done.map (·.1))) := by rw [put_ne (by omega), put_ne (by omega)]; exact r3
      have hst2 : (((W1.put (W.nx + 1 + 1) (.iter (some m) clock (stamps done ++ [e.2.2]) clock)).put (W.nx + 1) (.loop .busy none)).move r (.vec 1 (done.map (·.1) ++ (V.int .u16 kv).cells))).get W.nx = some (.row [.slr r 0 done.length 1]) := by rw [move_ne (by omega) (by simp only [put_nx]; omega)]; exact hg3
      have c1 : (V.slr W1.nx 0 (done.length + 1) 1).cells.length = 1 := rfl
      have c2 : (V.slr W1.nx 0 (done.length + 1) 1).cells.all V.one = true := rfl
      simp only [e_cons, e_nil, e_plain, evs_nil, evs_cons, ev_t, e_putK, e_putd, e_putd0, e_put, ↓reduceIte, Nat.reduceEqDiff, sem_mov, e_endQ, sem_load_row hg3 hl, sem_bslice1 hz, sem_appx_slr (by' := 2) (len := done.length) hgr (by simp) hv1 (by omega), put_nx, sem_store_row (off := 0) (s := 1) hst2 c1 c2 (by simp)]
      refine ⟨?_, trivial, .slr W1.nx 0 (done.length + 1) 1, ?_, .inr ⟨W1.nx, ⟨by omega, by simp⟩, ?_, by simp, ?_⟩, ?_, ?_, ?_, ?_⟩
      · rw [put_ne d6, move_ne (by omega) (by simp only [put_nx]; omega), put_at]
      · rw [put_ne d3, put_at]; rfl
      · simp only [put_nx, move_nx]; omega
      · rw [put_ne (by omega), put_ne (by omega)]
        have : ((W1.put (W.nx + 1 + 1) (.iter (some m) clock (stamps done ++ [e.2.2]) clock)).put (W.nx + 1) (.loop .busy none)).nx = W1.nx := rfl
        rw [← this, move_at]; simp [hkv, V.cells]
      · rw [put_at]
      · rw [put_ne d4, put_ne d5, move_ne (by omega) (by simp only [put_nx]; omega), put_ne d4, put_at, hst]
      · intro x hx
        rw [put_ne (by omega), put_ne (by omega), move_ne (by omega) (by simp only [put_nx]; omega), put_ne (by omega), put_ne (by omega)]; exact b5 x hx
      · simp only [put_nx, move_nx]; omega
  · rintro X W' ⟨rfl, done, hperm, h, b1, b2, b3, b4, b5, b6⟩
    have b3' : W'.get (W.alloc (.row V.nilsl.cells)).nx = some (.loop .ready none) := b3
    have hg : (W'.put (W.nx + 1) (.loop .exhausted none)).get W.nx = some (.row [h]) := by rw [put_ne (by omega)]; exact b1
    have hl : partV [h] 0 1 false = some h := rfl
    unfold doneQ
    rw [b3']
    simp only [e_seq, e_reg, e_ret, e_cons, e_nil, e_plain, evs_nil, evs_cons, ev_t, e_putK, e_putd, e_put, e_then, e_blk, retQ_ret, e_res1, ↓reduceIte, Nat.reduceEqDiff, Option.map_some, sem_mov, alloc_nx, sem_load_row hg hl]
    have hfr : (W'.put (W.nx + 1) (.loop .exhausted none)).frz h = h := by
      rcases b2 with ⟨_, rfl⟩ | ⟨r, ⟨r1, rne⟩, r2, rfl, r3⟩
      · rfl
      · have : (W'.put (W.nx + 1) (.loop .exhausted none)).get r = some (.vec 1 (done.map (·.1))) := by rw [put_ne (by omega)]; exact r3
        simp [AW.frz]
    rw [hfr]
    refine ⟨_, rfl, h, _, .weak weak_id, by rw [put_nx]; omega, done, hperm, ?_, by rw [put_nx]; omega, ?_⟩
    · intro x hx
      rw [put_ne (by omega)]; exact b5 x hx
    · rcases b2 with ⟨h1, h2⟩ | ⟨r, ⟨r1, rne⟩, r2, h3, r3⟩
      · exact .inl ⟨h1, h2⟩
      · exact .inr ⟨r, ⟨by omega, rne⟩, by rw [put_nx]; exact r2, h3, by rw [put_ne (by omega)]; exact r3⟩
end Go.AL.S
set_option maxRecDepth 100000
namespace Go.AL.S
open Go Go.AL Go.Proofs Go.Sort
/- slices.Sort[[]uint16,uint16] -/
def c45 : AC := (AC.seq (AC.reg [
  ⟨(some 3), .mov, [.t 0], none⟩,
  ⟨(some 4), .len 1 0, [.t 3], none⟩,
  ⟨(some 2), .mov, [.t 4], none⟩])
 (AC.reg [
  ⟨(some 5), .mov, [.t 0], none⟩,
  ⟨(some 6), .mov, [.t 2], none⟩,
  ⟨(some 7), .mov, [.t 2], none⟩,
  ⟨(some 8), .conv .u64, [.t 7], none⟩,
  ⟨(some 9), .call 55, [.t 8], none⟩,
  ⟨(some 10), .call 54, [.t 5, .c (.int .i64 0), .t 6, .t 9], none⟩]))
def r45 : AC × List RT × Nat := (c45, [], 11)
theorem ok45e : compF Tryz.prog Tryz.f45 ⟨true, false, []⟩ = some r45 := by kernel_rfl
variable {E : Env}
theorem sort_c (hP : E.P = Tryz.prog) (W : AW) (r n : Nat) (d : Array Int) (hn : d.size = n) (hr : r < W.nx) (hsm : n < 4294967296) :
    ACalls E 45 [.slr r 0 n 1] (pv W r d) fun X W' => X = .tuple [] ∧ W' = pv W r (sort ltInt d) := by
  refine ACalls.of hP Tryz.func45 ok45e (by simp) fun _ hok => ?_
  have hb : bitsLen n ≤ 32 := (bitsLen_le_iff n 32).2 (by omega)
  simp (disch := omega) only [c45, e_seq, e_reg, e_cons, e_nil, e_plain, evs_nil, evs_cons, ev_t, argsA_ap, e_putK, e_putd, e_put, e_then, ↓reduceIte, Nat.reduceEqDiff, reduceCtorEq, List.map_cons, List.map_nil, List.getElem?_cons_zero, frz_int, sem_mov, sem_conv, sem_call, sem_len_slr, un]
  refine (len_c hP _ n hsm).mono ?_
  rintro X W' ⟨rfl, rfl⟩
  simp only [e_cons, e_plain, evs_nil, evs_cons, ev_t, ev_c, e_putK, e_putd, e_put, ↓reduceIte, Nat.reduceEqDiff, List.map_cons, List.map_nil, frz_int, frz_slr, sem_call]
  refine (pdq_c hP n hsm (n + 1) W r 0 n (bitsLen n) d (by omega) hn hr (Nat.zero_le _) (Nat.le_refl _) (by omega)).mono ?_
  rintro X W' ⟨rfl, rfl⟩
  simp only [e_nil, e_putK, e_putd, retQ_normal, e_res0]
  exact ⟨_, rfl, _, _, .weak weak_id, Nat.le_refl _, rfl, by rw [sort, hn]⟩
end Go.AL.S
set_option maxRecDepth 100000
namespace Go.AL.S
open Go Go.AL Go.Proofs Go.Sort
/- slices.Sorted[uint16] -/
def c34 : AC := (AC.seq (AC.reg [
  ⟨(some 2), .mov, [.c (.nilsl)], none⟩])
 (AC.seq (AC.reg [
  ⟨(some 4), .mov, [.t 0], none⟩,
  ⟨(some 5), .call 44, [.t 4], none⟩,
  ⟨(some 3), .mov, [.t 5], none⟩])
 (AC.seq (AC.reg [
  ⟨(some 6), .mov, [.t 3], none⟩,
  ⟨(some 7), .call 45, [.t 6], none⟩])
 (AC.seq (AC.reg [
  ⟨(some 8), .mov, [.t 3], none⟩,
  ⟨(some 2), .mov, [.t 8], none⟩])
 AC.ret))))
def r34 : AC × List RT × Nat := (c34, [.tmp 2], 9)
theorem ok34e : compF Tryz.prog Tryz.f34 ⟨true, false, []⟩ = some r34 := by kernel_rfl
variable {E : Env}
theorem collect44_c (hP : E.P = Tryz.prog) {W : AW} {pb m clock : Nat} {es : List En} (hb : W.get pb = some (.row [.map m])) (hm : W.get m = some (.map es clock)) (hf : Fresh es clock) (hpb : pb < W.nx) (hmlt : m < W.nx)
    (hk : ∀ e ∈ es, ∃ n, e.1 = .int .u16 n) (hsz : es.length < 2 ^ 40) :
    ACalls E 44 [.fn (.func 46) [] [.ptr pb 0]] W fun X W' => ∃ done : List En, done.Perm es ∧ (∀ x, x < W.nx → W'.get x = W.get x) ∧ W.nx ≤ W'.nx ∧
      ((done = [] ∧ X = .nilsl) ∨ ∃ r, (W.nx ≤ r ∧ done ≠ []) ∧ r < W'.nx ∧ X = .slr r 0 done.length 1 ∧ W'.get r = some (.vec 1 (done.map (·.1)))) := by
  refine ACalls.of hP Tryz.func44 ok44e (by simp) fun _ hok => ?_
  simp only [c44, e_seq, e_reg, e_cons, e_nil, e_plain, evs_nil, evs_cons, ev_t, ev_c, argsA_ap, e_putK, e_putd, e_put, e_then, ↓reduceIte, reduceCtorEq, List.map_cons, List.map_nil, List.getElem?_cons_zero, frz_nilsl, frz_fn, sem_mov, sem_call]
  refine (collect_c hP hb hm hf hpb hmlt hk hsz).mono ?_
  rintro X W' ⟨done, h1, h2, h3, h4⟩
  have hfr : W'.frz X = X := by rcases h4 with ⟨_, rfl⟩ | ⟨r, _, _, rfl, _⟩ <;> rfl
  simp only [e_ret, e_cons, e_nil, e_plain, evs_nil, evs_cons, ev_t, e_putK, e_putd, e_put, retQ_ret, e_res1, ↓reduceIte, Option.map_some, sem_mov, hfr]
  exact ⟨_, rfl, _, _, .weak weak_id, h3, done, h1, h2, h3, h4⟩
theorem sort_perm_eq {l l' : List Int} (h : l.Perm l') : (sort ltInt l.toArray).toList = (sort ltInt l'.toArray).toList := by
  rw [sortInt, sortInt]
  have a1 := List.pairwise_mergeSort (le := fun x y : Int => decide (x ≤ y)) (by simp; omega) (by simp; omega) l
  have a2 := List.pairwise_mergeSort (le := fun x y : Int => decide (x ≤ y)) (by simp; omega) (by simp; omega) l'
  have p : (l.mergeSort fun x y => decide (x ≤ y)).Perm (l'.mergeSort fun x y => decide (x ≤ y)) := (List.mergeSort_perm l _).trans (h.trans (List.mergeSort_perm l' _).symm)
  refine p.eq_of_pairwise ?_ a1 a2
  intro x y _ _ h1 h2
  simp at h1 h2; omega
theorem insertion_nil (hP : E.P = Tryz.prog) (W : AW) : ACalls E 81 [.nilsl, .int .i64 0, .int .i64 0] W fun X W' => X = .tuple [] ∧ W' = W := by
  refine ACalls.of hP Tryz.func81 ok81e (by simp) fun _ hok => ?_
  have h1 : IntKind.i64.wrap (0 + 1) = 1 := rfl
  have h2 : decide ((1 : Int) < 0) = false := by decide
  simp only [c81, e_seq, e_reg, e_block, e_cons, e_nil, e_plain, evs_nil, evs_cons, ev_t, ev_c, argsA_ap, e_putK, e_putd, e_put, e_then, ↓reduceIte, List.getElem?_cons_zero, List.getElem?_cons_succ, sem_mov, sem_add, h1, e_loop]
  refine ALoop.go (B := awp E _) (fun h => awp_mono _ h) (fun (s : Unit) A1 W1 => A1 2 = some (.int .i64 0) ∧ A1 6 = some (.int .i64 1) ∧ W1 = W) (fun s => 0) ()
    ⟨rfl, rfl, rfl⟩ ?_
  rintro _ A1 W1 ⟨g2, g6, rfl⟩ _
  simp only [e_seq, e_reg, cond_if, e_exit, e_cons, e_nil, e_plain, evs_nil, evs_cons, ev_t, e_putK, e_putd, e_put, e_then, e_then_exit, e_blk_exit, retQ_normal, e_res0, ↓reduceIte, Nat.reduceEqDiff, Bool.false_eq_true, sem_mov, sem_lss, g2, g6, h2]
  exact ⟨_, rfl, _, _, .weak weak_id, Nat.le_refl _, rfl, rfl⟩
theorem pdq_nil (hP : E.P = Tryz.prog) (W : AW) (lim : Nat) : ACalls E 54 [.nilsl, .int .i64 0, .int .i64 0, .int .i64 lim] W fun X W' => X = .tuple [] ∧ W' = W := by
  refine ACalls.of hP Tryz.func54 ok54e (by simp) fun _ hok => ?_
  have h1 : IntKind.i64.wrap (0 - 0) = 0 := rfl
  have h2 : decide ((0 : Int) ≤ 12) = true := by decide
  simp only [c54, e_seq, e_reg, e_block, e_cons, e_nil, e_plain, evs_nil, evs_cons, ev_c, e_putK, e_putd, e_then, sem_mov, e_loop]
  refine ALoop.go (B := awp E _) (fun h => awp_mono _ h) (fun (s : Unit) A1 W1 => A1 0 = some .nilsl ∧ A1 1 = some (.int .i64 0) ∧ A1 2 = some (.int .i64 0) ∧ W1 = W) (fun s => 0) ()
    ⟨rfl, rfl, rfl, rfl⟩ ?_
  rintro _ A1 W1 ⟨g0, g1, g2, rfl⟩ _
  simp only [e_seq, e_reg, cond_if, e_block, e_cons, e_nil, e_plain, evs_nil, evs_cons, ev_t, ev_c, e_putK, e_putd, e_put, e_then, ↓reduceIte, Nat.reduceEqDiff, reduceCtorEq, List.map_cons, List.map_nil, frz_int, frz_nilsl, sem_mov, sem_sub, sem_leq, sem_call, g0, g1, g2, h1, h2]
  refine (insertion_nil hP _).mono ?_
  rintro X W' ⟨rfl, rfl⟩
  simp only [e_ret, e_nil, e_putK, e_putd, e_then_ret, e_blk_ret, retQ_ret, e_res0]
  exact ⟨_, rfl, _, _, .weak weak_id, Nat.le_refl _, rfl, rfl⟩
theorem sort_nil (hP : E.P = Tryz.prog) (W : AW) : ACalls E 45 [.nilsl] W fun X W' => X = .tuple [] ∧ W' = W := by
  refine ACalls.of hP Tryz.func45 ok45e (by simp) fun _ hok => ?_
  have h1 : IntKind.u64.wrap 0 = ((0 : Nat) : Int) := rfl
  simp only [c45, e_seq, e_reg, e_cons, e_nil, e_plain, evs_nil, evs_cons, ev_t, argsA_ap, e_putK, e_putd, e_put, e_then, ↓reduceIte, Nat.reduceEqDiff, reduceCtorEq, List.map_cons, List.map_nil, List.getElem?_cons_zero, frz_int, sem_mov, sem_conv, sem_call, sem_len_nil, h1]
  refine (len_c hP _ 0 (by decide)).mono ?_
  rintro X W' ⟨rfl, rfl⟩
  simp only [e_cons, e_plain, evs_nil, evs_cons, ev_t, ev_c, e_putK, e_putd, e_put, ↓reduceIte, Nat.reduceEqDiff, List.map_cons, List.map_nil, frz_int, frz_nilsl, sem_call]
  refine (pdq_nil hP _ _).mono ?_
  rintro X W' ⟨rfl, rfl⟩
  simp only [e_nil, e_putK, e_putd, retQ_normal, e_res0]
  exact ⟨_, rfl, _, _, .weak weak_id, Nat.le_refl _, rfl, rfl⟩
end Go.AL.S
set_option maxRecDepth 100000
namespace Go.AL.S
open Go Go.AL Go.Proofs Go.Sort
variable {E : Env}
theorem chunks1 : ∀ (l : List V), chunks 1 l.length l = l
  | [] => rfl
  | x :: l => by
    show _ :: chunks 1 l.length ((x :: l).drop 1) = _
    rw [List.drop_succ_cons, List.drop_zero, chunks1 l]; rfl
/-- Numbers in ascending order, as a slice that is written no more. -/
def sortedV (l : List Int) : V := if l = [] then .nilsl else .sl 1 false ((sort ltInt l.toArray).toList.map (V.int .u16))
theorem one_ints (l : List Int) : (l.map (V.int .u16)).all V.one = true := by
  induction l with
  | nil => rfl
  | cons x l ih => simp [V.one, ih]
theorem sort_size (l : List Int) : (sort ltInt l.toArray).size = l.length := by
  have := (sort_sorts ltInt swo_ltInt l.toArray).1.1
  simpa using this

theorem sorted_c (hP : E.P = Tryz.prog) {W : AW} {pb m clock : Nat} {es : List En} (key : En → Int) (hb : W.get pb = some (.row [.map m])) (hm : W.get m = some (.map es clock)) (hf : Fresh es clock) (hpb : pb < W.nx) (hmlt : m < W.nx)
    (hk : ∀ e ∈ es, e.1 = .int .u16 (key e)) (hsz : es.length < 4294967296) :
    ACalls E 34 [.fn (.func 46) [] [.ptr pb 0]] W fun X W' => X = sortedV (es.map key) ∧ W' = W := by
  refine ACalls.of hP Tryz.func34 ok34e (by simp) fun _ hok => ?_
  simp only [c34, e_seq, e_reg, e_cons, e_nil, e_plain, evs_nil, evs_cons, ev_t, ev_c, argsA_ap, e_putK, e_putd, e_put, e_then, ↓reduceIte, reduceCtorEq, List.map_cons, List.map_nil, List.getElem?_cons_zero, frz_fn, sem_mov, sem_call]
  refine (collect44_c hP hb hm hf hpb hmlt (fun e he => ⟨_, hk e he⟩) (by omega)).mono ?_
  rintro X W' ⟨done, h1, h2, h3, h4⟩
  rcases h4 with ⟨rfl, rfl⟩ | ⟨r, ⟨hr, hne⟩, hrn, rfl, hg⟩
  · obtain rfl : es = [] := h1.symm.eq_nil
    simp only [e_seq, e_reg, e_cons, e_nil, e_plain, evs_nil, evs_cons, ev_t, e_putK, e_putd, e_put, e_then, ↓reduceIte, List.map_cons, List.map_nil, frz_nilsl, sem_mov, sem_call]
    refine (sort_nil hP _).mono ?_
    rintro X W'' ⟨rfl, rfl⟩
    simp only [e_seq, e_reg, e_ret, e_cons, e_nil, e_plain, evs_nil, evs_cons, ev_t, e_putK, e_putd, e_put, e_then, retQ_ret, e_res1, ↓reduceIte, Nat.reduceEqDiff, Option.map_some, frz_nilsl, sem_mov]
    exact ⟨_, rfl, _, W, .weak (weak_back hok rfl h2), Nat.le_refl _, rfl, rfl⟩
  · have hlen : done.length = es.length := h1.length_eq
    have hkd : done.map (·.1) = cellsI (done.map key).toArray := by
      simp only [cellsI, List.map_map]
      refine List.map_congr_left fun e he => ?_
      exact hk e (h1.mem_iff.1 he)
    have hsd : (done.map key).toArray.size = done.length := by simp
    rw [hkd] at hg
    have hpv := pv_self hg
    simp only [e_seq, e_reg, e_cons, e_nil, e_plain, evs_nil, evs_cons, ev_t, e_putK, e_putd, e_put, e_then, ↓reduceIte, List.map_cons, List.map_nil, frz_slr, sem_mov, sem_call]
    rw [← hpv]
    refine (sort_c hP W' r done.length (done.map key).toArray hsd hrn (by omega)).mono ?_
    rintro X W'' ⟨rfl, rfl⟩
    simp only [e_seq, e_reg, e_ret, e_cons, e_nil, e_plain, evs_nil, evs_cons, ev_t, e_putK, e_putd, e_put, e_then, retQ_ret, e_res1, ↓reduceIte, Nat.reduceEqDiff, Option.map_some, frz_slr, sem_mov]
    obtain ⟨zs, hzs⟩ : ∃ zs, zs = sort ltInt (done.map key).toArray := ⟨_, rfl⟩
    have hzl : zs.size = done.length := by rw [hzs, sort_size]; simp
    rw [← hzs]
    have hcl : (cellsI zs).length = done.length := by rw [cellsI_len, hzl]
    have hpos : 0 < done.length := List.length_pos_iff.2 hne
    have hch : chunks 1 done.length (cellsI zs) = cellsI zs := by rw [← hcl]; exact chunks1 _
    have hX : V.sl 1 false (cellsI zs) = sortedV (es.map key) := by
      have : es.map key ≠ [] := by
        intro e
        have := congrArg List.length e
        simp at this
        subst this
        simp at hlen
        exact hne hlen
      rw [sortedV, if_neg this, cellsI, hzs, sort_perm_eq (h1.map key)]
    refine ⟨_, rfl, .sl 1 false (cellsI zs), W, ?_, Nat.le_refl _, hX, rfl⟩
    rw [← hch]
    refine .frz pv_get (by rw [hcl]; omega) hpos (by decide) (one_ints _) ?_
    refine weak_back hok (by rw [hch]; exact bel_ints _ _) ?_
    intro x hx
    have : x ≠ r := by omega
    simp only [AW.drop, pv, AW.put, this, ↓reduceIte]
    exact h2 x hx
end Go.AL.S
set_option maxRecDepth 100000
namespace Go.AL.S
open Go Go.AL Go.Proofs
/- slices.Clone[[]uint16,uint16] -/
def c39 : AC := (AC.seq (AC.reg [
  ⟨(some 2), .mov, [.c (.nilsl)], none⟩])
 (AC.seq (AC.seq (AC.reg [
  ⟨(some 3), .mov, [.t 0], none⟩,
  ⟨(some 4), .eqn false 1, [.t 3, .c (.nilsl)], none⟩])
 (AC.cond (.t 4)
  (AC.seq (AC.reg [
   ⟨(some 2), .mov, [.c (.nilsl)], none⟩])
  AC.ret)
  AC.skip))
 (AC.seq (AC.reg [
  ⟨(some 5), .bslice 1 0 (.int .u16 0) [], [], none⟩,
  ⟨(some 6), .mov, [.t 0], none⟩,
  ⟨(some 7), .append 1 2, [.t 5, .t 6], none⟩,
  ⟨(some 2), .mov, [.t 7], none⟩])
 AC.ret)))
def r39 : AC × List RT × Nat := (c39, [.tmp 2], 8)
theorem ok39e : compF Tryz.prog Tryz.f39 ⟨false, false, []⟩ = some r39 := by kernel_rfl
/- slices.Clone[[]umpire/api.Micro,umpire/api.Micro] -/
def c32 : AC := (AC.seq (AC.reg [
  ⟨(some 2), .mov, [.c (.nilsl)], none⟩])
 (AC.seq (AC.seq (AC.reg [
  ⟨(some 3), .mov, [.t 0], none⟩,
  ⟨(some 4), .eqn false 1, [.t 3, .c (.nilsl)], none⟩])
 (AC.cond (.t 4)
  (AC.seq (AC.reg [
   ⟨(some 2), .mov, [.c (.nilsl)], none⟩])
  AC.ret)
  AC.skip))
 (AC.seq (AC.reg [
  ⟨(some 5), .bslice 3 0 (.agg [.bool false, .int .u8 0, .int .u16 0]) [], [], none⟩,
  ⟨(some 6), .mov, [.t 0], none⟩,
  ⟨(some 7), .append 3 4, [.t 5, .t 6], none⟩,
  ⟨(some 2), .mov, [.t 7], none⟩])
 AC.ret)))
def r32 : AC × List RT × Nat := (c32, [.tmp 2], 8)
theorem ok32e : compF Tryz.prog Tryz.f32 ⟨false, false, []⟩ = some r32 := by kernel_rfl
/- umpire/txn.lists -/
def c28 : AC := (AC.seq (AC.reg [
  ⟨(some 2), .mov, [.c (.nilsl)], none⟩])
 (AC.seq (AC.seq (AC.reg [
  ⟨(some 5), .mov, [.t 0], none⟩,
  ⟨(some 6), .len 1 0, [.t 5], none⟩,
  ⟨(some 7), .mov, [.c (.int .i64 0)], none⟩])
 (AC.block 0
  (AC.loop
   (AC.seq (AC.reg [
    ⟨(some 8), .bin .lss, [.t 7, .t 6], none⟩])
   (AC.seq (AC.cond (.t 8)
    AC.skip
    (AC.exit 0))
   (AC.seq (AC.block 1
    (AC.seq (AC.reg [
     ⟨(some 9), .idxp 1, [.t 5, .t 7], none⟩,
     ⟨(some 10), .load false 1, [.t 9], none⟩,
     ⟨(some 4), .mov, [.t 10], none⟩])
    (AC.reg [
     ⟨(some 11), .mov, [.t 2], none⟩,
     ⟨(some 12), .mov, [.t 4], none⟩,
     ⟨(some 13), .call 39, [.t 12], none⟩,
     ⟨(some 14), .bslice 1 1 (.nilsl) [0], [.t 13], none⟩,
     ⟨(some 15), .append 1 24, [.t 11, .t 14], none⟩,
     ⟨(some 2), .mov, [.t 15], none⟩])))
   (AC.reg [
    ⟨(some 16), .bin .add, [.t 7, .c (.int .i64 1)], none⟩,
    ⟨(some 7), .mov, [.t 16], none⟩])))))))
 (AC.seq (AC.reg [
  ⟨(some 17), .mov, [.t 2], none⟩,
  ⟨(some 2), .mov, [.t 17], none⟩])
 AC.ret)))
def r28 : AC × List RT × Nat := (c28, [.tmp 2], 18)
theorem ok28e : compF Tryz.prog Tryz.f28 ⟨false, false, []⟩ = some r28 := by kernel_rfl
/- (umpire/txn.Txn).own -/
def c36 : AC := (AC.seq (AC.reg [
  ⟨(some 1), .box, [.t 0], none⟩,
  ⟨(some 2), .alloc [.int .u16 0, .int .u8 0, .nilsl, .nilsl, .int .u8 0], [], none⟩])
 (AC.seq (AC.par
  (PT.step 0 ⟨(some 3), .fld 2, [.t 1], none⟩
  (PT.step 3 ⟨(some 6), .fld 3, [.t 1], none⟩
  (PT.step 1 ⟨(some 4), .load false 1, [.t 3], none⟩
  (PT.step 2 ⟨(some 5), .pcall 32, [.t 4], none⟩
  (PT.step 4 ⟨(some 7), .load false 1, [.t 6], none⟩
  (PT.step 6 ⟨(some 9), .fld 2, [.t 1], none⟩
  (PT.step 5 ⟨(some 8), .pcall 28, [.t 7], none⟩
  (PT.step 7 ⟨none, .store 1, [.t 9, .t 5], none⟩
  (PT.step 8 ⟨(some 10), .fld 3, [.t 1], none⟩
  (PT.step 9 ⟨none, .store 1, [.t 10, .t 8], none⟩
  PT.done)))))))))))
 (AC.seq (AC.reg [
  ⟨(some 11), .load true 5, [.t 1], none⟩,
  ⟨none, .store 5, [.t 2, .t 11], none⟩])
 AC.ret)))
def r36 : AC × List RT × Nat := (c36, [.cell 2 true 5], 12)
theorem ok36e : compF Tryz.prog Tryz.f36 ⟨false, false, []⟩ = some r36 := by kernel_rfl
variable {E : Env}
/-- Slices that are read alone. -/
def isS (s : Nat) (v : V) (xs : List V) : Prop := (v = .nilsl ∧ xs = []) ∨ (v = .slz ∧ xs = []) ∨ ∃ f, v = .sl s f xs
theorem isS.nil {s : Nat} : isS s .nilsl [] := .inl ⟨rfl, rfl⟩
theorem isS.mk {s : Nat} {f : Bool} {xs : List V} : isS s (.sl s f xs) xs := .inr (.inr ⟨f, rfl⟩)
/-- A copy of a slice. -/
def cloneV (s : Nat) : V → V
  | .slz => .sl s true []
  | .sl _ _ [] => .sl s true []
  | .sl _ _ xs => .sl s false xs
  | v => v
theorem sem_bslice0 {W : AW} {K : V → AW → Prop} {s : Nat} {z : V} (hz : z.cells.length = s) : sem E (.bslice s 0 z []) [] W K = K (.sl s true []) W := by
  simp [sem, rsem, tsem, hz, fillE]
theorem eqn_nil {W : AW} {K : V → AW → Prop} : sem E (.eqn false 1) [.nilsl, .nilsl] W K = K (.bool true) W := by simp [sem, rsem, tsem, eqNil]
theorem eqn_sl {W : AW} {K : V → AW → Prop} {s : Nat} {f : Bool} {xs : List V} : sem E (.eqn false 1) [.sl s f xs, .nilsl] W K = K (.bool false) W := by simp [sem, rsem, tsem, eqNil]
theorem eqn_slz {W : AW} {K : V → AW → Prop} : sem E (.eqn false 1) [.slz, .nilsl] W K = K (.bool false) W := by simp [sem, rsem, tsem, eqNil]
theorem append_z {W : AW} {K : V → AW → Prop} {s by' : Nat} (hs : 0 < s) : sem E (.append s by') [.sl s true [], .slz] W K = K (.sl s true []) W := by
  simp [sem, elemsV, hs]
theorem append_e {W : AW} {K : V → AW → Prop} {s by' : Nat} {f : Bool} (hs : 0 < s) : sem E (.append s by') [.sl s true [], .sl s f []] W K = K (.sl s true []) W := by
  simp [sem, elemsV, hs]
theorem append_c {W : AW} {K : V → AW → Prop} {s by' : Nat} {f : Bool} {x : V} {xs : List V} (hs : 0 < s) (h : (xs.length + 1) * by' ≤ 2 ^ 46) :
    sem E (.append s by') [.sl s true [], .sl s f (x :: xs)] W K = K (.buf false W.nx s (xs.length + 1)) (W.alloc (.buf false s (x :: xs))) := by
  simp [sem, elemsV, hs, h]
theorem frz_buf {W : AW} {s n : Nat} {x : V} {xs : List V} (h : n = xs.length + 1) : (W.alloc (.buf false s (x :: xs))).frz (.buf false W.nx s n) = .sl s false (x :: xs) := by
  subst h; simp [AW.frz, AW.alloc]
theorem clone39_c (hP : E.P = Tryz.prog) (W : AW) (v : V) (xs : List V) (hv : isS 1 v xs) (hb : V.belL W.nx xs = true) (hl : xs.length < 2 ^ 40) : ACalls E 39 [v] W fun X W' => X = cloneV 1 v ∧ W' = W := by
  refine ACalls.of hP Tryz.func39 ok39e (by rcases hv with ⟨rfl, _⟩ | ⟨rfl, _⟩ | ⟨f, rfl⟩ <;> simp) fun _ hok => ?_
  rcases hv with ⟨rfl, rfl⟩ | ⟨rfl, rfl⟩ | ⟨f, rfl⟩
  · simp only [c39, e_seq, e_reg, cond_if, e_ret, e_cons, e_nil, e_plain, evs_nil, evs_cons, ev_t, ev_c, argsA_ap, e_putK, e_putd, e_put, e_then, e_then_ret, retQ_ret, e_res1, ↓reduceIte, reduceCtorEq, Option.map_some, List.getElem?_cons_zero, frz_nilsl, sem_mov, eqn_nil]
    exact ⟨_, rfl, _, _, .weak weak_id, Nat.le_refl _, rfl, rfl⟩
  · simp only [c39, e_seq, e_reg, cond_if, e_ret, e_skip, e_cons, e_nil, e_plain, evs_nil, evs_cons, ev_t, ev_c, argsA_ap, e_putK, e_putd, e_put, e_then, retQ_ret, e_res1, ↓reduceIte, Nat.reduceEqDiff, reduceCtorEq, Option.map_some, List.getElem?_cons_zero, Bool.false_eq_true, frz_sl, sem_mov, eqn_slz, sem_bslice0 (s := 1) (z := .int .u16 0) rfl, append_z (by decide : 0 < 1)]
    exact ⟨_, rfl, _, _, .weak weak_id, Nat.le_refl _, rfl, rfl⟩
  · cases xs with
    | nil =>
      simp only [c39, e_seq, e_reg, cond_if, e_ret, e_skip, e_cons, e_nil, e_plain, evs_nil, evs_cons, ev_t, ev_c, argsA_ap, e_putK, e_putd, e_put, e_then, retQ_ret, e_res1, ↓reduceIte, Nat.reduceEqDiff, reduceCtorEq, Option.map_some, List.getElem?_cons_zero, Bool.false_eq_true, frz_sl, sem_mov, eqn_sl, sem_bslice0 (s := 1) (z := .int .u16 0) rfl, append_e (by decide : 0 < 1)]
      exact ⟨_, rfl, _, _, .weak weak_id, Nat.le_refl _, rfl, rfl⟩
    | cons x xs =>
      simp only [List.length_cons] at hl
      simp only [c39, e_seq, e_reg, cond_if, e_ret, e_skip, e_cons, e_nil, e_plain, evs_nil, evs_cons, ev_t, ev_c, argsA_ap, e_putK, e_putd, e_put, e_then, retQ_ret, e_res1, ↓reduceIte, Nat.reduceEqDiff, reduceCtorEq, Option.map_some, List.getElem?_cons_zero, Bool.false_eq_true, sem_mov, eqn_sl, sem_bslice0 (s := 1) (z := .int .u16 0) rfl, append_c (by' := 2) (xs := xs) (by decide : 0 < 1) (by omega), frz_buf rfl]
      refine ⟨_, rfl, .sl 1 false (x :: xs), W, ?_, Nat.le_refl _, rfl, rfl⟩
      exact .weak (weak_back hok hb fun z hz => by simp only [AW.alloc]; rw [if_neg (by omega)])
theorem clone32_c (hP : E.P = Tryz.prog) (W : AW) (v : V) (xs : List V) (hv : isS 3 v xs) (hb : V.belL W.nx xs = true) (hl : xs.length < 2 ^ 40) : ACalls E 32 [v] W fun X W' => X = cloneV 3 v ∧ W' = W := by
  refine ACalls.of hP Tryz.func32 ok32e (by rcases hv with ⟨rfl, _⟩ | ⟨rfl, _⟩ | ⟨f, rfl⟩ <;> simp) fun _ hok => ?_
  rcases hv with ⟨rfl, rfl⟩ | ⟨rfl, rfl⟩ | ⟨f, rfl⟩
  · simp only [c32, e_seq, e_reg, cond_if, e_ret, e_cons, e_nil, e_plain, evs_nil, evs_cons, ev_t, ev_c, argsA_ap, e_putK, e_putd, e_put, e_then, e_then_ret, retQ_ret, e_res1, ↓reduceIte, reduceCtorEq, Option.map_some, List.getElem?_cons_zero, frz_nilsl, sem_mov, eqn_nil]
    exact ⟨_, rfl, _, _, .weak weak_id, Nat.le_refl _, rfl, rfl⟩
  · simp only [c32, e_seq, e_reg, cond_if, e_ret, e_skip, e_cons, e_nil, e_plain, evs_nil, evs_cons, ev_t, ev_c, argsA_ap, e_putK, e_putd, e_put, e_then, retQ_ret, e_res1, ↓reduceIte, Nat.reduceEqDiff, reduceCtorEq, Option.map_some, List.getElem?_cons_zero, Bool.false_eq_true, frz_sl, sem_mov, eqn_slz, sem_bslice0 (s := 3) (z := .agg [.bool false, .int .u8 0, .int .u16 0]) rfl, append_z (by decide : 0 < 3)]
    exact ⟨_, rfl, _, _, .weak weak_id, Nat.le_refl _, rfl, rfl⟩
  · cases xs with
    | nil =>
      simp only [c32, e_seq, e_reg, cond_if, e_ret, e_skip, e_cons, e_nil, e_plain, evs_nil, evs_cons, ev_t, ev_c, argsA_ap, e_putK, e_putd, e_put, e_then, retQ_ret, e_res1, ↓reduceIte, Nat.reduceEqDiff, reduceCtorEq, Option.map_some, List.getElem?_cons_zero, Bool.false_eq_true, frz_sl, sem_mov, eqn_sl, sem_bslice0 (s := 3) (z := .agg [.bool false, .int .u8 0, .int .u16 0]) rfl, append_e (by decide : 0 < 3)]
      exact ⟨_, rfl, _, _, .weak weak_id, Nat.le_refl _, rfl, rfl⟩
    | cons x xs =>
      simp only [List.length_cons] at hl
      simp only [c32, e_seq, e_reg, cond_if, e_ret, e_skip, e_cons, e_nil, e_plain, evs_nil, evs_cons, ev_t, ev_c, argsA_ap, e_putK, e_putd, e_put, e_then, retQ_ret, e_res1, ↓reduceIte, Nat.reduceEqDiff, reduceCtorEq, Option.map_some, List.getElem?_cons_zero, Bool.false_eq_true, sem_mov, eqn_sl, sem_bslice0 (s := 3) (z := .agg [.bool false, .int .u8 0, .int .u16 0]) rfl, append_c (by' := 4) (xs := xs) (by decide : 0 < 3) (by omega), frz_buf rfl]
      refine ⟨_, rfl, .sl 3 false (x :: xs), W, ?_, Nat.le_refl _, rfl, rfl⟩
      exact .weak (weak_back hok hb fun z hz => by simp only [AW.alloc]; rw [if_neg (by omega)])

mutual
theorem bel_up {m n : Nat} (h : m ≤ n) : ∀ (v : V), v.bel m = true → v.bel n = true := by
  intro v hv
  match v, hv with
  | .agg cs, hv => exact belL_up h cs hv
  | .ptr r o, hv => simp only [V.bel, decide_eq_true_eq] at hv ⊢; omega
  | .cptr cs, hv => exact belL_up h cs hv
  | .sl _ _ xs, hv => exact belL_up h xs hv
  | .buf _ r _ _, hv => simp only [V.bel, decide_eq_true_eq] at hv ⊢; omega
  | .slr r _ _ _, hv => simp only [V.bel, decide_eq_true_eq] at hv ⊢; omega
  | .vptr r _, hv => simp only [V.bel, decide_eq_true_eq] at hv ⊢; omega
  | .map r, hv => simp only [V.bel, decide_eq_true_eq] at hv ⊢; omega
  | .fn _ a b, hv => simp only [V.bel, Bool.and_eq_true] at hv ⊢; exact ⟨belL_up h a hv.1, belL_up h b hv.2⟩
  | .tuple vs, hv => exact belL_up h vs hv
  | .iface _ x, hv => exact bel_up h x hv
  | .yld r, hv => simp only [V.bel, decide_eq_true_eq] at hv ⊢; omega
  | .int _ _, _ => rfl
  | .bool _, _ => rfl
  | .str _, _ => rfl
  | .nilsl, _ => rfl
  | .nilptr, _ => rfl
  | .nilmap, _ => rfl
  | .slz, _ => rfl
  | .nilfn, _ => rfl
  | .nilif, _ => rfl
theorem belL_up {m n : Nat} (h : m ≤ n) : ∀ (l : List V), V.belL m l = true → V.belL n l = true := by
  intro l hl
  match l, hl with
  | [], _ => rfl
  | x :: xs, hl => simp only [V.belL, Bool.and_eq_true] at hl ⊢; exact ⟨bel_up h x hl.1, belL_up h xs hl.2⟩
end
/-- Lists, and the copies of them. -/
def isL (v : V) : Prop := v = .nilsl ∨ v = .slz ∨ ∃ f xs, v = .sl 1 f xs ∧ V.belL 0 xs = true ∧ xs.length < 2 ^ 40
def listsV (l : List V) : V := if l = [] then .nilsl else .sl 1 false (l.map (cloneV 1))
theorem sem_bslice1v {W : AW} {K : V → AW → Prop} {x : V} (hx : x.cells.length = 1) : sem E (.bslice 1 1 .nilsl [0]) [x] W K = K (.sl 1 true [x]) W := by
  have h1 : (V.nilsl).cells.length = 1 := rfl
  simp [sem, rsem, tsem, h1, fillE, hx]
theorem cloneV_cells {v : V} (h : isL v) : (cloneV 1 v).cells = [cloneV 1 v] ∧ (cloneV 1 v).one = true := by
  rcases h with rfl | rfl | ⟨f, xs, rfl, _, _⟩
  · exact ⟨rfl, rfl⟩
  · exact ⟨rfl, rfl⟩
  · cases xs <;> exact ⟨rfl, rfl⟩
theorem cloneV_bel {v : V} (h : isL v) (n : Nat) : (cloneV 1 v).bel n = true := by
  rcases h with rfl | rfl | ⟨f, xs, rfl, hb, _⟩
  · rfl
  · rfl
  · cases xs with
    | nil => rfl
    | cons x xs => exact belL_up (Nat.zero_le n) _ hb
theorem frz_cloneV {W : AW} {v : V} (h : isL v) : W.frz (cloneV 1 v) = cloneV 1 v ∧ W.frz v = v := by
  rcases h with rfl | rfl | ⟨f, xs, rfl, _, _⟩
  · exact ⟨rfl, rfl⟩
  · exact ⟨rfl, rfl⟩
  · cases xs <;> exact ⟨rfl, rfl⟩
theorem cloneL_c (hP : E.P = Tryz.prog) (W : AW) (v : V) (h : isL v) : ACalls E 39 [v] W fun X W' => X = cloneV 1 v ∧ W' = W := by
  rcases h with rfl | rfl | ⟨f, xs, rfl, hb, hl⟩
  · exact clone39_c hP W _ [] (.inl ⟨rfl, rfl⟩) rfl (by simp)
  · exact clone39_c hP W _ [] (.inr (.inl ⟨rfl, rfl⟩)) rfl (by simp)
  · exact clone39_c hP W _ xs .mk (belL_up (Nat.zero_le _) _ hb) hl
theorem append_nil1 {W : AW} {K : V → AW → Prop} {by' : Nat} {x : V} (h : by' ≤ 2 ^ 46) : sem E (.append 1 by') [.nilsl, .sl 1 true [x]] W K = K (.buf true W.nx 1 1) (W.alloc (.buf true 1 [x])) := by
  simp [sem, elemsV, h]
theorem append_buf1 {W : AW} {K : V → AW → Prop} {by' r n : Nat} {x : V} {xs : List V} (hg : W.get r = some (.buf true 1 xs)) (hn : n = xs.length) (hx : x.cells.all V.one = true) (h : (n + 1) * by' ≤ 2 ^ 46) :
    sem E (.append 1 by') [.buf true r 1 n, .sl 1 true [x]] W K = K (.buf true r 1 (n + 1)) (W.put r (.buf true 1 (xs ++ [x]))) := by
  subst hn
  simp [sem, elemsV, hg, h, hx]
theorem listsV_bel {l : List V} (hL : ∀ x ∈ l, isL x) (n : Nat) : (listsV l).bel n = true := by
  unfold listsV
  split
  · rfl
  · show V.belL n (l.map (cloneV 1)) = true
    rename_i hne; clear hne
    induction l with
    | nil => rfl
    | cons x xs ih =>
      simp only [List.map_cons, V.belL, Bool.and_eq_true]
      exact ⟨cloneV_bel (hL x (by simp)) n, ih fun y hy => hL y (by simp [hy])⟩
theorem lists_c (hP : E.P = Tryz.prog) (W : AW) (v : V) (l : List V) (hv : isS 1 v l) (hL : ∀ x ∈ l, isL x) (hl : l.length < 2 ^ 40) : ACalls E 28 [v] W fun X W' => X = listsV l ∧ W' = W := by
  refine ACalls.of hP Tryz.func28 ok28e (by rcases hv with ⟨rfl, _⟩ | ⟨rfl, _⟩ | ⟨f, rfl⟩ <;> simp) fun _ hok => ?_
  have hlen : ∀ K : V → AW → Prop, sem E (.len 1 0) [v] W K = K (.int .i64 l.length) W := by
    intro K
    rcases hv with ⟨rfl, rfl⟩ | ⟨rfl, rfl⟩ | ⟨f, rfl⟩
    · exact sem_len_nil 0
    · exact id rfl
    · exact sem_len_sl ..
  simp only [c28, e_seq, e_reg, e_block, e_cons, e_nil, e_plain, evs_nil, evs_cons, ev_t, ev_c, argsA_ap, e_putK, e_putd, e_put, e_then, ↓reduceIte, reduceCtorEq, List.getElem?_cons_zero, sem_mov, hlen]
  rw [e_loop]
  refine ALoop.go (B := awp E _) (fun h => awp_mono _ h) (fun (k : Nat) A1 W1 => A1 5 = some v ∧ A1 6 = some (.int .i64 l.length) ∧ A1 7 = some (.int .i64 k) ∧ k ≤ l.length ∧ W.nx ≤ W1.nx ∧ (∀ x, x < W.nx → W1.get x = W.get x) ∧
    ((k = 0 ∧ A1 2 = some .nilsl) ∨ ∃ r, W.nx ≤ r ∧ r < W1.nx ∧ 0 < k ∧ A1 2 = some (.buf true r 1 k) ∧ W1.get r = some (.buf true 1 ((l.take k).map (cloneV 1))))) (fun k => l.length - k) 0
    ⟨rfl, rfl, rfl, Nat.zero_le _, Nat.le_refl _, fun _ _ => rfl, .inl ⟨rfl, rfl⟩⟩ ?_
  rintro k A1 W1 ⟨g5, g6, g7, gk, gn, gw, g2⟩ _
  by_cases h : k < l.length
  · obtain ⟨f, rfl⟩ : ∃ f, v = .sl 1 f l := by
      rcases hv with ⟨_, rfl⟩ | ⟨_, rfl⟩ | hv
      · simp at h
      · simp at h
      · exact hv
    have hx : l[k]? = some l[k] := List.getElem?_eq_getElem h
    have hLk := hL l[k] (List.getElem_mem h)
    have hi : ∀ K : V → AW → Prop, sem E (.idxp 1) [.sl 1 f l, .int .i64 (k : Int)] W1 K = K (.cptr l[k].cells) W1 := fun K => sem_idxp_sl (by omega) (by rw [Int.toNat_natCast]; exact hx)
    have hld : ∀ K : V → AW → Prop, sem E (.load false 1) [.cptr l[k].cells] W1 K = K l[k] W1 := by
      intro K
      rcases hLk with h1 | h1 | ⟨f, xs, h1, _, _⟩ <;> rw [h1] <;> rfl
    have hfz := frz_cloneV (W := W1) hLk
    have hc := cloneV_cells hLk
    have hc1 : (cloneV 1 l[k]).cells.length = 1 := by rw [hc.1]; rfl
    have hc2 : (cloneV 1 l[k]).cells.all V.one = true := by rw [hc.1]; simp [hc.2]
    have htk : (l.take (k + 1)).map (cloneV 1) = (l.take k).map (cloneV 1) ++ [cloneV 1 l[k]] := by
      rw [List.take_add_one, hx]; simp only [Option.toList_some, List.map_append, List.map_cons, List.map_nil]
    have hlk : ((l.take k).map (cloneV 1)).length = k := by simp; omega
    rcases g2 with ⟨rfl, g2⟩ | ⟨r, r1, r2, r3, g2, rg⟩
    · simp (config := { maxSteps := 2000000 }) (disch := omega) only [e_seq, e_reg, cond_if, e_block, e_skip, e_cons, e_nil, e_plain, evs_nil, evs_cons, ev_t, e_putK, e_putd, e_put, e_then, e_blk, ↓reduceIte, Nat.reduceEqDiff, List.map_cons, List.map_nil, sem_mov, sem_lss, sem_call, g2, g5, g6, g7, clt, h, decide_true, hi, hld, hfz.2]
      refine (cloneL_c hP W1 _ hLk).mono ?_
      rintro X W' ⟨rfl, rfl⟩
      simp (config := { maxSteps := 2000000 }) (disch := omega) only [e_reg, e_cons, e_nil, e_plain, evs_nil, evs_cons, ev_t, ev_c, e_putK, e_putd, e_put, e_then, ↓reduceIte, Nat.reduceEqDiff, sem_mov, sem_add, g5, g6, g7, sem_bslice1v hc1, append_nil1 (by' := 24) (by decide), wadd1]
      refine ⟨1, ⟨trivial, trivial, rfl, h, by rw [alloc_nx]; omega, fun x hx => ?_, .inr ⟨W'.nx, gn, by rw [alloc_nx]; omega, by decide, rfl, ?_⟩⟩, by omega, by rw [alloc_nx]; omega⟩
      · rw [alloc_lt (by omega)]; exact gw x hx
      · rw [alloc_at, htk]; rfl
    · simp (config := { maxSteps := 2000000 }) (disch := omega) only [e_seq, e_reg, cond_if, e_block, e_skip, e_cons, e_nil, e_plain, evs_nil, evs_cons, ev_t, e_putK, e_putd, e_put, e_then, e_blk, ↓reduceIte, Nat.reduceEqDiff, List.map_cons, List.map_nil, sem_mov, sem_lss, sem_call, g2, g5, g6, g7, clt, h, decide_true, hi, hld, hfz.2]
      refine (cloneL_c hP W1 _ hLk).mono ?_
      rintro X W' ⟨rfl, rfl⟩
      simp (config := { maxSteps := 2000000 }) (disch := omega) only [e_reg, e_cons, e_nil, e_plain, evs_nil, evs_cons, ev_t, ev_c, e_putK, e_putd, e_put, e_then, ↓reduceIte, Nat.reduceEqDiff, sem_mov, sem_add, g5, g6, g7, sem_bslice1v hc1, append_buf1 (by' := 24) rg hlk.symm hc2 (by omega), wadd1]
      refine ⟨k + 1, ⟨trivial, trivial, rfl, h, by rw [put_nx]; omega, fun x hx => ?_, .inr ⟨r, r1, by rw [put_nx]; omega, by omega, rfl, ?_⟩⟩, by omega, by rw [put_nx]; omega⟩
      · rw [put_ne (by omega)]; exact gw x hx
      · rw [put_at, htk]
  · obtain rfl : k = l.length := by omega
    rcases g2 with ⟨h0, g2⟩ | ⟨r, r1, r2, r3, g2, rg⟩
    · have hl0 : l = [] := List.length_eq_zero_iff.1 h0
      simp (config := { maxSteps := 2000000 }) (disch := omega) only [e_seq, e_reg, cond_if, e_exit, e_ret, e_cons, e_nil, e_plain, evs_nil, evs_cons, ev_t, e_putK, e_putd, e_put, e_then, e_then_exit, e_blk_exit, retQ_ret, e_res1, ↓reduceIte, Nat.reduceEqDiff, Option.map_some, Bool.false_eq_true, frz_nilsl, sem_mov, sem_lss, g2, g6, g7, clt, h, decide_false]
      exact ⟨_, rfl, .nilsl, W, .weak (weak_back hok rfl gw), Nat.le_refl _, by rw [hl0]; rfl, rfl⟩
    · have hne : l ≠ [] := fun e => by subst e; simp at r3
      have hfr : W1.frz (.buf true r 1 l.length) = listsV l := by
        have he : (l.map (cloneV 1)).isEmpty = false := by cases l <;> simp_all
        rw [List.take_length] at rg
        simp [AW.frz, rg, listsV, hne]
      simp (config := { maxSteps := 2000000 }) (disch := omega) only [e_seq, e_reg, cond_if, e_exit, e_ret, e_cons, e_nil, e_plain, evs_nil, evs_cons, ev_t, e_putK, e_putd, e_put, e_then, e_then_exit, e_blk_exit, retQ_ret, e_res1, ↓reduceIte, Nat.reduceEqDiff, Option.map_some, Bool.false_eq_true, sem_mov, sem_lss, g2, g6, g7, clt, h, decide_false, hfr]
      exact ⟨_, rfl, _, W, .weak (weak_back hok (listsV_bel hL _) gw), Nat.le_refl _, rfl, rfl⟩
end Go.AL.S
