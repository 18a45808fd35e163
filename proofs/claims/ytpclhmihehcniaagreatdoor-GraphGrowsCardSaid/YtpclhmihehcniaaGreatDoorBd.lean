/- What the program's functions do, part 4. Conditions: none. -/
import Derived.Test.YtpclhmihehcniaaGreatDoorBc
set_option maxRecDepth 100000
set_option maxHeartbeats 2000000
namespace Go.AL.S
open Go Go.AL Go.Proofs
/- (umpire/graph.builder).read -/
def c_read : AC := (AC.seq (AC.reg [
  ⟨(some 3), .box, [.t 0], none⟩,
  ⟨(some 5), .box, [.t 2], none⟩])
 (AC.seq (AC.reg [
  ⟨(some 13), .fld 1, [.t 5], none⟩,
  ⟨(some 14), .load false 1, [.t 13], none⟩,
  ⟨(some 15), .len 1 0, [.t 14], none⟩,
  ⟨(some 6), .mov, [.t 15], none⟩])
 (AC.seq (AC.seq (AC.reg [
  ⟨(some 16), .mov, [.t 6], none⟩,
  ⟨(some 17), .bin .gtr, [.t 16, .c (.int .i64 0)], none⟩])
 (AC.cond (.t 17)
  (AC.seq (AC.par
   (PT.step 1 ⟨(some 20), .fld 0, [.t 5], none⟩
   (PT.step 3 ⟨(some 22), .fld 1, [.t 5], none⟩
   (PT.step 5 ⟨(some 24), .mov, [.t 6], none⟩
   (PT.step 6 ⟨(some 25), .bin .sub, [.t 24, .c (.int .i64 1)], none⟩
   (PT.step 0 ⟨(some 19), .load true 3, [.t 3], none⟩
   (PT.step 2 ⟨(some 21), .load false 1, [.t 20], none⟩
   (PT.step 4 ⟨(some 23), .load false 1, [.t 22], none⟩
   (PT.step 7 ⟨(some 26), .idxp 1, [.t 23, .t 25], none⟩
   (PT.step 8 ⟨(some 27), .load false 1, [.t 26], none⟩
   (PT.step 9 ⟨(some 28), .call 80, [.t 19, .t 21, .t 27], none⟩
   (PT.step 10 ⟨(some 18), .mov, [.t 28], none⟩
   (PT.step 11 ⟨(some 29), .ext 0, [.t 18], none⟩
   (PT.step 12 ⟨(some 30), .ext 1, [.t 18], none⟩
   (PT.step 13 ⟨(some 7), .mov, [.t 29], none⟩
   (PT.step 14 ⟨(some 8), .mov, [.t 30], none⟩
   PT.done))))))))))))))))
  (AC.seq (AC.reg [
   ⟨(some 31), .mov, [.t 8], none⟩])
  (AC.cond (.t 31)
   (AC.reg [
    ⟨(some 32), .load true 3, [.t 3], none⟩,
    ⟨(some 33), .mov, [.t 7], none⟩,
    ⟨(some 34), .mov, [.t 1], none⟩,
    ⟨(some 35), .call 81, [.t 32, .t 33, .t 34, .c (.int .u8 1)], none⟩])
   AC.skip)))
  AC.skip))
 (AC.seq (AC.reg [
  ⟨(some 37), .fld 1, [.t 3], none⟩,
  ⟨(some 38), .load false 1, [.t 37], none⟩,
  ⟨(some 39), .fld 0, [.t 5], none⟩,
  ⟨(some 40), .load false 1, [.t 39], none⟩,
  ⟨(some 41), .mov, [.t 6], none⟩,
  ⟨(some 42), .call 85, [.t 38, .t 40, .t 41], none⟩,
  ⟨(some 36), .mov, [.t 42], none⟩,
  ⟨(some 43), .ext 0, [.t 36], none⟩,
  ⟨(some 44), .ext 1, [.t 36], none⟩,
  ⟨(some 9), .mov, [.t 43], none⟩,
  ⟨(some 10), .mov, [.t 44], none⟩])
 (AC.seq (AC.reg [
  ⟨(some 45), .mov, [.t 10], none⟩])
 (AC.cond (.t 45)
  (AC.seq (AC.reg [
   ⟨(some 47), .load true 3, [.t 3], none⟩,
   ⟨(some 48), .fld 0, [.t 5], none⟩,
   ⟨(some 49), .load false 1, [.t 48], none⟩,
   ⟨(some 50), .mov, [.t 9], none⟩,
   ⟨(some 51), .call 80, [.t 47, .t 49, .t 50], none⟩,
   ⟨(some 46), .mov, [.t 51], none⟩,
   ⟨(some 52), .ext 0, [.t 46], none⟩,
   ⟨(some 53), .ext 1, [.t 46], none⟩,
   ⟨(some 11), .mov, [.t 52], none⟩,
   ⟨(some 12), .mov, [.t 53], none⟩])
  (AC.seq (AC.reg [
   ⟨(some 54), .mov, [.t 12], none⟩])
  (AC.cond (.t 54)
   (AC.reg [
    ⟨(some 55), .load true 3, [.t 3], none⟩,
    ⟨(some 56), .mov, [.t 1], none⟩,
    ⟨(some 57), .mov, [.t 11], none⟩,
    ⟨(some 58), .call 81, [.t 55, .t 56, .t 57, .c (.int .u8 2)], none⟩])
   AC.skip)))
  AC.skip))))))
def r_read : AC × List RT × Nat := (c_read, [], 59)
theorem ok_reade : compF Tryz.prog Tryz.f42 ⟨false, false, []⟩ = some r_read := by kernel_rfl
def c_counts_0 : AC := (AC.seq (AC.reg [
    ⟨(some 31), .bin .lss, [.t 30, .t 29], none⟩])
   (AC.seq (AC.cond (.t 31)
    AC.skip
    (AC.exit 0))
   (AC.seq (AC.block 1
    (AC.seq (AC.reg [
     ⟨(some 32), .idxp 1, [.t 28, .t 30], none⟩,
     ⟨(some 33), .load false 1, [.t 32], none⟩,
     ⟨(some 8), .mov, [.t 33], none⟩])
    (AC.seq (AC.reg [
     ⟨(some 35), .mov, [.t 0], none⟩,
     ⟨(some 36), .fld 0, [.t 5], none⟩,
     ⟨(some 37), .load false 1, [.t 36], none⟩,
     ⟨(some 38), .mov, [.t 8], none⟩,
     ⟨(some 39), .call 60, [.t 35, .t 37, .t 38], none⟩,
     ⟨(some 34), .mov, [.t 39], none⟩,
     ⟨(some 40), .ext 0, [.t 34], none⟩,
     ⟨(some 41), .ext 1, [.t 34], none⟩,
     ⟨(some 9), .alloc [.int .u16 0, .int .u8 0, .nilsl, .nilsl, .int .u8 0], [], none⟩,
     ⟨none, .store 5, [.t 9, .t 40], none⟩,
     ⟨(some 10), .mov, [.t 41], none⟩])
    (AC.seq (AC.reg [
     ⟨(some 42), .mov, [.t 10], none⟩,
     ⟨(some 43), .un .not, [.t 42], none⟩])
    (AC.cond (.t 43)
     (AC.seq (AC.reg [
      ⟨(some 6), .mov, [.c (.bool false)], none⟩])
     AC.ret)
     AC.skip)))))
   (AC.reg [
    ⟨(some 44), .bin .add, [.t 30, .c (.int .i64 1)], none⟩,
    ⟨(some 30), .mov, [.t 44], none⟩]))))
/- umpire/graph.Counts -/
def c_counts : AC := (AC.seq (AC.reg [
  ⟨(some 5), .box, [.t 2], none⟩,
  ⟨(some 6), .mov, [.c (.bool false)], none⟩])
 (AC.seq (AC.seq (AC.par
  (PT.step 0 ⟨(some 11), .mov, [.t 0], none⟩
  (PT.step 1 ⟨(some 12), .eqn false 0, [.t 11, .c (.nilptr)], none⟩
  (PT.step 2 ⟨(some 13), .mov, [.t 12], none⟩
  (PT.step 3 ⟨(some 14), .mov, [.t 1], (some (13, false))⟩
  (PT.step 4 ⟨(some 15), .eqn false 0, [.t 14, .c (.nilptr)], (some (13, false))⟩
  (PT.step 5 ⟨(some 16), .pick, [.t 13, .c (.bool true), .t 15], none⟩
  (PT.step 6 ⟨(some 17), .mov, [.t 16], none⟩
  (PT.step 7 ⟨(some 18), .fld 1, [.t 5], (some (17, false))⟩
  (PT.step 9 ⟨(some 20), .mov, [.t 1], (some (17, false))⟩
  (PT.step 10 ⟨(some 21), .fld 0, [.t 5], (some (17, false))⟩
  (PT.step 8 ⟨(some 19), .load false 1, [.t 18], (some (17, false))⟩
  (PT.step 11 ⟨(some 22), .load false 1, [.t 21], (some (17, false))⟩
  (PT.step 12 ⟨(some 23), .pcall 45, [.t 20, .t 22], (some (17, false))⟩
  (PT.step 13 ⟨(some 24), .pcall 51, [.t 19, .t 23], (some (17, false))⟩
  (PT.step 14 ⟨(some 25), .un .not, [.t 24], (some (17, false))⟩
  (PT.step 15 ⟨(some 26), .pick, [.t 17, .c (.bool true), .t 25], none⟩
  PT.done)))))))))))))))))
 (AC.cond (.t 26)
  (AC.seq (AC.reg [
   ⟨(some 6), .mov, [.c (.bool false)], none⟩])
  AC.ret)
  AC.skip))
 (AC.seq (AC.seq (AC.reg [
  ⟨(some 27), .fld 1, [.t 5], none⟩,
  ⟨(some 28), .load false 1, [.t 27], none⟩,
  ⟨(some 29), .len 1 0, [.t 28], none⟩,
  ⟨(some 30), .mov, [.c (.int .i64 0)], none⟩])
 (AC.block 0
  (AC.loop c_counts_0)))
 (AC.seq (AC.reg [
  ⟨(some 6), .mov, [.c (.bool true)], none⟩])
 AC.ret))))
def r_counts : AC × List RT × Nat := (c_counts, [.tmp 6], 45)
theorem ok_countse : compF Tryz.prog Tryz.f28 ⟨false, false, []⟩ = some r_counts := by kernel_rfl
variable {E : Env}
/-! code in parts -/
def hd1 : AC → AC
  | .seq a _ => a
  | c => c
def tl1 : AC → AC
  | .seq _ b => b
  | c => c
def rdA : AC := hd1 (tl1 (tl1 c_read))
def rdB : AC := tl1 (tl1 (tl1 c_read))
theorem c_read_eq : c_read = .seq (hd1 c_read) (.seq (hd1 (tl1 c_read)) (.seq rdA rdB)) := rfl
theorem rdB_go (hP : E.P = Tryz.prog) {W : AW} {p ra rw q g m b3 b5 : Nat} {s : Str} {os : Ods} {hn : V} {P : List Ek} (h : Bd W p ra rw q g m s os hn P) {b : Int} {r : Rd} (hb : 0 ≤ b ∧ b < 65536) (hr : 0 ≤ r.1 ∧ r.1 < 256)
    (hPl : (P ++ nextP s os b r).length < 2 ^ 40) {A : AFr} {Q : Exit → AFr → AW → Prop} (a1 : A 1 = some (.int .u16 b)) (a3 : A 3 = some (.ptr b3 0)) (a5 : A 5 = some (.ptr b5 0)) (a6 : A 6 = some (.int .i64 (nums r.2).length))
    (g3 : W.get b3 = some (.row [.ptr p 0, .ptr q 0, .ptr g 0])) (g5 : W.get b5 = some (.row [.int .u8 r.1, elV r.2]))
    (hQ : ∀ A', Q .normal A' (W.put m (gmap (P ++ nextP s os b r)))) : awp E rdB Q A W := by
  simp only [rdB, tl1, c_read, BS, BC, e_seq, ↓reduceIte, Nat.reduceEqDiff, BM, BD, a3, a5, a6, g3, g5]
  refine pc (at_c hP W h.od r.1 hr.1 hr.2 (nums r.2).length) ?_
  cases hk : (keyO os r.1)[(nums r.2).length]? with
  | none =>
    have hk' : ¬ (nums r.2).length < (keyO os r.1).length := fun hlt => by rw [List.getElem?_eq_getElem hlt] at hk; cases hk
    have e : nextP s os b r = [] := by simp only [nextP, hk]
    simp only [BS, BC, e_seq, cond_if, ↓reduceIte, Nat.reduceEqDiff, decide_eq_false hk']
    have := hQ
    rw [e, List.append_nil, put_same h.hm] at this
    exact this _
  | some v =>
    have hk' : (nums r.2).length < (keyO os r.1).length := by
      rcases Nat.lt_or_ge (nums r.2).length (keyO os r.1).length with h | h
      · exact h
      · rw [List.getElem?_eq_none h] at hk; cases hk
    have hv : 0 ≤ v ∧ v < 65536 := (keyO_ok h.od r.1).2 v (List.mem_of_getElem? hk)
    simp only [BS, BC, e_seq, cond_if, ↓reduceIte, Nat.reduceEqDiff, BM, BD, Nat.reduceAdd, Nat.reduceLeDiff, a3, a5, g3, g5, decide_eq_true hk', Option.getD_some]
    refine pc (writer_c hP W h.st r.1 v hr.1 hr.2 hv.1 hv.2) ?_
    cases hw : (wrR s r.1 v).2 with
    | false =>
      have e : nextP s os b r = [] := by simp only [nextP, hk, hw]; simp
      simp only [BS, BC, e_seq, cond_if, ↓reduceIte, Nat.reduceEqDiff]
      have := hQ
      rw [e, List.append_nil, put_same h.hm] at this
      exact this _
    | true =>
      have e : nextP s os b r = edgeP b (wrR s r.1 v).1 2 := by simp only [nextP, hk, hw, if_true]
      rw [e] at hQ hPl
      simp only [BS, BC, e_seq, cond_if, ↓reduceIte, Nat.reduceEqDiff, BM, BD, Nat.reduceAdd, Nat.reduceLeDiff, a1, a3, g3]
      refine (edge_c hP _ h.hg h.hm h.lg h.lm h.pk ?_ _ _ 2 ⟨hb, wrR_ok h.st.ok _ _, show (0 : Int) ≤ 2 ∧ (2 : Int) < 256 by decide⟩).mono ?_
      · rw [List.length_append] at hPl; omega
      rintro _ W3 ⟨rfl, rfl⟩
      simp only [BS]
      exact hQ _
theorem last_at {l : List Int} (h : l ≠ []) : l.getLast? = some (l[l.length - 1]'(by have := List.length_pos_iff.2 h; omega)) := by
  rw [List.getLast?_eq_getElem?, List.getElem?_eq_getElem]
theorem rdA_go (hP : E.P = Tryz.prog) {W : AW} {p ra rw q g m b3 b5 : Nat} {s : Str} {os : Ods} {hn : V} {P : List Ek} (h : Bd W p ra rw q g m s os hn P) {b : Int} {r : Rd} (hb : 0 ≤ b ∧ b < 65536) (hr : 0 ≤ r.1 ∧ r.1 < 256) (hrl : (nums r.2).length < 2 ^ 40) (hrn : ∀ n ∈ nums r.2, 0 ≤ n ∧ n < 65536)
    (hPl : (P ++ lastP s b r).length < 2 ^ 40) {A : AFr} {Q : Exit → AFr → AW → Prop} (a1 : A 1 = some (.int .u16 b)) (a3 : A 3 = some (.ptr b3 0)) (a5 : A 5 = some (.ptr b5 0)) (a6 : A 6 = some (.int .i64 (nums r.2).length))
    (g3 : W.get b3 = some (.row [.ptr p 0, .ptr q 0, .ptr g 0])) (g5 : W.get b5 = some (.row [.int .u8 r.1, elV r.2]))
    (hQ : ∀ A', A' 1 = A 1 → A' 3 = A 3 → A' 5 = A 5 → A' 6 = A 6 → Q .normal A' (W.put m (gmap (P ++ lastP s b r)))) : awp E rdA Q A W := by
  have hs := (elV_isEl r.2).isS
  by_cases hl0 : nums r.2 = []
  · have e : lastP s b r = [] := by simp only [lastP, hl0]; rfl
    have hd : decide (((nums r.2).length : Int) > 0) = false := by simp [hl0]
    simp only [rdA, hd1, tl1, c_read, BS, BC, e_seq, cond_if, ↓reduceIte, a6, hd]
    have := hQ
    rw [e, List.append_nil, put_same h.hm] at this
    refine this _ ?_ ?_ ?_ ?_ <;> simp only [BS, ↓reduceIte, Nat.reduceEqDiff, a1, a3, a5, a6]
  · have hpos := List.length_pos_iff.2 hl0
    have hd : decide (((nums r.2).length : Int) > 0) = true := by simp; omega
    have hw1 : IntKind.i64.wrap ((nums r.2).length - 1 : Int) = ((nums r.2).length - 1 : Nat) := by
      have : ((nums r.2).length - 1 : Int) = ((nums r.2).length - 1 : Nat) := by omega
      rw [this]; exact wrapn (by omega) (by omega)
    have hla := last_at hl0
    have hlt : (nums r.2).length - 1 < (nums r.2).length := by omega
    generalize hv : (nums r.2)[(nums r.2).length - 1]'hlt = v at hla
    have hvr : 0 ≤ v ∧ v < 65536 := hrn v (by rw [← hv]; exact List.getElem_mem _)
    simp only [rdA, hd1, tl1, c_read, BS, BC, e_seq, cond_if, ↓reduceIte, Nat.reduceEqDiff, BM, BD, Nat.reduceAdd, Nat.reduceLeDiff, a3, a5, a6, hd, g3, g5, hw1, hs.idx (int_at hlt), hv]
    refine pc (writer_c hP W h.st r.1 v hr.1 hr.2 hvr.1 hvr.2) ?_
    cases hw : (wrR s r.1 v).2 with
    | false =>
      have e : lastP s b r = [] := by simp only [lastP, hla, hw]; simp
      simp only [BS, BC, e_seq, cond_if, ↓reduceIte, Nat.reduceEqDiff]
      have := hQ
      rw [e, List.append_nil, put_same h.hm] at this
      refine this _ ?_ ?_ ?_ ?_ <;> simp only [BS, ↓reduceIte, Nat.reduceEqDiff, a1, a3, a5, a6]
    | true =>
      have e : lastP s b r = edgeP (wrR s r.1 v).1 b 1 := by simp only [lastP, hla, hw, if_true]
      rw [e] at hQ hPl
      simp only [BS, BC, e_seq, cond_if, ↓reduceIte, Nat.reduceEqDiff, BM, BD, Nat.reduceAdd, Nat.reduceLeDiff, a1, a3, g3]
      refine (edge_c hP _ h.hg h.hm h.lg h.lm h.pk ?_ _ _ 1 ⟨wrR_ok h.st.ok _ _, hb, show (0 : Int) ≤ 1 ∧ (1 : Int) < 256 by decide⟩).mono ?_
      · rw [List.length_append] at hPl; omega
      rintro _ W3 ⟨rfl, rfl⟩
      simp only [BS]
      refine hQ _ ?_ ?_ ?_ ?_ <;> simp only [BS, ↓reduceIte, Nat.reduceEqDiff, a1, a3, a5, a6]
theorem lastP_ok {s : Str} (h : SOk s) {b : Int} (hb : 0 ≤ b ∧ b < 65536) (r : Rd) : ∀ x ∈ lastP s b r, ekOk x := by
  intro x hx
  obtain ⟨v, _, _, _, e⟩ := mem_lastP.1 hx
  rw [e]; exact ⟨wrR_ok h _ _, hb, show (0 : Int) ≤ 1 ∧ (1 : Int) < 256 by decide⟩
theorem nextP_ok {s : Str} (h : SOk s) (os : Ods) {b : Int} (hb : 0 ≤ b ∧ b < 65536) (r : Rd) : ∀ x ∈ nextP s os b r, ekOk x := by
  intro x hx
  obtain ⟨v, _, _, _, e⟩ := mem_nextP.1 hx
  rw [e]; exact ⟨hb, wrR_ok h _ _, show (0 : Int) ≤ 2 ∧ (2 : Int) < 256 by decide⟩
theorem bread_c (hP : E.P = Tryz.prog) (W : AW) {p ra rw q g m : Nat} {s : Str} {os : Ods} {hn : V} {P : List Ek} (h : Bd W p ra rw q g m s os hn P) {b : Int} {r : Rd} (hb : 0 ≤ b ∧ b < 65536) (hr : 0 ≤ r.1 ∧ r.1 < 256) (hrl : (nums r.2).length < 2 ^ 40) (hrn : ∀ n ∈ nums r.2, 0 ≤ n ∧ n < 65536) (hPl : (P ++ readP s os b r).length < 2 ^ 40) :
    ACalls E 42 [bV p q g, .int .u16 b, rdV r] W fun Y W' => Y = .tuple [] ∧ W' = W.put m (gmap (P ++ readP s os b r)) := by
  refine ACalls.of hP Tryz.func42 ok_reade (by simp [bV]) fun _ hok => ?_
  refine awp_start hok ?_
  have hs := (elV_isEl r.2).isS
  have hlm := h.lm
  have hPl1 : (P ++ lastP s b r).length < 2 ^ 40 := by simp only [readP, List.length_append] at hPl ⊢; omega
  have hPl2 : (P ++ lastP s b r ++ nextP s os b r).length < 2 ^ 40 := by simp only [readP, List.length_append] at hPl ⊢; omega
  rw [c_read_eq]
  simp only [hd1, tl1, c_read, BS, BC, e_seq, ↓reduceIte, Nat.reduceEqDiff, BM, BD, bV, rdV, hs.len, ints_len]
  refine rdA_go hP (h.ex .x0) hb hr hrl hrn hPl1 rfl rfl rfl rfl (by rw [X_get]; rfl) (by rw [X_get]; rfl) ?_
  intro A' q1 q3 q5 q6
  rw [X_putold hlm]
  have hpk : ∀ x ∈ P ++ lastP s b r, ekOk x := fun x hx => by
    rcases List.mem_append.1 hx with hx | hx
    · exact h.pk x hx
    · exact lastP_ok h.st.ok hb r x hx
  have h2 : Bd (X (W.put m (gmap (P ++ lastP s b r))) W.nx [.row [.ptr p 0, .ptr q 0, .ptr g 0], .row [.int .u8 r.1, elV r.2]]) p ra rw q g m s os hn (P ++ lastP s b r) :=
    h.to (by simp [X]) (fun x hx hxm => by rw [X_old hx, put_ne hxm]) (by rw [X_old hlm, put_at]) hpk
  refine rdB_go hP h2 hb hr hPl2 (q1.trans rfl) (q3.trans rfl) (q5.trans rfl) (q6.trans rfl) (by rw [X_get]; rfl) (by rw [X_get]; rfl) ?_
  intro A''
  rw [X_putold hlm, put_put, List.append_assoc]
  exact ⟨_, e_res0, _, _, backX' rfl (ok_put hok hlm (gmap_bel _ _)) rfl, Nat.le_refl _, rfl, rfl⟩
end Go.AL.S
set_option maxRecDepth 100000
set_option maxHeartbeats 2000000
namespace Go.AL.S
open Go Go.AL Go.Proofs
variable {E : Env}
theorem counts_c (hP : E.P = Tryz.prog) (W : AW) {p ra rw q : Nat} {s : Str} {os : Ods} (hS : St W p ra rw s) (hO : Od W q os) {r : Rd} (hr : 0 ≤ r.1 ∧ r.1 < 256) (hrl : (nums r.2).length < 2 ^ 40) (hrn : ∀ n ∈ nums r.2, 0 ≤ n ∧ n < 65536) :
    ACalls E 28 [.ptr p 0, .ptr q 0, rdV r] W fun Y W' => Y = .bool (countsR s os r) ∧ W' = W := by
  refine ACalls.of hP Tryz.func28 ok_countse (by simp) fun _ hok => ?_
  refine awp_start hok ?_
  have hs := (elV_isEl r.2).isS
  simp only [c_counts, BS, BC, e_seq, guard_if, ↓reduceIte, Nat.reduceEqDiff, reduceCtorEq, BM, BD, rdV]
  refine pcall_go (v := oV (keyO os r.1)) rfl (of_c' hP _ (hO.ex .x0) r.1 hr.1 hr.2) ?_
  have hk := oV_isS (keyO os r.1)
  simp only [BS, guard_if, ↓reduceIte, Nat.reduceEqDiff]
  refine pcall_go (v := .bool (begins (nums r.2) (keyO os r.1))) (by rw [List.map_cons, List.map_cons, List.map_nil, hs.frz, hk.frz]) (begins_c hP _ hs hk hrl) ?_
  cases hb : begins (nums r.2) (keyO os r.1) with
  | false =>
    simp only [BS, BC, e_seq, cond_if, guard_if, ↓reduceIte, Nat.reduceEqDiff, BD]
    exact ⟨_, rfl, _, W, backX hok rfl, Nat.le_refl _, by simp [countsR, hb], rfl⟩
  | true =>
    simp only [BS, BC, e_seq, cond_if, guard_if, ↓reduceIte, Nat.reduceEqDiff, BM, BD, hs.len, ints_len]
    rw [e_loop]
    refine ALoop.go (B := awp E _) (fun h => awp_mono _ h) (fun (k : Nat) A1 W1 => A1 0 = some (.ptr p 0) ∧ A1 5 = some (.ptr (rf W.nx 0) 0) ∧ A1 28 = some (elV r.2) ∧ A1 29 = some (.int .i64 (nums r.2).length) ∧ A1 30 = some (.int .i64 k) ∧ k ≤ (nums r.2).length ∧ Ex W W1 ∧ rf W.nx 0 < W1.nx ∧ W1.get (rf W.nx 0) = some (.row [.int .u8 r.1, elV r.2]) ∧ ((nums r.2).take k).all (fun v => (who s r.1 v).isSome) = true) (fun k => (nums r.2).length - k) 0
      ⟨rfl, rfl, rfl, rfl, rfl, Nat.zero_le _, .x0, by simp [X, rf], by rw [X_get]; rfl, rfl⟩ ?_
    rintro k A1 W1 ⟨g0, g5, g28, g29, g30, gk, gE, gn, gr, ga⟩ _
    refine awp_startC gE.cl ?_
    by_cases hk1 : k < (nums r.2).length
    · have hat := int_at hk1
      have hv := hrn _ (List.getElem_mem hk1)
      have htk : (nums r.2).take (k + 1) = (nums r.2).take k ++ [(nums r.2)[k]] := by rw [List.take_add_one, List.getElem?_eq_getElem hk1]; rfl
      generalize hvv : (nums r.2)[k] = v at hat hv htk
      simp (config := { maxSteps := 2000000 }) (disch := omega) only [c_counts_0, BS, BC, e_seq, cond_if, ↓reduceIte, Nat.reduceEqDiff, reduceCtorEq, BM, BD, g0, g5, g28, g29, g30, clt, hk1, decide_true, hs.idx hat, gr]
      refine pc (who_c hP _ (hS.ex gE.X) r.1 v hr.1 hr.2 hv.1 hv.2) ?_
      cases hw : who s r.1 v with
      | none =>
        simp (config := { maxSteps := 2000000 }) (disch := omega) only [BS, BC, e_seq, cond_if, ↓reduceIte, Nat.reduceEqDiff, BM, BD, Nat.reduceAdd, Nat.reduceLeDiff, Nat.reduceLT, msV_one, lsV_one, Option.isSome_none, Option.getD_none, Tx.V, Tx.zero]
        refine ⟨_, rfl, _, W, gE.X.back hok rfl, Nat.le_refl _, ?_, rfl⟩
        have : (nums r.2).all (fun v => (who s r.1 v).isSome) = false := by
          rw [List.all_eq_false]
          exact ⟨v, by rw [← hvv]; exact List.getElem_mem _, by simp [hw]⟩
        simp [countsR, this]
      | some t =>
        simp (config := { maxSteps := 2000000 }) (disch := omega) only [BS, BC, e_seq, cond_if, ↓reduceIte, Nat.reduceEqDiff, reduceCtorEq, BM, BD, Nat.reduceAdd, Nat.reduceLeDiff, Nat.reduceLT, msV_one, lsV_one, Option.isSome_some, Option.getD_some, Tx.V, g0, g5, g28, g29, g30, wadd1]
        refine ⟨k + 1, ⟨(by first | trivial | rfl | omega), (by first | trivial | rfl | omega), (by first | trivial | rfl | omega), (by first | trivial | rfl | omega), (by first | trivial | rfl | omega), (by first | trivial | rfl | omega), gE.X, ?_, ?_, ?_⟩, by omega, ?_⟩
        · simp only [rf] at gn; (try simp only [rf]); omega
        · first | exact gr | (rw [X_old gn]; exact gr)
        · rw [htk, List.all_append, ga]; simp [hw]
        · have := gE.nx; simp only [rf]; omega
    · obtain rfl : k = (nums r.2).length := by omega
      rw [List.take_length] at ga
      simp (config := { maxSteps := 2000000 }) (disch := omega) only [c_counts_0, BS, BC, e_seq, cond_if, ↓reduceIte, BM, BD, g29, g30, clt, hk1, decide_false]
      exact ⟨_, rfl, _, W, gE.X.back hok rfl, Nat.le_refl _, by simp [countsR, hb, ga], rfl⟩
end Go.AL.S
set_option maxRecDepth 100000
set_option maxHeartbeats 2000000
namespace Go.AL.S
open Go Go.AL Go.Proofs
def c_build_B3_0 : AC := (AC.seq (AC.reg [
       ⟨(some 52), .bin .lss, [.t 51, .t 50], none⟩])
      (AC.seq (AC.cond (.t 52)
       AC.skip
       (AC.exit 4))
      (AC.seq (AC.block 5
       (AC.seq (AC.reg [
        ⟨(some 53), .idxp 2, [.t 49, .t 51], none⟩,
        ⟨(some 54), .load true 2, [.t 53], none⟩,
        ⟨(some 9), .alloc [.int .u8 0, .nilsl], [], none⟩,
        ⟨none, .store 2, [.t 9, .t 54], none⟩])
       (AC.seq (AC.reg [
        ⟨(some 55), .load false 1, [.t 2], none⟩,
        ⟨(some 56), .load false 1, [.t 3], none⟩,
        ⟨(some 57), .load true 2, [.t 9], none⟩,
        ⟨(some 58), .call 28, [.t 55, .t 56, .t 57], none⟩])
       (AC.cond (.t 58)
        (AC.reg [
         ⟨(some 59), .load true 3, [.t 5], none⟩,
         ⟨(some 60), .fld 0, [.t 7], none⟩,
         ⟨(some 61), .load false 1, [.t 60], none⟩,
         ⟨(some 62), .load true 2, [.t 9], none⟩,
         ⟨(some 63), .call 42, [.t 59, .t 61, .t 62], none⟩])
        AC.skip))))
      (AC.reg [
       ⟨(some 64), .bin .add, [.t 51, .c (.int .i64 1)], none⟩,
       ⟨(some 51), .mov, [.t 64], none⟩]))))
def c_build_B3 : AC := (AC.block 3
    (AC.seq (AC.seq (AC.reg [
     ⟨(some 32), .load true 5, [.t 7], none⟩,
     ⟨(some 33), .call 19, [.t 32], none⟩,
     ⟨(some 34), .un .not, [.t 33], none⟩])
    (AC.cond (.t 34)
     (AC.exit 3)
     AC.skip))
    (AC.seq (AC.par
     (PT.step 0 ⟨(some 35), .fld 2, [.t 5], none⟩
     (PT.step 2 ⟨(some 37), .fld 2, [.t 5], none⟩
     (PT.step 7 ⟨(some 42), .fld 0, [.t 7], none⟩
     (PT.step 3 ⟨(some 38), .load false 1, [.t 37], none⟩
     (PT.step 4 ⟨(some 39), .nilck, [.t 38], none⟩
     (PT.step 5 ⟨(some 40), .fld 0, [.t 39], none⟩
     (PT.step 6 ⟨(some 41), .load false 1, [.t 40], none⟩
     (PT.step 8 ⟨(some 43), .load false 1, [.t 42], none⟩
     (PT.step 9 ⟨(some 44), .bslice 1 1 (.int .u16 0) [0], [.t 43], none⟩
     (PT.alt
      (PT.step 1 ⟨(some 36), .load false 1, [.t 35], none⟩
      (PT.step 10 ⟨(some 45), .append 1 2, [.t 41, .t 44], none⟩
      (PT.step 11 ⟨(some 46), .nilck, [.t 36], none⟩
      (PT.step 12 ⟨(some 47), .fld 0, [.t 46], none⟩
      (PT.step 13 ⟨none, .store 1, [.t 47, .t 45], none⟩
      PT.done)))))
      (PT.step 10 ⟨(some 45), .append 1 2, [.t 41, .t 44], none⟩
      (PT.step 1 ⟨(some 36), .load false 1, [.t 35], none⟩
      (PT.step 11 ⟨(some 46), .nilck, [.t 36], none⟩
      (PT.step 12 ⟨(some 47), .fld 0, [.t 46], none⟩
      (PT.step 13 ⟨none, .store 1, [.t 47, .t 45], none⟩
      PT.done))))))))))))))))
    (AC.seq (AC.reg [
     ⟨(some 48), .load true 5, [.t 7], none⟩,
     ⟨(some 49), .call 36, [.t 48], none⟩,
     ⟨(some 50), .len 1 0, [.t 49], none⟩,
     ⟨(some 51), .mov, [.c (.int .i64 0)], none⟩])
    (AC.block 4
     (AC.loop c_build_B3_0))))))
def c_build_0 : AC := (AC.seq (AC.reg [
    ⟨(some 23), .bin .lss, [.t 22, .c (.int .u8 8)], none⟩])
   (AC.seq (AC.cond (.t 23)
    AC.skip
    (AC.exit 0))
   (AC.seq (AC.block 1
    (AC.seq (AC.reg [
     ⟨(some 24), .mov, [.t 22], none⟩,
     ⟨(some 6), .mov, [.t 24], none⟩])
    (AC.reg [
     ⟨(some 25), .load true 3, [.t 5], none⟩,
     ⟨(some 26), .mov, [.t 6], none⟩,
     ⟨(some 27), .call 40, [.t 25, .t 26], none⟩])))
   (AC.reg [
    ⟨(some 28), .bin .add, [.t 22, .c (.int .u8 1)], none⟩,
    ⟨(some 22), .mov, [.t 28], none⟩]))))
/- umpire/graph.Build -/
def c_build : AC := (AC.seq (AC.reg [
  ⟨(some 2), .box, [.t 0], none⟩,
  ⟨(some 3), .box, [.t 1], none⟩,
  ⟨(some 4), .mov, [.c (.nilptr)], none⟩])
 (AC.seq (AC.seq (AC.reg [
  ⟨(some 10), .load false 1, [.t 2], none⟩,
  ⟨(some 11), .eqn false 0, [.t 10, .c (.nilptr)], none⟩,
  ⟨(some 12), .mov, [.t 11], none⟩,
  ⟨(some 13), .load false 1, [.t 3], (some (12, false))⟩,
  ⟨(some 14), .eqn false 0, [.t 13, .c (.nilptr)], (some (12, false))⟩,
  ⟨(some 15), .pick, [.t 12, .c (.bool true), .t 14], none⟩])
 (AC.cond (.t 15)
  (AC.seq (AC.reg [
   ⟨(some 4), .mov, [.c (.nilptr)], none⟩])
  AC.ret)
  AC.skip))
 (AC.seq (AC.reg [
  ⟨(some 16), .load false 1, [.t 2], none⟩,
  ⟨(some 17), .load false 1, [.t 3], none⟩,
  ⟨(some 18), .mkmap, [], none⟩,
  ⟨(some 19), .build [.nilsl, .nilmap] [(1, 1)], [.t 18], none⟩,
  ⟨(some 20), .box, [.t 19], none⟩,
  ⟨(some 21), .build [.nilptr, .nilptr, .nilptr] [(0, 1), (1, 1), (2, 1)], [.t 16, .t 17, .t 20], none⟩,
  ⟨(some 5), .alloc [.nilptr, .nilptr, .nilptr], [], none⟩,
  ⟨none, .store 3, [.t 5, .t 21], none⟩])
 (AC.seq (AC.seq (AC.reg [
  ⟨(some 22), .mov, [.c (.int .u8 0)], none⟩])
 (AC.block 0
  (AC.loop c_build_0)))
 (AC.seq (AC.seq (AC.reg [
  ⟨(some 29), .load false 1, [.t 2], none⟩,
  ⟨(some 30), .call 41, [.t 29], none⟩])
 (AC.block 2
  (AC.rangef (.t 30) [31]
   (AC.reg [
    ⟨(some 7), .alloc [.int .u16 0, .int .u8 0, .nilsl, .nilsl, .int .u8 0], [], none⟩,
    ⟨none, .store 5, [.t 7, .t 31], none⟩])
   c_build_B3)))
 (AC.seq (AC.reg [
  ⟨(some 65), .fld 2, [.t 5], none⟩,
  ⟨(some 66), .load false 1, [.t 65], none⟩,
  ⟨(some 4), .mov, [.t 66], none⟩])
 AC.ret))))))
def r_build : AC × List RT × Nat := (c_build, [.tmp 4], 67)
theorem ok_builde : compF Tryz.prog Tryz.f12 ⟨false, false, []⟩ = some r_build := by kernel_rfl
variable {E : Env}
def rf1 (s : Str) (os : Ods) (b : Int) (r : Rd) : List Ek := if countsR s os r = true then readP s os b r else []
theorem readP_ok {s : Str} (h : SOk s) (os : Ods) {b : Int} (hb : 0 ≤ b ∧ b < 65536) (r : Rd) : ∀ x ∈ readP s os b r, ekOk x := by
  intro x hx
  rcases List.mem_append.1 hx with hx | hx
  · exact lastP_ok h hb r x hx
  · exact nextP_ok h os hb r x hx
theorem rf1_ok {s : Str} (h : SOk s) (os : Ods) {b : Int} (hb : 0 ≤ b ∧ b < 65536) (r : Rd) : ∀ x ∈ rf1 s os b r, ekOk x := by
  unfold rf1
  split
  · exact readP_ok h os hb r
  · simp
theorem flat_snoc {α β : Type} {f : α → List β} {l : List α} {k : Nat} (h : k < l.length) : (l.take (k + 1)).flatMap f = (l.take k).flatMap f ++ f l[k] := by
  rw [List.take_add_one, List.getElem?_eq_getElem h, List.flatMap_append]; simp [List.flatMap]
theorem flat_le {α β : Type} {f : α → List β} (l : List α) (k : Nat) : ((l.take k).flatMap f).length ≤ (l.flatMap f).length := by
  conv => rhs; rw [← List.take_append_drop k l, List.flatMap_append, List.length_append]
  omega
theorem rdV_at {l : List Rd} {k : Nat} (h : k < l.length) : (l.map rdV)[k]? = some (rdV l[k]) := by simp [h]
theorem rdV_cells (r : Rd) : (rdV r).cells = [.int .u8 r.1, elV r.2] := rfl
theorem readsR_nums {t : Tx} (h : t.ok) : ∀ r ∈ readsR t, (nums r.2).length ≤ 32 ∧ ∀ n ∈ nums r.2, 0 ≤ n ∧ n < 65536 := by
  intro r hr
  unfold readsR at hr
  split at hr
  · simp at hr
  · exact h.ls _ (List.of_mem_zip (a := r.1) (b := r.2) hr).2
theorem readsR_len {t : Tx} (h : t.ok) : (readsR t).length ≤ 8 := by
  unfold readsR
  split
  · simp
  · rw [List.length_zip]; have := h.lsl; omega
/-- The reads of one transaction. -/
theorem rds_go (hP : E.P = Tryz.prog) {W0 : AW} {p ra rw q g m b2 b3 b5 b7 : Nat} {s : Str} {os : Ods} {hn : V} {P : List Ek} (hC : Cl W0) (h : Bd W0 p ra rw q g m s os hn P) {t : Tx} (ht : t.ok) {r7 : List V}
    (hPl : (P ++ (readsR t).flatMap (rf1 s os t.id)).length < 2 ^ 40) {A : AFr} {Q : Exit → AFr → AW → Prop} (a2 : A 2 = some (.ptr b2 0)) (a3 : A 3 = some (.ptr b3 0)) (a5 : A 5 = some (.ptr b5 0)) (a7 : A 7 = some (.ptr b7 0)) (a49 : A 49 = some (nowGS 2 ((readsR t).map rdV))) (a50 : A 50 = some (.int .i64 (readsR t).length)) (a51 : A 51 = some (.int .i64 0))
    (g2 : W0.get b2 = some (.row [.ptr p 0])) (g3 : W0.get b3 = some (.row [.ptr q 0])) (g5 : W0.get b5 = some (.row [.ptr p 0, .ptr q 0, .ptr g 0])) (g7 : W0.get b7 = some (.row (.int .u16 t.id :: r7)))
    (l2 : b2 < W0.nx) (l3 : b3 < W0.nx) (l5 : b5 < W0.nx) (l7 : b7 < W0.nx)
    (hQ : ∀ A' W', Cl W' → W0.nx ≤ W'.nx → (∀ x, x < W0.nx → x ≠ m → W'.get x = W0.get x) → W'.get m = some (gmap (P ++ (readsR t).flatMap (rf1 s os t.id))) → Q (.exit 4) A' W') : ALoop (awp E c_build_B3_0) Q A W0 := by
  have hsl := nowGS_S 2 ((readsR t).map rdV)
  have htid := And.intro ht.id0 ht.id1
  have n2 : b2 ≠ m := by rintro rfl; have := g2.symm.trans h.hm; cases this
  have n3 : b3 ≠ m := by rintro rfl; have := g3.symm.trans h.hm; cases this
  have n5 : b5 ≠ m := by rintro rfl; have := g5.symm.trans h.hm; cases this
  have n7 : b7 ≠ m := by rintro rfl; have := g7.symm.trans h.hm; cases this
  have hlm := h.lm
  have hr8 := readsR_len ht
  have hpok : ∀ i, ∀ x ∈ P ++ ((readsR t).take i).flatMap (rf1 s os t.id), ekOk x := fun i x hx => by
    rcases List.mem_append.1 hx with hx | hx
    · exact h.pk x hx
    · obtain ⟨z, _, hz⟩ := List.mem_flatMap.1 hx
      exact rf1_ok h.st.ok os htid z x hz
  refine ALoop.go (B := awp E _) (fun h => awp_mono _ h) (fun (k : Nat) A1 W1 => A1 2 = some (.ptr b2 0) ∧ A1 3 = some (.ptr b3 0) ∧ A1 5 = some (.ptr b5 0) ∧ A1 7 = some (.ptr b7 0) ∧ A1 49 = some (nowGS 2 ((readsR t).map rdV)) ∧ A1 50 = some (.int .i64 (readsR t).length) ∧ A1 51 = some (.int .i64 k) ∧ k ≤ (readsR t).length ∧
    Cl W1 ∧ W0.nx ≤ W1.nx ∧ (∀ x, x < W0.nx → x ≠ m → W1.get x = W0.get x) ∧ W1.get m = some (gmap (P ++ ((readsR t).take k).flatMap (rf1 s os t.id)))) (fun k => (readsR t).length - k) 0
    ⟨a2, a3, a5, a7, a49, a50, a51, Nat.zero_le _, hC, Nat.le_refl _, fun _ _ _ => rfl, by simpa using h.hm⟩ ?_
  rintro k A1 W1 ⟨q2, q3, q5, q7, q49, q50, q51, qk, jC, jn, jg, jm⟩ _
  by_cases hk1 : k < (readsR t).length
  · have hB := h.to (P' := P ++ ((readsR t).take k).flatMap (rf1 s os t.id)) jn jg jm (hpok k)
    have hrk := readsR_key ht.ms _ (List.getElem_mem hk1)
    have hrn := readsR_nums ht _ (List.getElem_mem hk1)
    have hst := flat_snoc (f := rf1 s os t.id) hk1
    have hat := rdV_at hk1
    have hle := flat_le (f := rf1 s os t.id) (readsR t) (k + 1)
    generalize (readsR t)[k] = r at hrk hrn hst hat
    have k2 := (jg _ l2 n2).trans g2
    have k3 := (jg _ l3 n3).trans g3
    have k5 := (jg _ l5 n5).trans g5
    have k7 := (jg _ l7 n7).trans g7
    have hm1 := hB.lm
    have hre := (elV_isEl r.2).isS
    refine awp_startC jC ?_
    simp (config := { maxSteps := 2000000 }) (disch := omega) only [c_build_B3_0, BS, BC, e_seq, cond_if, ↓reduceIte, Nat.reduceEqDiff, BM, BD, Nat.reduceAdd, Nat.reduceLeDiff, Nat.reduceLT, q2, q3, q49, q50, q51, clt, hk1, decide_true, hsl.idx hat, rdV_cells, hre.one, k2, k3]
    refine pc (counts_c hP _ (hB.st.ex .x0) (hB.od.ex .x0) (r := r) hrk (by have := hrn.1; omega) hrn.2) ?_
    cases hc : countsR s os r with
    | false =>
      have e : rf1 s os t.id r = [] := by simp [rf1, hc]
      rw [e, List.append_nil] at hst
      simp (config := { maxSteps := 2000000 }) (disch := omega) only [BS, BC, cond_if, ↓reduceIte, Nat.reduceEqDiff, BM, BD, q2, q3, q5, q7, q49, q50, q51, wadd1]
      refine ⟨k + 1, ⟨(by first | trivial | rfl | omega), (by first | trivial | rfl | omega), (by first | trivial | rfl | omega), (by first | trivial | rfl | omega), (by first | trivial | rfl | omega), (by first | trivial | rfl | omega), (by first | trivial | rfl | omega), (by first | trivial | rfl | omega), Cl.X, by simp only [rf]; omega, fun x hx hxm => by rw [X_old (by omega)]; exact jg x hx hxm, by (try rw [X_old hm1]); rw [hst]; exact jm⟩, by omega, by simp only [rf]; omega⟩
    | true =>
      have e : rf1 s os t.id r = readP s os t.id r := by simp [rf1, hc]
      rw [e] at hst
      simp (config := { maxSteps := 2000000 }) (disch := omega) only [BS, BC, cond_if, ↓reduceIte, Nat.reduceEqDiff, BM, BD, Nat.reduceAdd, Nat.reduceLeDiff, q5, q7, k5, k7]
      refine (bread_c hP _ (hB.ex .x0) htid (r := r) hrk (by have := hrn.1; omega) hrn.2 ?_).mono ?_
      · rw [List.append_assoc, ← hst]
        rw [List.length_append] at hPl ⊢
        omega
      rintro _ W3 ⟨rfl, rfl⟩
      simp (config := { maxSteps := 2000000 }) (disch := omega) only [BS, ↓reduceIte, Nat.reduceEqDiff, BM, BD, q2, q3, q5, q7, q49, q50, q51, wadd1]
      refine ⟨k + 1, ⟨(by first | trivial | rfl | omega), (by first | trivial | rfl | omega), (by first | trivial | rfl | omega), (by first | trivial | rfl | omega), (by first | trivial | rfl | omega), (by first | trivial | rfl | omega), (by first | trivial | rfl | omega), (by first | trivial | rfl | omega), Cl.X, by simp only [rf]; omega, fun x hx hxm => by rw [X_old (by omega), put_ne hxm]; exact jg x hx hxm, ?_⟩, by omega, by simp only [rf]; omega⟩
      (try rw [X_old hm1]); rw [put_at, hst, List.append_assoc]
  · obtain rfl : k = (readsR t).length := by omega
    rw [List.take_length] at jm
    simp (config := { maxSteps := 2000000 }) (disch := omega) only [c_build_B3_0, BS, BC, e_seq, cond_if, ↓reduceIte, q50, q51, clt, hk1, decide_false]
    exact hQ _ _ jC jn jg jm
end Go.AL.S
set_option maxRecDepth 100000
set_option maxHeartbeats 2000000
namespace Go.AL.S
open Go Go.AL Go.Proofs
variable {E : Env}
theorem cells_buf {b : Bool} {r s n : Nat} : (V.buf b r s n).cells = [.buf b r s n] := id rfl
theorem one_buf {b : Bool} {r s n : Nat} : (V.buf b r s n).one = true := id rfl
theorem bs1 {W : AW} {K : V → AW → Prop} {a : Int} : sem E (.bslice 1 1 (.int .u16 0) [0]) [.int .u16 a] W K = K (.sl 1 true [.int .u16 a]) W := by
  simp [sem, rsem, tsem, fillE, V.cells]
theorem nowG.cells1 {W : AW} {h : V} {xs : List V} {s lo : Nat} (hn : nowG W h xs s lo) : h.cells = [h] ∧ h.one = true := by
  rcases hn with ⟨rfl, rfl⟩ | ⟨r, h1, h2, rfl, h4, h5⟩
  · exact ⟨rfl, rfl⟩
  · exact ⟨rfl, rfl⟩
theorem Bd.lo {W W1 : AW} {p ra rw q g m lo : Nat} {s : Str} {os : Ods} {hn hn' : V} {P P' : List Ek} (h : Bd W p ra rw q g m s os hn P) (hl : p < lo ∧ ra < lo ∧ rw < lo ∧ q < lo ∧ g < lo ∧ m < lo) (gne : g ≠ p ∧ g ≠ q ∧ g ≠ ra ∧ g ≠ rw) (hn1 : W.nx ≤ W1.nx) (hlo : lo ≤ W.nx) (hx : ∀ x, x < lo → x ≠ g → x ≠ m → W1.get x = W.get x)
    (hg : W1.get g = some (.row [hn', .map m])) (hm : W1.get m = some (gmap P')) (hk : ∀ x ∈ P', ekOk x) : Bd W1 p ra rw q g m s os hn' P' := by
  obtain ⟨n1, n2, n3⟩ := h.nem
  obtain ⟨e1, e2, e3, e4⟩ := gne
  obtain ⟨l1, l2, l3, l4, l5, l6⟩ := hl
  exact ⟨h.st.by hn1 (hx _ l1 e1.symm n1) (hx _ l2 e3.symm h.mra.symm) (hx _ l3 e4.symm h.mrw.symm), h.od.by hn1 (hx _ l4 e2.symm n2), hg, hm, by omega, by omega, h.mra, h.mrw, hk⟩
def nodeP (t : Tx) : List Int := if t.st = 2 then [] else [t.id]
theorem nodesR_eq (s : Str) : nodesR s = s.flatMap nodeP := by
  induction s with
  | nil => rfl
  | cons t s ih =>
    simp only [nodesR, List.filter_cons, List.flatMap_cons, nodeP] at ih ⊢
    rw [← ih]
    by_cases h : t.st = 2
    · simp [h]
    · simp [h]
/-- One transaction. -/
theorem b3_go (hP : E.P = Tryz.prog) {W1 : AW} {p ra rw q g m b2 b3 b5 b7 lo : Nat} {s : Str} {os : Ods} {hn : V} {P : List Ek} {N : List Int} (hC : Cl W1) (h : Bd W1 p ra rw q g m s os hn P) (hnow : nowG W1 hn (intsV N) 1 lo) (hlo : lo ≤ W1.nx) (hgl : g < lo) (hml : m < lo) (hst : p < lo ∧ ra < lo ∧ rw < lo ∧ q < lo) (gne : g ≠ p ∧ g ≠ q ∧ g ≠ ra ∧ g ≠ rw) (hN : N.length < 2 ^ 20) {t : Tx} (ht : t.ok)
    (hPl : (P ++ txnP s os t).length < 2 ^ 40) {A : AFr} {Q : Exit → AFr → AW → Prop} (a2 : A 2 = some (.ptr b2 0)) (a3 : A 3 = some (.ptr b3 0)) (a5 : A 5 = some (.ptr b5 0)) (a7 : A 7 = some (.ptr b7 0))
    (g2 : W1.get b2 = some (.row [.ptr p 0])) (g3 : W1.get b3 = some (.row [.ptr q 0])) (g5 : W1.get b5 = some (.row [.ptr p 0, .ptr q 0, .ptr g 0])) (g7 : W1.get b7 = some (.row [.int .u16 t.id, .int .u8 t.client, msV t.ms, lsV t.ls, .int .u8 t.st]))
    (l2 : b2 < lo) (l3 : b3 < lo) (l5 : b5 < lo) (l7 : b7 < W1.nx) (n2 : b2 ≠ g) (n3 : b3 ≠ g) (n7 : b7 ≠ g)
    (hQ : ∀ A' W' hn', Cl W' → W1.nx ≤ W'.nx → (∀ x, x < W1.nx → x ≠ m → x ≠ g → (x < lo ∨ ∀ ys, W1.get x ≠ some (.buf true 1 ys)) → W'.get x = W1.get x) → W'.get g = some (.row [hn', .map m]) → W'.get m = some (gmap (P ++ txnP s os t)) → nowG W' hn' (intsV (N ++ nodeP t)) 1 lo → Q .normal A' W') : awp E c_build_B3 Q A W1 := by
  have hbv : ∀ x : V, V.agg [.int .u16 t.id, .int .u8 t.client, msV t.ms, lsV t.ls, .int .u8 t.st] = t.V := fun _ => rfl
  have n5 : b5 ≠ g := by rintro rfl; have := g5.symm.trans h.hg; simp at this
  simp only [c_build_B3, BS, BC, e_seq, ↓reduceIte, BM, BD, Nat.reduceAdd, Nat.reduceLeDiff, a7, g7]
  refine pc (alive_c hP _ t) ?_
  by_cases hs2 : t.st = 2
  · simp only [BS, cond_if, ↓reduceIte, BD, show decide (t.st ≠ 2) = false by simp [hs2]]
    have e1 : txnP s os t = [] := by simp [txnP, hs2]
    have e2 : nodeP t = [] := by simp [nodeP, hs2]
    rw [e1, e2, List.append_nil, List.append_nil] at hQ
    exact hQ _ _ hn hC (Nat.le_refl _) (fun _ _ _ _ _ => rfl) h.hg h.hm hnow
  · have e1 : txnP s os t = (readsR t).flatMap (rf1 s os t.id) := by simp only [txnP, if_neg hs2]; rfl
    have e2 : nodeP t = [t.id] := by simp [nodeP, hs2]
    rw [e1] at hQ hPl
    rw [e2] at hQ
    have hg5 := h.hg
    have ones : (V.int IntKind.u16 t.id).cells.all V.one = true := rfl
    have hsn : intsV (N ++ [t.id]) = intsV N ++ [.int .u16 t.id] := by simp [intsV]
    have hlen : (intsV N).length = N.length := ints_len N
    -- what is left, behind the append
    have fin : ∀ (A' : AFr) (h' : V) (W' : AW), A' 2 = some (.ptr b2 0) → A' 3 = some (.ptr b3 0) → A' 5 = some (.ptr b5 0) → A' 7 = some (.ptr b7 0) → nowG W' h' (intsV N ++ [.int .u16 t.id]) 1 lo → Cl W' → W1.nx ≤ W'.nx → (∀ y, y < W1.nx → (y < lo ∨ ∀ ys, W1.get y ≠ some (.buf true 1 ys)) → W'.get y = W1.get y) →
        awp E (.seq (.reg [⟨(some 48), .load true 5, [.t 7], none⟩, ⟨(some 49), .call 36, [.t 48], none⟩, ⟨(some 50), .len 1 0, [.t 49], none⟩, ⟨(some 51), .mov, [.c (.int .i64 0)], none⟩]) (.block 4 (.loop c_build_B3_0))) (blockQ 3 Q) A' (W'.put g (.row [h', .map m])) := by
      intro A' h' W' q2 q3 q5 q7 gN gC gn gg
      have hgm : g ≠ m := h.nem.2.2
      have hB : Bd (W'.put g (.row [h', .map m])) p ra rw q g m s os h' P :=
        h.lo (lo := lo) ⟨hst.1, hst.2.1, hst.2.2.1, hst.2.2.2, hgl, hml⟩ gne (by rw [put_nx]; exact gn) hlo (fun x hx hxg _ => by rw [put_ne hxg]; exact gg x (by omega) (.inl hx)) put_at (by rw [put_ne hgm.symm, gg _ h.lm (.inl hml)]; exact h.hm) h.pk
      have k2 : (W'.put g (.row [h', .map m])).get b2 = some (.row [.ptr p 0]) := by rw [put_ne n2, gg _ (by omega) (.inl l2)]; exact g2
      have k3 : (W'.put g (.row [h', .map m])).get b3 = some (.row [.ptr q 0]) := by rw [put_ne n3, gg _ (by omega) (.inl l3)]; exact g3
      have k5 : (W'.put g (.row [h', .map m])).get b5 = some (.row [.ptr p 0, .ptr q 0, .ptr g 0]) := by rw [put_ne n5, gg _ (by omega) (.inl l5)]; exact g5
      have k7 : (W'.put g (.row [h', .map m])).get b7 = some (.row [.int .u16 t.id, .int .u8 t.client, msV t.ms, lsV t.ls, .int .u8 t.st]) := by rw [put_ne n7, gg _ l7 (.inr fun ys => by rw [g7]; simp)]; exact g7
      have hsl := nowGS_S 2 ((readsR t).map rdV)
      simp only [BS, BC, e_seq, ↓reduceIte, BM, BD, Nat.reduceAdd, Nat.reduceLeDiff, q7, k7]
      refine pc (reads_c hP _ ht) ?_
      simp only [BS, ↓reduceIte, hsl.len, List.length_map]
      rw [e_loop]
      refine rds_go hP (gC.put (by omega)) hB ht hPl (b2 := b2) (b3 := b3) (b5 := b5) (b7 := b7) q2 q3 q5 q7 rfl rfl rfl k2 k3 k5 k7 (by rw [put_nx]; omega) (by rw [put_nx]; omega) (by rw [put_nx]; omega) (by rw [put_nx]; omega) ?_
      intro A'' W'' fC fn ff fm
      rw [put_nx] at fn
      simp only [BS, ↓reduceIte]
      have hgn : g < W'.nx := by omega
      refine hQ _ W'' h' fC (by omega) (fun x hx hxm hxg hc => ?_) ?_ fm ?_
      · rw [ff x (by rw [put_nx]; omega) hxm, put_ne hxg]; exact gg x hx hc
      · rw [ff g (by rw [put_nx]; omega) hgm, put_at]
      · rw [hsn]
        refine gN.to fn fun r hr1 hr2 _ => ?_
        rw [ff r (by rw [put_nx]; omega) (by omega), put_ne (by omega)]
    have hlen2 : ((intsV N).length + 1) * 2 ≤ 2 ^ 46 := by rw [hlen]; omega
    simp only [BS, BC, e_seq, cond_if, ↓reduceIte, Nat.reduceEqDiff, BM, BD, show decide (t.st ≠ 2) = true by simp [hs2], a5, a7, g5, g7, hg5, bs1]
    constructor
    · refine app_now (lo := lo) hnow hC hlo (by decide) ones hlen2 ?_
      intro h' W' gN gC gn gg1 gg2
      have hg' : W'.get g = some (.row [hn, .map m]) := by rw [gg2 _ hgl]; exact hg5
      simp only [BS, ↓reduceIte, Nat.reduceEqDiff, BM, BD, Nat.reduceAdd, Nat.reduceLeDiff, gN.cells1.1, gN.cells1.2, hg']
      exact fin _ h' W' a2 a3 a5 a7 gN gC gn fun y hy hc => hc.elim (gg2 y) (gg1 y hy)
    · refine app_now (lo := lo) hnow hC hlo (by decide) ones hlen2 ?_
      intro h' W' gN gC gn gg1 gg2
      have hg' : W'.get g = some (.row [hn, .map m]) := by rw [gg2 _ hgl]; exact hg5
      have h5' : W'.get b5 = some (.row [.ptr p 0, .ptr q 0, .ptr g 0]) := by rw [gg2 _ l5]; exact g5
      simp only [BS, BC, ↓reduceIte, Nat.reduceEqDiff, BM, BD, Nat.reduceAdd, Nat.reduceLeDiff, gN.cells1.1, gN.cells1.2, hg', h5']
      exact fin _ h' W' a2 a3 a5 a7 gN gC gn fun y hy hc => hc.elim (gg2 y) (gg1 y hy)
end Go.AL.S
set_option maxRecDepth 100000
set_option maxHeartbeats 2000000
namespace Go.AL.S
open Go Go.AL Go.Proofs
variable {E : Env}
/-- A graph that was built. -/
structure Gr (W : AW) (g m : Nat) (h : V) (P : List Ek) (N : List Int) (lo : Nat) : Prop where
  hg : W.get g = some (.row [h, .map m])
  hm : W.get m = some (gmap P)
  now : nowG W h (intsV N) 1 lo
  lg : g < W.nx
  lm : m < W.nx
  gg : lo ≤ g
  gm : lo ≤ m
  pk : ∀ x ∈ P, ekOk x
  pl : P.length < 2 ^ 32
  nl : N.length < 2 ^ 20
theorem edgeP_len (f t k : Int) : (edgeP f t k).length ≤ 1 := by unfold edgeP; split <;> simp
theorem lastP_len (s : Str) (b : Int) (r : Rd) : (lastP s b r).length ≤ 1 := by
  unfold lastP
  split
  · split
    · exact edgeP_len _ _ _
    · simp
  · simp
theorem nextP_len (s : Str) (os : Ods) (b : Int) (r : Rd) : (nextP s os b r).length ≤ 1 := by
  unfold nextP
  split
  · split
    · exact edgeP_len _ _ _
    · simp
  · simp
theorem flat_len {α β : Type} {f : α → List β} {n : Nat} : ∀ {l : List α}, (∀ x ∈ l, (f x).length ≤ n) → (l.flatMap f).length ≤ l.length * n
  | [], _ => by simp
  | x :: l, h => by
    have h1 := h x (by simp)
    have h2 := flat_len (l := l) (f := f) (n := n) fun y hy => h y (by simp [hy])
    rw [List.flatMap_cons, List.length_append, List.length_cons, Nat.add_mul]; omega
theorem txnP_len {s : Str} {os : Ods} {t : Tx} (h : t.ok) : (txnP s os t).length ≤ 16 := by
  unfold txnP
  split
  · simp
  · have := flat_len (f := fun r => if countsR s os r = true then readP s os t.id r else []) (n := 2) (l := readsR t) fun r _ => by
      split
      · have h1 := lastP_len s t.id r
        have h2 := nextP_len s os t.id r
        rw [readP, List.length_append]; omega
      · simp
    have h8 := readsR_len h
    omega
theorem keyP_len {W : AW} {q : Nat} {s : Str} {os : Ods} (h : Od W q os) (k : Int) : (keyP s os k).length ≤ 32 := by
  have := flat_len (f := kf s k) (n := 1) (l := (keyO os k).zip (keyO os k).tail) fun x _ => by
    unfold kf
    split
    · exact edgeP_len _ _ _
    · simp
  have h1 := (keyO_ok h k).1
  have h2 : ((keyO os k).zip (keyO os k).tail).length ≤ 32 := by rw [List.length_zip]; omega
  have h3 : keyP s os k = ((keyO os k).zip (keyO os k).tail).flatMap (kf s k) := rfl
  rw [h3]; omega
theorem buildP_len {W : AW} {q : Nat} {s : Str} {os : Ods} (hs : SOk s) (h : Od W q os) : (buildP s os).length < 2 ^ 21 := by
  have h1 := flat_len (f := fun (k : Nat) => keyP s os (k : Int)) (n := 32) (l := List.range 8) fun k _ => keyP_len h k
  have h2 := flat_len (f := txnP s os) (n := 16) (l := s) fun t ht => txnP_len (hs.ok t ht)
  have h3 := st_len hs
  have h4 : (List.range 8).length = 8 := rfl
  rw [buildP, keysP, List.length_append]
  omega
theorem buildP_ok {s : Str} {os : Ods} (hs : SOk s) : ∀ x ∈ buildP s os, ekOk x := by
  intro x hx
  rcases List.mem_append.1 hx with hx | hx
  · obtain ⟨k, _, hx⟩ := List.mem_flatMap.1 hx
    obtain ⟨z, _, hz⟩ := List.mem_flatMap.1 hx
    exact kf_ok hs _ z x hz
  · obtain ⟨t, ht, hx⟩ := List.mem_flatMap.1 hx
    have hto := hs.ok t ht
    unfold txnP at hx
    split at hx
    · simp at hx
    · obtain ⟨r, _, hr⟩ := List.mem_flatMap.1 hx
      exact rf1_ok hs os ⟨hto.id0, hto.id1⟩ r x hr
theorem nodes_len (s : Str) : (nodesR s).length ≤ s.length := by
  simp only [nodesR, List.length_map]; exact List.length_filter_le _ _
theorem prefix_ok {s : Str} {os : Ods} (hs : SOk s) {P' : List Ek} (h : P' <+: buildP s os) : ∀ x ∈ P', ekOk x := fun x hx => buildP_ok hs x (h.subset hx)
theorem u8add1 {k : Nat} (h : k < 100) : IntKind.u8.wrap ((k : Int) + 1) = ((k + 1 : Nat) : Int) := by
  simp only [IntKind.wrap, IntKind.signed, IntKind.bits]; simp; omega
theorem build_c (hP : E.P = Tryz.prog) (W : AW) {p ra rw q : Nat} {s : Str} {os : Ods} (hS : St W p ra rw s) (hO : Od W q os) :
    ACalls E 12 [.ptr p 0, .ptr q 0] W fun Y W' => ∃ g m h, Y = .ptr g 0 ∧ Gr W' g m h (buildP s os) (nodesR s) W.nx ∧ Ex W W' := by
  refine ACalls.of hP Tryz.func12 ok_builde (by simp) fun _ hok => ?_
  refine awp_start hok ?_
  have hlp := hS.lp
  have hla := hS.la
  have hlw := hS.lw
  have hlq := hO.lq
  have hbl := buildP_len hS.ok hO
  have hsl := st_len hS.ok
  simp only [c_build, BS, BC, e_seq, cond_if, guard_if, ↓reduceIte, Nat.reduceEqDiff, BM, BD, Nat.reduceAdd, Nat.reduceLeDiff, Nat.reduceLT]
  rw [e_loop]
  obtain ⟨W0, hW0⟩ : ∃ W0, W0 = X W W.nx [.row [.ptr p 0], .row [.ptr q 0], .map [] 0, .row [.nilsl, .map (rf W.nx 2)], .row [.ptr p 0, .ptr q 0, .ptr (rf W.nx 3) 0]] := ⟨_, rfl⟩
  rw [← hW0]
  have hE0 : Ex W W0 := by rw [hW0]; exact .x0
  have hn0 : W0.nx = W.nx + 5 := by rw [hW0]; rfl
  have r0 : rf W.nx 0 = W.nx := rfl
  have r1 : rf W.nx 1 = W.nx + 1 := rfl
  have r2 : rf W.nx 2 = W.nx + 2 := rfl
  have r3 : rf W.nx 3 = W.nx + 3 := rfl
  have r4 : rf W.nx 4 = W.nx + 4 := rfl
  have w0 : W0.get (rf W.nx 0) = some (.row [.ptr p 0]) := by rw [hW0, X_get]; rfl
  have w1 : W0.get (rf W.nx 1) = some (.row [.ptr q 0]) := by rw [hW0, X_get]; rfl
  have w2 : W0.get (rf W.nx 2) = some (gmap []) := by rw [hW0, X_get]; rfl
  have w3 : W0.get (rf W.nx 3) = some (.row [.nilsl, .map (rf W.nx 2)]) := by rw [hW0, X_get]; rfl
  have w4 : W0.get (rf W.nx 4) = some (.row [.ptr p 0, .ptr q 0, .ptr (rf W.nx 3) 0]) := by rw [hW0, X_get]; rfl
  have hB0 : Bd W0 p ra rw q (rf W.nx 3) (rf W.nx 2) s os .nilsl [] := ⟨hS.ex hE0, hO.ex hE0, w3, w2, by omega, by omega, by omega, by omega, by simp⟩
  clear hW0
  refine ALoop.go (B := awp E _) (fun h => awp_mono _ h) (fun (k : Nat) A1 W1 => A1 2 = some (.ptr (rf W.nx 0) 0) ∧ A1 3 = some (.ptr (rf W.nx 1) 0) ∧ A1 5 = some (.ptr (rf W.nx 4) 0) ∧ A1 22 = some (.int .u8 k) ∧ k ≤ 8 ∧ W1 = W0.put (rf W.nx 2) (gmap ((List.range k).flatMap fun (j : Nat) => keyP s os (j : Int)))) (fun k => 8 - k) 0
    ⟨rfl, rfl, rfl, rfl, Nat.zero_le _, (put_same w2).symm⟩ ?_
  rintro k A1 W1 ⟨q2, q3, q5, q22, qk, rfl⟩ _
  have hpre : ∀ j, j ≤ 8 → ((List.range j).flatMap fun (j : Nat) => keyP s os (j : Int)) <+: keysP s os := by
    intro j hj
    have : List.range 8 = List.range j ++ (List.range (8 - j)).map (j + ·) := by rw [← List.range_add]; congr 1; omega
    rw [keysP, this, List.flatMap_append]; exact List.prefix_append _ _
  have hkb : keysP s os <+: buildP s os := List.prefix_append _ _
  have hB1 : Bd (W0.put (rf W.nx 2) (gmap ((List.range k).flatMap fun (j : Nat) => keyP s os (j : Int)))) p ra rw q (rf W.nx 3) (rf W.nx 2) s os .nilsl ((List.range k).flatMap fun (j : Nat) => keyP s os (j : Int)) :=
    hB0.to (by rw [put_nx]; omega) (fun x _ hx => put_ne hx) put_at (prefix_ok hS.ok ((hpre k qk).trans hkb))
  have v4 : (W0.put (rf W.nx 2) (gmap ((List.range k).flatMap fun (j : Nat) => keyP s os (j : Int)))).get (rf W.nx 4) = some (.row [.ptr p 0, .ptr q 0, .ptr (rf W.nx 3) 0]) := by rw [put_ne (by omega)]; exact w4
  by_cases hk : k < 8
  · have hk' : decide ((k : Int) < 8) = true := by simp; omega
    have hst : ((List.range (k + 1)).flatMap fun (j : Nat) => keyP s os (j : Int)) = ((List.range k).flatMap fun (j : Nat) => keyP s os (j : Int)) ++ keyP s os k := by
      rw [List.range_succ, List.flatMap_append]; simp [List.flatMap]
    have hle := ((hpre (k + 1) hk).trans hkb).length_le
    simp (config := { maxSteps := 2000000 }) (disch := omega) only [c_build_0, BS, BC, e_seq, cond_if, ↓reduceIte, Nat.reduceEqDiff, BM, BD, Nat.reduceAdd, Nat.reduceLeDiff, q5, q22, hk', v4]
    refine (key_c hP _ hB1 k (by omega) (by omega) (by rw [← hst]; omega)).mono ?_
    rintro _ W3 ⟨rfl, rfl⟩
    simp (config := { maxSteps := 2000000 }) (disch := omega) only [BS, ↓reduceIte, Nat.reduceEqDiff, q2, q3, q5, q22, u8add1]
    refine ⟨k + 1, ⟨(by first | trivial | rfl | omega), (by first | trivial | rfl | omega), (by first | trivial | rfl | omega), (by first | trivial | rfl | omega), hk, ?_⟩, by omega, by simp only [put_nx]; omega⟩
    rw [put_put, hst]
  · obtain rfl : k = 8 := by omega
    have hk' : decide (((8 : Nat) : Int) < 8) = false := by decide
    obtain ⟨W1, hW1⟩ : ∃ W1, W1 = W0.put (rf W.nx 2) (gmap ((List.range 8).flatMap fun (j : Nat) => keyP s os (j : Int))) := ⟨_, rfl⟩
    rw [← hW1] at hB1 v4 ⊢
    have hn1 : W1.nx = W.nx + 5 := by rw [hW1, put_nx]; exact hn0
    have hg1 : ∀ x, x ≠ rf W.nx 2 → W1.get x = W0.get x := fun x hx => by rw [hW1, put_ne hx]
    have v0 : W1.get (rf W.nx 0) = some (.row [.ptr p 0]) := by rw [hg1 _ (by omega)]; exact w0
    have v1 : W1.get (rf W.nx 1) = some (.row [.ptr q 0]) := by rw [hg1 _ (by omega)]; exact w1
    have hC1 : Cl W1 := by rw [hW1]; exact hE0.cl.put (by omega)
    have hE1 : Ex W W1 := ⟨hC1, by omega, fun x hx => by rw [hg1 _ (by omega)]; exact hE0.get x hx⟩
    clear hW1
    simp (config := { maxSteps := 2000000 }) (disch := omega) only [c_build_0, BS, BC, e_seq, cond_if, ↓reduceIte, Nat.reduceEqDiff, BM, q2, q22, hk', v0]
    refine (all_c hP _ p).mono ?_
    rintro _ W2 ⟨rfl, rfl⟩
    simp (config := { maxSteps := 2000000 }) (disch := omega) only [BS]
    obtain ⟨W2, hW2⟩ : ∃ W2, W2 = W1.alloc (.row [.ptr p 0]) := ⟨_, rfl⟩
    rw [← hW2]
    have hn2 : W2.nx = W.nx + 6 := by rw [hW2, alloc_nx, hn1]
    have hq2 : W2.get W1.nx = some (.row [.ptr p 0]) := by rw [hW2, alloc_at]
    have hE12 : Ex W1 W2 := ⟨fun x hx => by rw [hW2, al_gets]; rw [hW2, alloc_nx] at hx; rw [if_neg (by omega)]; exact hC1 x (by omega), by omega, fun x hx => by rw [hW2, alloc_lt hx]⟩
    have hB2 := hB1.ex hE12
    have u0 := (hE12.get _ (by omega : rf W.nx 0 < W1.nx)).trans v0
    have u1 := (hE12.get _ (by omega : rf W.nx 1 < W1.nx)).trans v1
    have u4 := (hE12.get _ (by omega : rf W.nx 4 < W1.nx)).trans v4
    have hE2 := hE1.trans hE12
    have hb8 : keysP s os = (List.range 8).flatMap fun (j : Nat) => keyP s os (j : Int) := rfl
    rw [← hb8] at hB2
    have hpreb : ∀ i, (keysP s os ++ (s.take i).flatMap (txnP s os)) <+: buildP s os := fun i => by
      refine List.prefix_append_right_inj _ |>.2 ?_
      generalize txnP s os = f
      conv => rhs; rw [← List.take_append_drop i s, List.flatMap_append]
      exact List.prefix_append _ _
    refine range_all hP (q := W1.nx) (s := s) (W0 := W2) (by simp only [ev_t]; exact if_pos rfl) hq2 (by omega) hE2.cl (hS.ex hE2)
      (fun i W' => Cl W' ∧ (∀ x, x < W2.nx → x ≠ rf W.nx 2 → x ≠ rf W.nx 3 → W'.get x = W2.get x) ∧ W'.get (rf W.nx 2) = some (gmap (keysP s os ++ (s.take i).flatMap (txnP s os))) ∧ ∃ hn, W'.get (rf W.nx 3) = some (.row [hn, .map (rf W.nx 2)]) ∧ nowG W' hn (intsV ((s.take i).flatMap nodeP)) 1 W2.nx) ?_ ?_ ?_ ?_
    · intro W' hE
      refine ⟨hE.cl, fun x hx _ _ => hE.get x hx, ?_, .nilsl, ?_, .inl ⟨rfl, rfl⟩⟩
      · rw [hE.get _ (by omega), hB2.hm]; simp
      · rw [hE.get _ (by omega), hB2.hg]
    · rintro i W' ⟨j0, j1, _⟩
      exact ⟨j0, j1 _ (by omega) (by omega) (by omega), j1 _ (by omega) (by omega) (by omega), j1 _ (by omega) (by omega) (by omega)⟩
    · rintro i hi W' ⟨j0, j1, j2, hn, j3, j4⟩ hl hnn
      have hto := hS.ok.ok s[i] (List.getElem_mem hi)
      have st1 := flat_snoc (f := txnP s os) hi
      have st2 := flat_snoc (f := nodeP) hi
      have hpi := hpreb (i + 1)
      rw [st1, ← List.append_assoc] at hpi
      have hnl : ((s.take i).flatMap nodeP).length < 2 ^ 20 := by
        have := flat_len (f := nodeP) (n := 1) (l := s.take i) fun t _ => by unfold nodeP; split <;> simp
        have h2 : (s.take i).length ≤ s.length := by simp; omega
        omega
      generalize s[i] = t at hto st1 st2 hpi
      refine awp_startC j0 ?_
      simp (config := { maxSteps := 2000000 }) (disch := omega) only [BS, BC, ↓reduceIte, Nat.reduceEqDiff, BM, BD, Nat.reduceAdd, Nat.reduceLeDiff, Nat.reduceLT, msV_one, lsV_one, Tx.V, hl]
      refine ⟨trivial, ?_⟩
      have hB : Bd (X (W'.put W2.nx (.loop .busy none)) W'.nx [.row [.int .u16 t.id, .int .u8 t.client, msV t.ms, lsV t.ls, .int .u8 t.st]]) p ra rw q (rf W.nx 3) (rf W.nx 2) s os hn (keysP s os ++ (s.take i).flatMap (txnP s os)) :=
        hB2.lo (lo := W2.nx) (by omega) (by omega) (by simp only [X_nx, rf]; omega) (Nat.le_refl _) (fun x hx h3 h2 => by rw [X_old (by omega), put_ne (by omega)]; exact j1 x hx h2 h3) (by rw [X_old (by omega), put_ne (by omega)]; exact j3) (by rw [X_old (by omega), put_ne (by omega)]; exact j2) (prefix_ok hS.ok (hpreb i))
      refine b3_go hP (lo := W2.nx) (b2 := rf W.nx 0) (b3 := rf W.nx 1) (b5 := rf W.nx 4) (b7 := rf W'.nx 0) (N := (s.take i).flatMap nodeP) (t := t) Cl.X hB (j4.to (by simp only [X_nx, rf]; omega) fun r h1 h2 ⟨ys, hy⟩ => by rw [X_old h2, put_ne (by rintro rfl; rw [hl] at hy; cases hy)]) (by simp only [X_nx, rf]; omega) (by omega) (by omega) (by omega) (by omega) hnl hto (by have := hpi.length_le; omega) q2 q3 q5 rfl ?_ ?_ ?_ (by rw [X_get]; rfl) (by omega) (by omega) (by omega) (by simp [X_nx, rf]) (by omega) (by omega) (by simp only [rf]; omega) ?_
      · rw [X_old (by omega), put_ne (by omega), j1 _ (by omega) (by omega) (by omega)]; exact u0
      · rw [X_old (by omega), put_ne (by omega), j1 _ (by omega) (by omega) (by omega)]; exact u1
      · rw [X_old (by omega), put_ne (by omega), j1 _ (by omega) (by omega) (by omega)]; exact u4
      intro A'' W'' hn' fC fn ff fg fm fnow
      simp only [X_nx, rf, List.length_cons, List.length_nil] at fn
      have hloop : W''.get W2.nx = some (.loop .busy none) := by
        rw [ff W2.nx (by simp only [X_nx, rf]; omega) (by omega) (by omega) (.inr fun ys => by rw [X_old (by omega), put_at]; simp), X_old (by omega), put_at]
      refine ⟨rfl, hloop, by omega, fC.put (by omega), fun x hx h2 h3 => ?_, ?_, hn', ?_, ?_⟩
      · rw [put_ne (by omega), ff x (by simp only [X_nx, rf]; omega) h2 h3 (.inl hx), X_old (by omega), put_ne (by omega)]
        exact j1 x hx h2 h3
      · rw [put_ne (by omega), fm, st1, List.append_assoc]
      · rw [put_ne (by omega), fg]
      · rw [st2]
        exact fnow.to (by rw [put_nx]; exact Nat.le_refl _) fun r h1 h2 ⟨ys, hy⟩ => put_ne (by rintro rfl; rw [hloop] at hy; cases hy)
    · rintro W' ⟨j0, j1, j2, hn, j3, j4⟩ hl hnn
      rw [List.take_length] at j2 j4
      rw [← nodesR_eq] at j4
      have k4 : (W'.put W2.nx (.loop .exhausted none)).get (rf W.nx 4) = some (.row [.ptr p 0, .ptr q 0, .ptr (rf W.nx 3) 0]) := by rw [put_ne (by omega), j1 _ (by omega) (by omega) (by omega)]; exact u4
      simp (config := { maxSteps := 2000000 }) (disch := omega) only [BS, BC, e_seq, ↓reduceIte, Nat.reduceEqDiff, BM, BD, q5, k4]
      have hnl := nodes_len s
      have hbp : buildP s os = keysP s os ++ s.flatMap (txnP s os) := rfl
      refine ⟨_, rfl, _, _, .weak weak_id, by rw [put_nx]; omega, rf W.nx 3, rf W.nx 2, hn, rfl, ⟨by rw [put_ne (by omega)]; exact j3, by rw [put_ne (by omega)]; exact j2, ?_, by rw [put_nx]; omega, by rw [put_nx]; omega, by omega, by omega, buildP_ok hS.ok, by omega, by omega⟩, j0.put (by omega), by rw [put_nx]; omega, fun x hx => by rw [put_ne (by omega), j1 x (by omega) (by omega) (by omega)]; exact hE2.get x hx⟩
      rcases j4 with j4 | ⟨r, h1, h2, h3, h4, h5⟩
      · exact .inl j4
      · exact .inr ⟨r, by omega, by rw [put_nx]; exact h2, h3, h4, by rw [put_ne (by rintro rfl; rw [hl] at h5; cases h5)]; exact h5⟩
end Go.AL.S
set_option maxRecDepth 100000
set_option maxHeartbeats 2000000
namespace Go.AL.S
open Go Go.AL Go.AL.SE Go.Proofs
/- (*umpire/graph.Graph).Nodes -/
def c_nodes : AC := (AC.seq (AC.reg [
  ⟨(some 2), .mov, [.c (.nilsl)], none⟩])
 (AC.seq (AC.seq (AC.reg [
  ⟨(some 3), .mov, [.t 0], none⟩,
  ⟨(some 4), .eqn false 0, [.t 3, .c (.nilptr)], none⟩])
 (AC.cond (.t 4)
  (AC.seq (AC.reg [
   ⟨(some 2), .mov, [.c (.nilsl)], none⟩])
  AC.ret)
  AC.skip))
 (AC.seq (AC.reg [
  ⟨(some 5), .mov, [.t 0], none⟩,
  ⟨(some 6), .nilck, [.t 5], none⟩,
  ⟨(some 7), .fld 0, [.t 6], none⟩,
  ⟨(some 8), .load false 1, [.t 7], none⟩,
  ⟨(some 9), .call 44, [.t 8], none⟩,
  ⟨(some 2), .mov, [.t 9], none⟩])
 AC.ret)))
def r_nodes : AC × List RT × Nat := (c_nodes, [.tmp 2], 10)
theorem ok_nodese : compF Tryz.prog Tryz.f15 ⟨false, false, []⟩ = some r_nodes := by kernel_rfl
/- (*umpire/graph.Graph).sorted -/
def c_sorted : AC := (AC.seq (AC.reg [
  ⟨(some 2), .mov, [.c (.nilsl)], none⟩])
 (AC.seq (AC.seq (AC.reg [
  ⟨(some 3), .mov, [.t 0], none⟩,
  ⟨(some 4), .eqn false 0, [.t 3, .c (.nilptr)], none⟩])
 (AC.cond (.t 4)
  (AC.seq (AC.reg [
   ⟨(some 2), .mov, [.c (.nilsl)], none⟩])
  AC.ret)
  AC.skip))
 (AC.seq (AC.reg [
  ⟨(some 5), .mov, [.t 0], none⟩,
  ⟨(some 6), .nilck, [.t 5], none⟩,
  ⟨(some 7), .fld 1, [.t 6], none⟩,
  ⟨(some 8), .load false 1, [.t 7], none⟩,
  ⟨(some 9), .call 108, [.t 8], none⟩,
  ⟨(some 10), .call 107, [.t 9, .f 109], none⟩,
  ⟨(some 2), .mov, [.t 10], none⟩])
 AC.ret)))
def r_sorted : AC × List RT × Nat := (c_sorted, [.tmp 2], 11)
theorem ok_sortede : compF Tryz.prog Tryz.f87 ⟨false, false, []⟩ = some r_sorted := by kernel_rfl
/- (*umpire/graph.Graph).Edges -/
def c_edges : AC := (AC.seq (AC.reg [
  ⟨(some 1), .box, [.t 0], none⟩,
  ⟨(some 2), .mov, [.c (.nilfn)], none⟩])
 (AC.seq (AC.reg [
  ⟨(some 3), .mkfn (.func 86) 0, [.t 1], none⟩,
  ⟨(some 2), .mov, [.t 3], none⟩])
 AC.ret))
def r_edges : AC × List RT × Nat := (c_edges, [.tmp 2], 4)
theorem ok_edgese : compF Tryz.prog Tryz.f43 ⟨false, false, []⟩ = some r_edges := by kernel_rfl
def c_edges1_0 : AC := (AC.seq (AC.reg [
    ⟨(some 9), .bin .lss, [.t 8, .t 7], none⟩])
   (AC.seq (AC.cond (.t 9)
    AC.skip
    (AC.exit 0))
   (AC.seq (AC.block 1
    (AC.seq (AC.reg [
     ⟨(some 10), .idxp 3, [.t 6, .t 8], none⟩,
     ⟨(some 11), .load true 3, [.t 10], none⟩,
     ⟨(some 4), .alloc [.int .u16 0, .int .u16 0, .int .u8 0], [], none⟩,
     ⟨none, .store 3, [.t 4, .t 11], none⟩])
    (AC.seq (AC.reg [
     ⟨(some 12), .mov, [.t 0], none⟩,
     ⟨(some 13), .load true 3, [.t 4], none⟩,
     ⟨(some 14), .callv, [.t 12, .t 13], none⟩,
     ⟨(some 15), .un .not, [.t 14], none⟩])
    (AC.cond (.t 15)
     AC.ret
     AC.skip))))
   (AC.reg [
    ⟨(some 16), .bin .add, [.t 8, .c (.int .i64 1)], none⟩,
    ⟨(some 8), .mov, [.t 16], none⟩]))))
/- (*umpire/graph.Graph).Edges$1 -/
def c_edges1 : AC := (AC.seq (AC.reg [
  ⟨(some 5), .load false 1, [.t 1], none⟩,
  ⟨(some 6), .call 87, [.t 5], none⟩,
  ⟨(some 7), .len 1 0, [.t 6], none⟩,
  ⟨(some 8), .mov, [.c (.int .i64 0)], none⟩])
 (AC.block 0
  (AC.loop c_edges1_0)))
def r_edges1 : AC × List RT × Nat := (c_edges1, [], 17)
theorem ok_edges1e : compF Tryz.prog Tryz.f86 ⟨false, false, []⟩ = some r_edges1 := by kernel_rfl
/- (*umpire/graph.Graph).Has -/
def c_hasG : AC := (AC.seq (AC.reg [
  ⟨(some 3), .box, [.t 1], none⟩,
  ⟨(some 4), .mov, [.c (.bool false)], none⟩])
 (AC.seq (AC.par
  (PT.step 0 ⟨(some 5), .mov, [.t 0], none⟩
  (PT.step 1 ⟨(some 6), .eqn true 0, [.t 5, .c (.nilptr)], none⟩
  (PT.step 2 ⟨(some 7), .mov, [.t 6], none⟩
  (PT.step 3 ⟨(some 8), .mov, [.t 0], (some (7, true))⟩
  (PT.step 4 ⟨(some 9), .nilck, [.t 8], (some (7, true))⟩
  (PT.step 5 ⟨(some 10), .fld 1, [.t 9], (some (7, true))⟩
  (PT.step 6 ⟨(some 11), .load false 1, [.t 10], (some (7, true))⟩
  (PT.step 7 ⟨(some 12), .load true 3, [.t 3], (some (7, true))⟩
  (PT.step 8 ⟨(some 13), .lookup (true, [.i .u16, .i .u16, .i .u8]) (.int .i64 0) false, [.t 11, .t 12], (some (7, true))⟩
  (PT.step 9 ⟨(some 14), .bin .gtr, [.t 13, .c (.int .i64 0)], (some (7, true))⟩
  (PT.step 10 ⟨(some 15), .pick, [.t 7, .t 14, .c (.bool false)], none⟩
  (PT.step 11 ⟨(some 4), .mov, [.t 15], none⟩
  PT.done)))))))))))))
 AC.ret))
def r_hasG : AC × List RT × Nat := (c_hasG, [.tmp 4], 16)
theorem ok_hasGe : compF Tryz.prog Tryz.f16 ⟨false, false, []⟩ = some r_hasG := by kernel_rfl
variable {E : Env}
theorem gs_clone (l : List Int) : cloneV 1 (nowGS 1 (intsV l)) = nowGS 1 (intsV l) := by
  cases l with
  | nil => rfl
  | cons a l => rfl
theorem nodes_c (hP : E.P = Tryz.prog) (W : AW) {g m lo : Nat} {h : V} {P : List Ek} {N : List Int} (hG : Gr W g m h P N lo) : ACalls E 15 [.ptr g 0] W fun Y W' => Y = nowGS 1 (intsV N) ∧ W' = W := by
  refine ACalls.of hP Tryz.func15 ok_nodese (by simp) fun _ hok => ?_
  simp only [c_nodes, BS, BC, e_seq, cond_if, ↓reduceIte, reduceCtorEq, BM, BD, hG.hg, hG.now.frz]
  have hs := nowGS_S 1 (intsV N)
  refine pc (clone39_c hP W _ _ hs (belL_ints _ _) (by rw [ints_len]; have := hG.nl; omega)) ?_
  rw [gs_clone]
  simp only [BS, BC, ↓reduceIte, hs.frz]
  exact ⟨_, rfl, _, _, .weak weak_id, Nat.le_refl _, rfl, rfl⟩
theorem keys35_c (hP : E.P = Tryz.prog) (W : AW) (m : Nat) : ACalls E 108 [.map m] W fun Y W' => Y = .fn (.func 125) [] [.ptr W.nx 0] ∧ W' = W.alloc (.row [.map m]) := by
  refine ACalls.of hP Tryz.func108 ok_e35e (by simp) fun _ hok => ?_
  simp only [c_e35, BS, BC, e_seq, ↓reduceIte, Nat.reduceEqDiff, BM, BD]
  exact ⟨_, rfl, _, _, .weak weak_id, by rw [alloc_nx]; omega, rfl, rfl⟩
theorem g_edOf (l : List (Ek × Int)) : ∀ n, (gFrom n l).map edOf = (keysE l).map toEd := by
  induction l with
  | nil => intro n; rfl
  | cons x l ih => intro n; simp only [gFrom, List.map_cons, ih, keysE]; rfl
theorem g_key (l : List (Ek × Int)) : ∀ n, ∀ e ∈ gFrom n l, e.1 = (edOf e).V := by
  induction l with
  | nil => intro n e he; simp [gFrom] at he
  | cons x l ih =>
    intro n e he
    rcases List.mem_cons.1 he with rfl | he
    · rfl
    · exact ih _ e he
theorem g_len (l : List (Ek × Int)) : ∀ n, (gFrom n l).length = l.length := by
  induction l with
  | nil => intro n; rfl
  | cons x l ih => intro n; simp [gFrom, ih]
theorem g_fresh (l : List (Ek × Int)) : ∀ n, (∀ e ∈ gFrom n l, n ≤ e.2.2 ∧ e.2.2 < n + l.length) ∧ (stamps (gFrom n l)).Nodup := by
  induction l with
  | nil => intro n; exact ⟨fun _ h => by simp [gFrom] at h, List.nodup_nil⟩
  | cons x l ih =>
    intro n
    obtain ⟨h1, h2⟩ := ih (n + 1)
    refine ⟨fun e he => ?_, ?_⟩
    · rcases List.mem_cons.1 he with rfl | he
      · simp
      · have := h1 e he; simp only [List.length_cons]; omega
    · refine List.nodup_cons.2 ⟨fun h => ?_, h2⟩
      obtain ⟨e, he, h3⟩ := List.mem_map.1 h
      have := h1 e he
      simp only at h3
      omega
def edsV (l : List Ed) : V := if l = [] then .nilsl else .sl 3 false (l.map Ed.V)
theorem edsV_S (l : List Ed) : isS 3 (edsV l) (l.map Ed.V) := by
  unfold edsV
  split
  · rename_i h; subst h; exact .nil
  · exact .mk
theorem sorted_eq (P : List Ek) : sortedEV ((gFrom 0 (tally P)).map edOf) = edsV (edL P) := by
  rw [g_edOf, sortedEV, edsV]
  by_cases h : (keysE (tally P)).map toEd = []
  · have : edL P = [] := by rw [edL, h]; exact (sortL_perm []).eq_nil
    rw [if_pos h, if_pos this]
  · have : edL P ≠ [] := by
      intro e
      apply h
      have := edL_perm P
      rw [e] at this
      exact this.symm.eq_nil
    rw [if_neg h, if_neg this]; rfl
theorem bel_eds (l : List Ed) (n : Nat) : (edsV l).bel n = true := (edsV_S l).lens (bel_edV n l)
theorem sorted27_c (hP : E.P = Tryz.prog) (W : AW) {g m lo : Nat} {h : V} {P : List Ek} {N : List Int} (hG : Gr W g m h P N lo) : ACalls E 87 [.ptr g 0] W fun Y W' => Y = edsV (edL P) ∧ W' = W := by
  refine ACalls.of hP Tryz.func87 ok_sortede (by simp) fun _ hok => ?_
  simp only [c_sorted, BS, BC, e_seq, cond_if, ↓reduceIte, reduceCtorEq, BM, BD, hG.hg]
  refine (keys35_c hP _ m).mono ?_
  rintro _ W1 ⟨rfl, rfl⟩
  simp only [BS, BC, ↓reduceIte]
  have hf := g_fresh (tally P) 0
  have hlm := hG.lm
  have hE : Ex W (W.alloc (.row [.map m])) := ⟨fun x hx => by rw [alloc_nx] at hx; rw [al_gets, if_neg (by omega)]; exact ok_Cl hok x (by omega), by rw [alloc_nx]; omega, fun x hx => alloc_lt hx⟩
  refine pc (sortedE_c hP (pb := W.nx) (m := m) alloc_at (by rw [alloc_lt hlm]; exact hG.hm) ⟨hf.2, fun e he => by have := (hf.1 e he).2; omega⟩ (by rw [alloc_nx]; omega) (by rw [alloc_nx]; omega) (g_key _ 0) (by rw [g_len]; have := tally_len P; have := hG.pl; omega)) ?_
  rw [sorted_eq]
  have hs := edsV_S (edL P)
  simp only [BS, BC, ↓reduceIte, hs.frz]
  exact ⟨_, rfl, _, W, hE.back hok (bel_eds _ _), Nat.le_refl _, rfl, rfl⟩
theorem edges_c (hP : E.P = Tryz.prog) (W : AW) (g : Nat) : ACalls E 43 [.ptr g 0] W fun Y W' => ∃ q, Y = .fn (.func 86) [] [.ptr q 0] ∧ W'.get q = some (.row [.ptr g 0]) ∧ q < W'.nx ∧ Ex W W' := by
  refine ACalls.of hP Tryz.func43 ok_edgese (by simp) fun _ hok => ?_
  refine awp_start hok ?_
  simp only [c_edges, BS, BC, e_seq, ↓reduceIte, Nat.reduceEqDiff, BM, BD]
  exact ⟨_, rfl, _, _, .weak weak_id, by simp [X], rf W.nx 0, rfl, by rw [X_get]; rfl, by simp [X, rf], .x0⟩
theorem ed_at {l : List Ed} {k : Nat} (h : k < l.length) : (l.map Ed.V)[k]? = some (l[k]).V := by simp [h]
theorem ed_cells (e : Ed) : e.V.cells = [.int .u16 e.fr, .int .u16 e.to, .int .u8 e.kd] := rfl
theorem edL_lt {W : AW} {g m lo : Nat} {h : V} {P : List Ek} {N : List Int} (hG : Gr W g m h P N lo) : (edL P).length < 2 ^ 32 := by
  have := edL_le P; have := hG.pl; omega
/-- Edges' function: it hands out each edge, in order. -/
theorem edges_iter (hP : E.P = Tryz.prog) {W : AW} {y q g m lo : Nat} {h : V} {P : List Ek} {N : List Int} (hq : W.get q = some (.row [.ptr g 0])) (hG : Gr W g m h P N lo) (J : Nat → AW → Prop)
    (h0 : J 0 W) (hJ : ∀ i W1, J i W1 → Cl W1 ∧ W.nx ≤ W1.nx) (hmono : ∀ (vs : List V) (W1 : AW) (K K' : V → AW → Prop), (∀ v W', K v W' → K' v W') → E.yield y vs W1 K → E.yield y vs W1 K')
    (hy : ∀ i (hi : i < (edL P).length) W1 l, J i W1 → E.yield y [(edL P)[i].V] (X W1 W1.nx l) (fun Y W2 => Y = .bool true ∧ J (i + 1) W2)) :
    ACalls E 86 [.yld y, .ptr q 0] W fun Y W' => Y = .tuple [] ∧ J (edL P).length W' := by
  refine ACalls.of hP Tryz.func86 ok_edges1e (by simp) fun _ hok => ?_
  have hs := edsV_S (edL P)
  have hl := edL_lt hG
  simp (config := { maxSteps := 2000000 }) (disch := omega) only [c_edges1, BS, BC, e_seq, ↓reduceIte, BM, hq]
  refine pc (sorted27_c hP _ hG) ?_
  simp (config := { maxSteps := 2000000 }) (disch := omega) only [BS, ↓reduceIte, hs.len, List.length_map]
  rw [e_loop]
  refine ALoop.go (B := awp E _) (fun h => awp_mono _ h) (fun (i : Nat) A1 W1 => A1 0 = some (.yld y) ∧ A1 6 = some (edsV (edL P)) ∧ A1 7 = some (.int .i64 (edL P).length) ∧ A1 8 = some (.int .i64 i) ∧ i ≤ (edL P).length ∧ J i W1) (fun i => (edL P).length - i) 0
    ⟨rfl, rfl, rfl, rfl, Nat.zero_le _, h0⟩ ?_
  rintro i A1 W1 ⟨g0, g6, g7, g8, gi, gJ⟩ hn
  by_cases hi : i < (edL P).length
  · have hat := ed_at hi
    have hyi := fun l => hy i hi W1 l gJ
    generalize (edL P)[i] = e at hat hyi
    refine awp_startC (hJ _ _ gJ).1 ?_
    simp (config := { maxSteps := 2000000 }) (disch := omega) only [c_edges1_0, BS, BC, e_seq, cond_if, ↓reduceIte, Nat.reduceEqDiff, reduceCtorEq, BM, BD, Nat.reduceAdd, Nat.reduceLeDiff, Nat.reduceLT, g0, g6, g7, g8, clt, hi, decide_true, hs.idx hat, ed_cells, sem_yield]
    refine hmono _ _ _ _ ?_ (hyi _)
    rintro Y W2 ⟨rfl, g⟩
    simp (config := { maxSteps := 2000000 }) (disch := omega) only [BS, BC, cond_if, ↓reduceIte, Nat.reduceEqDiff, reduceCtorEq, BD, g0, g6, g7, g8, wadd1]
    exact ⟨i + 1, ⟨(by first | trivial | rfl | omega), (by first | trivial | rfl | omega), (by first | trivial | rfl | omega), (by first | trivial | rfl | omega), by omega, g⟩, by omega, (hJ _ _ g).2⟩
  · obtain rfl : i = (edL P).length := by omega
    simp (config := { maxSteps := 2000000 }) (disch := omega) only [c_edges1_0, BS, BC, e_seq, cond_if, ↓reduceIte, g7, g8, clt, hi, decide_false]
    exact ⟨_, rfl, _, _, .weak weak_id, (hJ _ _ gJ).2, rfl, gJ⟩
theorem Gr.ex {W W1 : AW} {g m lo : Nat} {h : V} {P : List Ek} {N : List Int} (hG : Gr W g m h P N lo) (hE : Ex W W1) : Gr W1 g m h P N lo := by
  have := hG.lg
  have := hG.lm
  have := hE.nx
  exact ⟨(hE.get _ hG.lg).trans hG.hg, (hE.get _ hG.lm).trans hG.hm, hG.now.to hE.nx fun r _ hr _ => hE.get r hr, by omega, by omega, hG.gg, hG.gm, hG.pk, hG.pl, hG.nl⟩
/-- A round over a graph's edges. -/
theorem range_edges (hP : E.P = Tryz.prog) {W0 : AW} {A : AFr} {q pv g m lo : Nat} {h : V} {P : List Ek} {N : List Int} {gx : AX} {asg body : AC} {Q : Exit → AFr → AW → Prop} (hg : gx.ev E A = some (.fn (.func 86) [] [.ptr q 0])) (hq : W0.get q = some (.row [.ptr g 0])) (hqn : q < W0.nx) (hC : Cl W0) (hG : Gr W0 g m h P N lo)
    (J : Nat → AW → Prop) (h0 : ∀ W1, Ex W0 W1 → W0.nx < W1.nx → J 0 W1) (hJ : ∀ i W1, J i W1 → Cl W1 ∧ W0.nx < W1.nx)
    (hb : ∀ i (hi : i < (edL P).length) W1 W1', J i W1 → Ex W1 W1' → W1'.get W0.nx = some (.loop .ready none) →
      awp E asg (thenQ (fun A1 W2 => W2.get W0.nx = some (.loop .ready none) ∧ awp E body (fun e _ W3 => e = .normal ∧ W3.get W0.nx = some (.loop .busy none) ∧ J (i + 1) (W3.put W0.nx (.loop .ready none))) A1 (W2.put W0.nx (.loop .busy none))) (fun _ _ _ => False)) (A.put pv (edL P)[i].V) W1')
    (hQ : ∀ W1, J (edL P).length W1 → W1.get W0.nx = some (.loop .ready none) → Q .normal A (W1.put W0.nx (.loop .exhausted none))) : awp E (.rangef gx [pv] asg body) Q A W0 := by
  rw [awp_rangef', hg]
  intro E' eP eG ey _
  have hP' : E'.P = Tryz.prog := eP.trans hP
  have hE : Ex W0 (W0.alloc (.loop .ready none)) := ⟨fun r hr => by rw [alloc_nx] at hr; rw [al_gets, if_neg (by omega)]; exact hC r (by omega), by rw [alloc_nx]; omega, fun x hx => alloc_lt hx⟩
  simp only [List.map_cons, List.map_nil, frz_ptr]
  refine (edges_iter (E := E') hP' (y := W0.nx) (q := q) (by rw [alloc_lt hqn]; exact hq) (hG.ex hE) (fun k W1 => J k W1 ∧ W1.get W0.nx = some (.loop .ready none)) ⟨h0 _ hE (by rw [alloc_nx]; omega), alloc_at⟩ (fun i W1 g => ⟨(hJ _ _ g.1).1, by rw [alloc_nx]; exact (hJ _ _ g.1).2⟩) (fun vs W1 K K' hk hy => E'.yieldMono _ _ _ _ _ hk hy) ?_).mono ?_
  · rintro i hi W1 l ⟨g1, g2⟩
    have hlt := (hJ _ _ g1).2
    refine ey _ _ _ ⟨by rw [X_old hlt]; exact g2, rfl, ?_⟩
    refine awp_mono _ ?_ (hb i hi W1 _ g1 ((Ex.refl (hJ _ _ g1).1).X (l := l)) (by rw [X_old hlt]; exact g2))
    intro e A1 W2 hh
    cases e with
    | normal =>
      refine ⟨hh.1, awp_mono _ ?_ hh.2⟩
      rintro e A3 W3 ⟨rfl, h2, h3⟩
      exact ⟨h2, rfl, h3, put_at⟩
    | _ => exact hh
  · rintro Y W1 ⟨_, g1, g2⟩
    simp only [doneQ, g2]
    exact hQ _ g1 g2
def inP (P : List Ek) (e : Ed) : Bool := decide (ofEd e ∈ P)
theorem hasG_c (hP : E.P = Tryz.prog) (W : AW) {g m lo : Nat} {h : V} {P : List Ek} {N : List Int} (hG : Gr W g m h P N lo) (e : Ed) (he : ekOk (ofEd e)) : ACalls E 16 [.ptr g 0, e.V] W fun Y W' => Y = .bool (inP P e) ∧ W' = W := by
  refine ACalls.of hP Tryz.func16 ok_hasGe (by simp) fun _ hok => ?_
  refine awp_start hok ?_
  have hlm := hG.lm
  have hlg := hG.lg
  have hks := g_keys (tally_ok hG.pk) he 0
  have hlk : ∀ l K, sem E (.lookup shE (.int .i64 0) false) [.map m, .agg [.int .u16 e.fr, .int .u16 e.to, .int .u8 e.kd]] (X W W.nx l) K = K (.int .i64 ((getE (tally P) (ofEd e)).getD 0)) (X W W.nx l) := fun l K => by
    rw [show V.agg [.int .u16 e.fr, .int .u16 e.to, .int .u8 e.kd] = ekV (ofEd e) from rfl, m_lookup (by rw [X_old hlm]; exact hG.hm) hks, lookK_g]
  have hd : decide ((getE (tally P) (ofEd e)).getD 0 > 0) = inP P e := by
    rw [tally_get, inP]
    by_cases hm : ofEd e ∈ P
    · have := List.count_pos_iff.2 hm
      simp [hm]
    · simp [hm]
  simp (config := { maxSteps := 2000000 }) (disch := omega) only [c_hasG, BS, BC, e_seq, guard_if, ↓reduceIte, Nat.reduceEqDiff, reduceCtorEq, BM, BD, Nat.reduceAdd, Nat.reduceLeDiff, Ed.V, hG.hg, hlk, hd]
  exact ⟨_, rfl, _, W, backX hok rfl, Nat.le_refl _, rfl, rfl⟩
end Go.AL.S
set_option maxRecDepth 100000
set_option maxHeartbeats 2000000
namespace Go.AL.S
open Go Go.AL Go.Proofs
def c_few_1 : AC := (AC.seq (AC.seq (AC.reg [
       ⟨(some 31), .mov, [.t 4], none⟩,
       ⟨(some 32), .mov, [.t 0], none⟩,
       ⟨(some 33), .mov, [.t 3], none⟩,
       ⟨(some 34), .idxp 5, [.t 32, .t 33], none⟩,
       ⟨(some 35), .fld 4, [.t 34], none⟩,
       ⟨(some 36), .load false 1, [.t 35], none⟩,
       ⟨(some 37), .len 1 0, [.t 36], none⟩,
       ⟨(some 38), .bin .lss, [.t 31, .t 37], none⟩])
      (AC.cond (.t 38)
       AC.skip
       (AC.exit 2)))
      (AC.seq (AC.block 3
       (AC.seq (AC.reg [
        ⟨(some 41), .mov, [.t 0], none⟩,
        ⟨(some 42), .mov, [.t 3], none⟩,
        ⟨(some 43), .idxp 5, [.t 41, .t 42], none⟩,
        ⟨(some 44), .fld 4, [.t 43], none⟩,
        ⟨(some 45), .load false 1, [.t 44], none⟩,
        ⟨(some 46), .mov, [.t 4], none⟩,
        ⟨(some 47), .idxp 1, [.t 45, .t 46], none⟩,
        ⟨(some 48), .load false 1, [.t 47], none⟩,
        ⟨(some 49), .len 1 0, [.t 48], none⟩,
        ⟨(some 50), .bin .gtr, [.t 49, .c (.int .i64 40)], none⟩])
       (AC.cond (.t 50)
        (AC.seq (AC.reg [
         ⟨(some 2), .mov, [.c (.bool false)], none⟩])
        AC.ret)
        AC.skip)))
      (AC.reg [
       ⟨(some 39), .mov, [.t 4], none⟩,
       ⟨(some 40), .bin .add, [.t 39, .c (.int .i64 1)], none⟩,
       ⟨(some 4), .mov, [.t 40], none⟩])))
def c_few_0 : AC := (AC.seq (AC.seq (AC.reg [
    ⟨(some 5), .mov, [.t 3], none⟩,
    ⟨(some 6), .mov, [.t 0], none⟩,
    ⟨(some 7), .len 1 0, [.t 6], none⟩,
    ⟨(some 8), .bin .lss, [.t 5, .t 7], none⟩,
    ⟨(some 9), .mov, [.t 8], none⟩,
    ⟨(some 10), .mov, [.t 3], (some (9, true))⟩,
    ⟨(some 11), .bin .lss, [.t 10, .c (.int .i64 70)], (some (9, true))⟩,
    ⟨(some 12), .pick, [.t 9, .t 11, .c (.bool false)], none⟩])
   (AC.cond (.t 12)
    AC.skip
    (AC.exit 0)))
   (AC.seq (AC.block 1
    (AC.seq (AC.seq (AC.reg [
     ⟨(some 15), .mov, [.t 0], none⟩,
     ⟨(some 16), .mov, [.t 3], none⟩,
     ⟨(some 17), .idxp 5, [.t 15, .t 16], none⟩,
     ⟨(some 18), .fld 3, [.t 17], none⟩,
     ⟨(some 19), .load false 1, [.t 18], none⟩,
     ⟨(some 20), .len 1 0, [.t 19], none⟩,
     ⟨(some 21), .bin .gtr, [.t 20, .c (.int .i64 20)], none⟩,
     ⟨(some 22), .mov, [.t 21], none⟩,
     ⟨(some 23), .mov, [.t 0], (some (22, false))⟩,
     ⟨(some 24), .mov, [.t 3], (some (22, false))⟩,
     ⟨(some 25), .idxp 5, [.t 23, .t 24], (some (22, false))⟩,
     ⟨(some 26), .fld 4, [.t 25], (some (22, false))⟩,
     ⟨(some 27), .load false 1, [.t 26], (some (22, false))⟩,
     ⟨(some 28), .len 1 0, [.t 27], (some (22, false))⟩,
     ⟨(some 29), .bin .gtr, [.t 28, .c (.int .i64 20)], (some (22, false))⟩,
     ⟨(some 30), .pick, [.t 22, .c (.bool true), .t 29], none⟩])
    (AC.cond (.t 30)
     (AC.seq (AC.reg [
      ⟨(some 2), .mov, [.c (.bool false)], none⟩])
     AC.ret)
     AC.skip))
    (AC.seq (AC.reg [
     ⟨(some 4), .mov, [.c (.int .i64 0)], none⟩])
    (AC.block 2
     (AC.loop c_few_1)))))
   (AC.reg [
    ⟨(some 13), .mov, [.t 3], none⟩,
    ⟨(some 14), .bin .add, [.t 13, .c (.int .i64 1)], none⟩,
    ⟨(some 3), .mov, [.t 14], none⟩])))
/- umpire/umpirelaw27.few -/
def c_few : AC := (AC.seq (AC.reg [
  ⟨(some 2), .mov, [.c (.bool false)], none⟩])
 (AC.seq (AC.seq (AC.reg [
  ⟨(some 3), .mov, [.c (.int .i64 0)], none⟩])
 (AC.block 0
  (AC.loop c_few_0)))
 (AC.seq (AC.reg [
  ⟨(some 51), .mov, [.t 0], none⟩,
  ⟨(some 52), .len 1 0, [.t 51], none⟩,
  ⟨(some 53), .bin .leq, [.t 52, .c (.int .i64 60)], none⟩,
  ⟨(some 2), .mov, [.t 53], none⟩])
 AC.ret)))
def r_few : AC × List RT × Nat := (c_few, [.tmp 2], 54)
theorem ok_fewe : compF Tryz.prog Tryz.f9 ⟨false, false, []⟩ = some r_few := by kernel_rfl
/- umpire/umpirelaw27.fresh -/
def c_fresh : AC := (AC.seq (AC.reg [
  ⟨(some 0), .alloc [.nilptr, .nilptr], [], none⟩,
  ⟨(some 1), .mov, [.c (.bool false)], none⟩])
 (AC.seq (AC.reg [
  ⟨(some 3), .call 33, [], none⟩,
  ⟨(some 4), .call 34, [], none⟩,
  ⟨(some 5), .build [.nilptr, .nilptr] [(0, 1), (1, 1)], [.t 3, .t 4], none⟩,
  ⟨(some 2), .alloc [.nilptr, .nilptr], [], none⟩,
  ⟨none, .store 2, [.t 2, .t 5], none⟩])
 (AC.seq (AC.par
  (PT.step 1 ⟨(some 7), .fld 0, [.t 2], none⟩
  (PT.step 0 ⟨(some 6), .load true 2, [.t 2], none⟩
  (PT.step 2 ⟨(some 8), .load false 1, [.t 7], none⟩
  (PT.step 3 ⟨(some 9), .eqn true 0, [.t 8, .c (.nilptr)], none⟩
  (PT.step 4 ⟨(some 10), .mov, [.t 9], none⟩
  (PT.step 5 ⟨(some 11), .fld 1, [.t 2], (some (10, true))⟩
  (PT.alt
   (PT.step 6 ⟨(some 12), .load false 1, [.t 11], (some (10, true))⟩
   (PT.step 7 ⟨(some 13), .eqn true 0, [.t 12, .c (.nilptr)], (some (10, true))⟩
   (PT.step 8 ⟨(some 14), .pick, [.t 10, .t 13, .c (.bool false)], none⟩
   (PT.step 9 ⟨none, .store 2, [.t 0, .t 6], none⟩
   (PT.step 10 ⟨(some 1), .mov, [.t 14], none⟩
   PT.done)))))
   (PT.step 9 ⟨none, .store 2, [.t 0, .t 6], none⟩
   (PT.step 6 ⟨(some 12), .load false 1, [.t 11], (some (10, true))⟩
   (PT.step 7 ⟨(some 13), .eqn true 0, [.t 12, .c (.nilptr)], (some (10, true))⟩
   (PT.step 8 ⟨(some 14), .pick, [.t 10, .t 13, .c (.bool false)], none⟩
   (PT.step 10 ⟨(some 1), .mov, [.t 14], none⟩
   PT.done)))))))))))))
 AC.ret)))
def r_fresh : AC × List RT × Nat := (c_fresh, [.cell 0 true 2, .tmp 1], 15)
theorem ok_freshe : compF Tryz.prog Tryz.f8 ⟨false, false, []⟩ = some r_fresh := by kernel_rfl
variable {E : Env}
theorem few_in (W : AW) {v : V} {l : List Ac} (hv : isS 5 v (l.map Ac.V)) {i : Nat} (hi : i < l.length) (ha : l[i].ok) (h20 : l[i].rdl.length ≤ 20) {A : AFr} {Q : Exit → AFr → AW → Prop}
    (a0 : A 0 = some v) (a3 : A 3 = some (.int .i64 i)) (a4 : A 4 = some (.int .i64 0))
    (hret : ∀ A', A' 2 = some (.bool false) → Q .ret A' W)
    (hex : ∀ A', A' 0 = some v → A' 3 = some (.int .i64 i) → (∀ o ∈ l[i].rdl, (nums o).length ≤ 40) → Q (.exit 2) A' W) : ALoop (awp E c_few_1) Q A W := by
  obtain ⟨xs, i1, i2, i3⟩ := ha.rdS
  have hat : (l.map Ac.V)[i]? = some l[i].V := by simp [hi]
  refine ALoop.go (B := awp E _) (fun h => awp_mono _ h) (fun (k : Nat) A1 W1 => A1 0 = some v ∧ A1 3 = some (.int .i64 i) ∧ A1 4 = some (.int .i64 k) ∧ k ≤ xs.length ∧ W1 = W ∧ ∀ j (hj : j < l[i].rdl.length), j < k → (nums l[i].rdl[j]).length ≤ 40) (fun k => xs.length - k) 0
    ⟨a0, a3, a4, Nat.zero_le _, rfl, fun _ _ h => by omega⟩ ?_
  rintro k A1 W1 ⟨g0, g3, g4, gk, rfl, ge⟩ _
  by_cases hk1 : k < xs.length
  · have e1 : xs[k]? = some xs[k] := List.getElem?_eq_getElem _
    have t := i3 k hk1 (by omega)
    have h40 : decide (((nums l[i].rdl[k]).length : Int) > 40) = decide ((nums l[i].rdl[k]).length > 40) := by simp; omega
    by_cases hb : (nums l[i].rdl[k]).length > 40
    · simp (config := { maxSteps := 2000000 }) (disch := omega) only [c_few_1, BS, e_seq, cond_if, ↓reduceIte, Nat.reduceEqDiff, reduceCtorEq, BM, g0, g3, g4, hv.idx hat, ac_load2, i1.len, clt, hk1, decide_true, i1.idx e1, t.isS.loadf, t.isS.len, ints_len, h40, decide_eq_true hb]
      exact hret _ rfl
    · simp (config := { maxSteps := 2000000 }) (disch := omega) only [c_few_1, BS, BC, e_seq, cond_if, ↓reduceIte, Nat.reduceEqDiff, reduceCtorEq, BM, g0, g3, g4, hv.idx hat, ac_load2, i1.len, clt, hk1, decide_true, i1.idx e1, t.isS.loadf, t.isS.len, ints_len, h40, decide_eq_false hb, wadd1]
      refine ⟨k + 1, ⟨(by first | trivial | rfl | omega), (by first | trivial | rfl | omega), (by first | trivial | rfl | omega), (by first | trivial | rfl | omega), (by first | trivial | rfl | omega), fun j hj hjk => ?_⟩, by omega, Nat.le_refl _⟩
      by_cases e : j = k
      · subst e; omega
      · exact ge j hj (by omega)
  · simp (config := { maxSteps := 2000000 }) (disch := omega) only [c_few_1, BS, BC, e_seq, cond_if, ↓reduceIte, Nat.reduceEqDiff, reduceCtorEq, BM, g0, g3, g4, hv.idx hat, ac_load2, i1.len, clt, hk1, decide_false]
    refine hex _ g0 g3 fun o ho => ?_
    obtain ⟨j, hj, rfl⟩ := List.mem_iff_getElem.1 ho
    exact ge j hj (by omega)
theorem few_c (hP : E.P = Tryz.prog) (W : AW) {v : V} {l : List Ac} (hv : isS 5 v (l.map Ac.V)) (ha : ∀ a ∈ l, a.ok) (hl : l.length < 2 ^ 48) :
    ACalls E 9 [v] W fun Y W' => W' = W ∧ ∃ b, Y = .bool b ∧ (b = true → l.length ≤ 60 ∧ ∀ a ∈ l, a.small) := by
  refine ACalls.of hP Tryz.func9 ok_fewe (by simp) fun _ hok => ?_
  simp only [c_few, BS, e_seq]
  rw [e_loop]
  refine ALoop.go (B := awp E _) (fun h => awp_mono _ h) (fun (k : Nat) A1 W1 => A1 0 = some v ∧ A1 3 = some (.int .i64 k) ∧ k ≤ l.length ∧ k ≤ 70 ∧ W1 = W ∧ ∀ j (hj : j < l.length), j < k → l[j].small) (fun k => l.length - k) 0
    ⟨rfl, rfl, Nat.zero_le _, by omega, rfl, fun _ _ h => by omega⟩ ?_
  rintro k A1 W1 ⟨g0, g3, gk, gk9, rfl, ge⟩ _
  have h60 : decide ((l.length : Int) ≤ 60) = decide (l.length ≤ 60) := by simp; omega
  have h70 : decide ((k : Int) < 70) = decide (k < 70) := by simp; omega
  by_cases hk1 : k < l.length
  · by_cases hk2 : k < 70
    · have hat : (l.map Ac.V)[k]? = some l[k].V := by simp [hk1]
      have hak := ha l[k] (List.getElem_mem hk1)
      obtain ⟨xs, i1, i2, i3⟩ := hak.rdS
      have h20 : decide ((l[k].txl.length : Int) > 20) = decide (l[k].txl.length > 20) := by simp; omega
      have h20' : decide ((l[k].rdl.length : Int) > 20) = decide (l[k].rdl.length > 20) := by simp; omega
      by_cases hb : l[k].txl.length > 20
      · simp (config := { maxSteps := 2000000 }) (disch := omega) only [c_few_0, BS, BC, e_seq, cond_if, guard_if, ↓reduceIte, Nat.reduceEqDiff, reduceCtorEq, BM, g0, g3, hv.len, List.length_map, clt, hk1, h70, hk2, decide_true, hv.idx hat, ac_load1, hak.tx.len, h20, decide_eq_true hb]
        exact ⟨_, rfl, _, _, .weak weak_id, Nat.le_refl _, rfl, _, rfl, by simp⟩
      · by_cases hb' : l[k].rdl.length > 20
        · simp (config := { maxSteps := 2000000 }) (disch := omega) only [c_few_0, BS, BC, e_seq, cond_if, guard_if, ↓reduceIte, Nat.reduceEqDiff, reduceCtorEq, BM, g0, g3, hv.len, List.length_map, clt, hk1, h70, hk2, decide_true, hv.idx hat, ac_load1, ac_load2, hak.tx.len, h20, decide_eq_false hb, i1.len, i2, h20', decide_eq_true hb']
          exact ⟨_, rfl, _, _, .weak weak_id, Nat.le_refl _, rfl, _, rfl, by simp⟩
        · simp (config := { maxSteps := 2000000 }) (disch := omega) only [c_few_0, BS, BC, e_seq, cond_if, guard_if, ↓reduceIte, Nat.reduceEqDiff, reduceCtorEq, BM, g0, g3, hv.len, List.length_map, clt, hk1, h70, hk2, decide_true, hv.idx hat, ac_load1, ac_load2, hak.tx.len, h20, decide_eq_false hb, i1.len, i2, h20', decide_eq_false hb', e_loop]
          refine few_in W1 hv hk1 hak (by omega) g0 g3 rfl ?_ ?_
          · intro A' h2
            simp only [BS, BC, h2]
            exact ⟨_, rfl, _, _, .weak weak_id, Nat.le_refl _, rfl, _, rfl, by simp⟩
          · intro A' h0 h3 hall
            simp (config := { maxSteps := 2000000 }) (disch := omega) only [BS, ↓reduceIte, reduceCtorEq, h0, h3, wadd1]
            refine ⟨k + 1, ⟨(by first | trivial | rfl | omega), (by first | trivial | rfl | omega), (by first | trivial | rfl | omega), (by first | trivial | rfl | omega), (by first | trivial | rfl | omega), fun j hj hjk => ?_⟩, by omega, Nat.le_refl _⟩
            by_cases e : j = k
            · subst e; exact ⟨by omega, by omega, hall⟩
            · exact ge j hj (by omega)
    · simp (config := { maxSteps := 2000000 }) (disch := omega) only [c_few_0, BS, BC, e_seq, cond_if, guard_if, ↓reduceIte, Nat.reduceEqDiff, reduceCtorEq, g0, g3, hv.len, List.length_map, clt, hk1, h70, hk2, decide_true, decide_false, h60]
      exact ⟨_, rfl, _, _, .weak weak_id, Nat.le_refl _, rfl, _, rfl, fun h => by simp at h; omega⟩
  · simp (config := { maxSteps := 2000000 }) (disch := omega) only [c_few_0, BS, BC, e_seq, cond_if, guard_if, ↓reduceIte, Nat.reduceEqDiff, reduceCtorEq, BM, g0, g3, hv.len, List.length_map, clt, hk1, decide_false, h60]
    refine ⟨_, rfl, _, _, .weak weak_id, Nat.le_refl _, rfl, _, rfl, fun h => ⟨by simpa using h, fun a ha => ?_⟩⟩
    obtain ⟨j, hj, rfl⟩ := List.mem_iff_getElem.1 ha
    exact ge j hj (by omega)
theorem new_n (hP : E.P = Tryz.prog) (W : AW) : ACalls E 33 [] W fun Y W' => ∃ p ra rw, Y = .ptr p 0 ∧ Nw W W' p ra rw [] := by
  refine ACalls.of hP Tryz.func33 ok7e (by simp) fun _ hok => ?_
  refine awp_start hok ?_
  simp only [c7, BS, BC, e_seq, ↓reduceIte, Nat.reduceEqDiff, BM, BD, Nat.reduceAdd, Nat.reduceLeDiff]
  refine ⟨_, rfl, _, _, .weak weak_id, ?_, rf W.nx 2, rf W.nx 0, rf W.nx 1, rfl, ⟨?_, ?_, ⟨[], 0, ?_, ⟨(fun _ h => by cases h), fun _ _ => rfl⟩⟩, ?_, ?_, ?_, ?_, ⟨by simp, List.Pairwise.nil⟩⟩, Ex.x0, ?_, ?_, ?_⟩
  · simp [X_nx, rf]
  · simp only [BC, BM]; rfl
  · simp only [BC, BM, BD]; rfl
  · simp only [BC, BM]
  all_goals simp [rf, X_nx]
/-- A store and its orders, made since. -/
structure Sx (W W' : AW) (p ra rw q : Nat) (s : Str) (os : Ods) : Prop where
  nw : Nw W W' p ra rw s
  od : Od W' q os
  hq : W.nx ≤ q
  ne : q ≠ p ∧ q ≠ ra ∧ q ≠ rw
def os0 : Ods := [[], [], [], [], [], [], [], []]
theorem fresh_c (hP : E.P = Tryz.prog) (W : AW) : ACalls E 8 [] W fun Y W' => ∃ p ra rw q, Y = .tuple [.agg [.ptr p 0, .ptr q 0], .bool true] ∧ Sx W W' p ra rw q [] os0 := by
  refine ACalls.of hP Tryz.func8 ok_freshe (by simp) fun _ hok => ?_
  refine awp_start hok ?_
  simp only [c_fresh, BS, BC, e_seq, BM, BD]
  refine (new_n hP _).mono ?_
  rintro _ W1 ⟨p, ra, rw, rfl, h⟩
  simp only [BS, BC]
  refine (newO_c hP _).mono ?_
  rintro _ W2 ⟨q, rfl, hO, hE, hq⟩
  have hn0 : (X W W.nx [.row [.nilptr, .nilptr]]).nx = W.nx + 1 := rfl
  have h2 := h.exx hE
  have hlp := h.st.lp
  have hla := h.st.la
  have hlw := h.st.lw
  have r0 : rf W.nx 0 = W.nx := rfl
  have g0 : W2.get (rf W.nx 0) = some (.row [.nilptr, .nilptr]) := by rw [h2.ex.get _ (by rw [hn0]; omega), X_get]; rfl
  have hn2 := h2.ex.nx
  rw [hn0] at hn2
  have hp := h.hp
  have ha := h.ha
  have hw := h.hw
  rw [hn0] at hp ha hw
  have hE2 : Ex W W2 := Ex.x0.trans h2.ex
  rw [h2.ex.cl.start]
  have hlq := hO.lq
  have hS : ∀ o, Sx W (X (W2.put (rf W.nx 0) o) W2.nx [.row [.ptr p 0, .ptr q 0]]) p ra rw q [] os0 := fun o => by
    have hgg : ∀ x, x < W2.nx → x ≠ rf W.nx 0 → (X (W2.put (rf W.nx 0) o) W2.nx [.row [.ptr p 0, .ptr q 0]]).get x = W2.get x := fun x h1 h2 => by rw [X_old h1, put_ne h2]
    have hnx : W2.nx ≤ (X (W2.put (rf W.nx 0) o) W2.nx [.row [.ptr p 0, .ptr q 0]]).nx := by simp only [X_nx, rf]; omega
    have l1 := h2.st.lp
    have l2 := h2.st.la
    have l3 := h2.st.lw
    exact ⟨⟨h2.st.by hnx (hgg _ l1 (by omega)) (hgg _ l2 (by omega)) (hgg _ l3 (by omega)), ⟨Cl.X, by omega, fun x hx => by rw [hgg x (by omega) (by omega)]; exact hE2.get x hx⟩, by omega, by omega, by omega⟩, hO.by hnx (hgg _ hlq (by omega)), by omega, by omega, by omega, by omega⟩
  simp (config := { maxSteps := 200000 }) (disch := omega) only [BS, BC, e_seq, ↓reduceIte, Nat.reduceEqDiff, BM, BD, Nat.reduceAdd, Nat.reduceLeDiff, Nat.reduceLT]
  (rw [guard_if]; simp (config := { maxSteps := 200000 }) (disch := omega) only [BS, ↓reduceIte, Nat.reduceEqDiff, reduceCtorEq, BM, BD, Nat.reduceAdd, Nat.reduceLeDiff, g0])
  constructor
  · (rw [guard_if]; simp (config := { maxSteps := 200000 }) (disch := omega) only [BS, BC, ↓reduceIte, Nat.reduceEqDiff, BM])
    (rw [guard_if]; simp (config := { maxSteps := 200000 }) (disch := omega) only [BS, BC, ↓reduceIte, Nat.reduceEqDiff, reduceCtorEq, BM, BD, Nat.reduceAdd, Nat.reduceLeDiff, g0, put_at])
    exact ⟨_, rfl, _, _, .weak weak_id, by simp only [X_nx, rf]; omega, p, ra, rw, q, rfl, hS _⟩
  · (rw [guard_if]; simp (config := { maxSteps := 200000 }) (disch := omega) only [BS, BC, ↓reduceIte, Nat.reduceEqDiff, BM])
    (rw [guard_if]; simp (config := { maxSteps := 200000 }) (disch := omega) only [BS, BC, ↓reduceIte, Nat.reduceEqDiff, reduceCtorEq, BM, BD, Nat.reduceAdd, Nat.reduceLeDiff, put_at])
    exact ⟨_, rfl, _, _, .weak weak_id, by simp only [X_nx, rf]; omega, p, ra, rw, q, rfl, hS _⟩
end Go.AL.S
set_option maxRecDepth 100000
set_option maxHeartbeats 2000000
namespace Go.AL.S
open Go Go.AL Go.Proofs
def c_act_0 : AC := (AC.seq (AC.seq (AC.reg [
      ⟨(some 40), .mov, [.t 11], none⟩,
      ⟨(some 41), .mov, [.t 9], none⟩,
      ⟨(some 42), .len 1 0, [.t 41], none⟩,
      ⟨(some 43), .bin .lss, [.t 40, .t 42], none⟩])
     (AC.cond (.t 43)
      AC.skip
      (AC.exit 1)))
     (AC.seq (AC.block 2
      (AC.seq (AC.par
       (PT.step 0 ⟨(some 47), .fld 1, [.t 2], none⟩
       (PT.step 2 ⟨(some 49), .mov, [.t 9], none⟩
       (PT.step 3 ⟨(some 50), .mov, [.t 11], none⟩
       (PT.step 7 ⟨(some 54), .mov, [.t 9], none⟩
       (PT.step 8 ⟨(some 55), .mov, [.t 11], none⟩
       (PT.step 1 ⟨(some 48), .load false 1, [.t 47], none⟩
       (PT.step 4 ⟨(some 51), .idxp 2, [.t 49, .t 50], none⟩
       (PT.step 5 ⟨(some 52), .fld 0, [.t 51], none⟩
       (PT.step 6 ⟨(some 53), .load false 1, [.t 52], none⟩
       (PT.step 9 ⟨(some 56), .idxp 2, [.t 54, .t 55], none⟩
       (PT.step 10 ⟨(some 57), .fld 1, [.t 56], none⟩
       (PT.step 11 ⟨(some 58), .load false 1, [.t 57], none⟩
       (PT.step 12 ⟨(some 59), .call 37, [.t 48, .t 53, .t 58], none⟩
       (PT.step 13 ⟨(some 46), .mov, [.t 59], none⟩
       (PT.step 14 ⟨(some 60), .ext 0, [.t 46], none⟩
       (PT.step 15 ⟨(some 61), .ext 1, [.t 46], none⟩
       (PT.step 16 ⟨(some 12), .mov, [.t 60], none⟩
       (PT.step 17 ⟨(some 13), .mov, [.t 61], none⟩
       PT.done)))))))))))))))))))
      (AC.reg [
       ⟨(some 62), .mov, [.t 10], none⟩,
       ⟨(some 63), .mov, [.t 62], none⟩,
       ⟨(some 64), .mov, [.t 12], (some (63, true))⟩,
       ⟨(some 65), .pick, [.t 63, .t 64, .c (.bool false)], none⟩,
       ⟨(some 66), .mov, [.t 65], none⟩,
       ⟨(some 67), .mov, [.t 13], (some (66, true))⟩,
       ⟨(some 68), .bin .eql, [.t 67, .c (.int .i64 0)], (some (66, true))⟩,
       ⟨(some 69), .pick, [.t 66, .t 68, .c (.bool false)], none⟩,
       ⟨(some 10), .mov, [.t 69], none⟩])))
     (AC.reg [
      ⟨(some 44), .mov, [.t 11], none⟩,
      ⟨(some 45), .bin .add, [.t 44, .c (.int .i64 1)], none⟩,
      ⟨(some 11), .mov, [.t 45], none⟩])))
/- (umpire/umpirelaw27.state).act -/
def c_act : AC := (AC.seq (AC.reg [
  ⟨(some 2), .box, [.t 0], none⟩,
  ⟨(some 3), .box, [.t 1], none⟩,
  ⟨(some 4), .mov, [.c (.int .i64 0)], none⟩,
  ⟨(some 5), .mov, [.c (.bool false)], none⟩])
 (AC.seq (AC.seq (AC.reg [
  ⟨(some 14), .fld 0, [.t 3], none⟩,
  ⟨(some 15), .load false 1, [.t 14], none⟩,
  ⟨(some 16), .bin .rem, [.t 15, .c (.int .u8 6)], none⟩])
 (AC.block 0
  (AC.seq (AC.seq (AC.reg [
   ⟨(some 18), .bin .eql, [.t 16, .c (.int .u8 2)], none⟩,
   ⟨(some 17), .mov, [.t 18], none⟩])
  (AC.cond (.t 17)
   AC.skip
   (AC.reg [
    ⟨(some 19), .bin .eql, [.t 16, .c (.int .u8 3)], none⟩,
    ⟨(some 17), .mov, [.t 19], none⟩])))
  (AC.cond (.t 17)
   (AC.seq (AC.reg [
    ⟨(some 20), .fld 0, [.t 2], none⟩,
    ⟨(some 21), .load false 1, [.t 20], none⟩,
    ⟨(some 22), .fld 2, [.t 3], none⟩,
    ⟨(some 23), .load false 1, [.t 22], none⟩,
    ⟨(some 24), .fld 4, [.t 3], none⟩,
    ⟨(some 25), .load false 1, [.t 24], none⟩,
    ⟨(some 26), .call 35, [.t 21, .t 23, .t 25], none⟩,
    ⟨(some 6), .mov, [.t 26], none⟩])
   (AC.seq (AC.seq (AC.reg [
    ⟨(some 27), .mov, [.t 6], none⟩,
    ⟨(some 28), .bin .neq, [.t 27, .c (.int .i64 0)], none⟩])
   (AC.cond (.t 28)
    (AC.seq (AC.reg [
     ⟨(some 29), .mov, [.t 6], none⟩,
     ⟨(some 4), .mov, [.t 29], none⟩,
     ⟨(some 5), .mov, [.c (.bool true)], none⟩])
    AC.ret)
    AC.skip))
   (AC.seq (AC.reg [
    ⟨(some 31), .fld 0, [.t 2], none⟩,
    ⟨(some 32), .load false 1, [.t 31], none⟩,
    ⟨(some 33), .fld 2, [.t 3], none⟩,
    ⟨(some 34), .load false 1, [.t 33], none⟩,
    ⟨(some 35), .call 18, [.t 32, .t 34], none⟩,
    ⟨(some 30), .mov, [.t 35], none⟩,
    ⟨(some 36), .ext 0, [.t 30], none⟩,
    ⟨(some 37), .ext 1, [.t 30], none⟩,
    ⟨(some 7), .alloc [.int .u16 0, .int .u8 0, .nilsl, .nilsl, .int .u8 0], [], none⟩,
    ⟨none, .store 5, [.t 7, .t 36], none⟩,
    ⟨(some 8), .mov, [.t 37], none⟩])
   (AC.seq (AC.reg [
    ⟨(some 38), .load true 5, [.t 7], none⟩,
    ⟨(some 39), .call 36, [.t 38], none⟩,
    ⟨(some 9), .mov, [.t 39], none⟩])
   (AC.seq (AC.reg [
    ⟨(some 10), .mov, [.c (.bool true)], none⟩])
   (AC.seq (AC.seq (AC.reg [
    ⟨(some 11), .mov, [.c (.int .i64 0)], none⟩])
   (AC.block 1
    (AC.loop c_act_0)))
   (AC.seq (AC.reg [
    ⟨(some 70), .mov, [.t 10], none⟩,
    ⟨(some 4), .mov, [.c (.int .i64 0)], none⟩,
    ⟨(some 5), .mov, [.t 70], none⟩])
   AC.ret)))))))
   (AC.seq (AC.reg [
    ⟨(some 72), .bin .eql, [.t 16, .c (.int .u8 4)], none⟩,
    ⟨(some 71), .mov, [.t 72], none⟩])
   (AC.cond (.t 71)
    (AC.seq (AC.reg [
     ⟨(some 73), .fld 0, [.t 2], none⟩,
     ⟨(some 74), .load false 1, [.t 73], none⟩,
     ⟨(some 75), .fld 2, [.t 3], none⟩,
     ⟨(some 76), .load false 1, [.t 75], none⟩,
     ⟨(some 77), .call 32, [.t 74, .t 76], none⟩,
     ⟨(some 4), .mov, [.t 77], none⟩,
     ⟨(some 5), .mov, [.c (.bool true)], none⟩])
    AC.ret)
    (AC.seq (AC.reg [
     ⟨(some 79), .bin .eql, [.t 16, .c (.int .u8 5)], none⟩,
     ⟨(some 78), .mov, [.t 79], none⟩])
    (AC.cond (.t 78)
     (AC.seq (AC.reg [
      ⟨(some 80), .fld 0, [.t 2], none⟩,
      ⟨(some 81), .load false 1, [.t 80], none⟩,
      ⟨(some 82), .fld 2, [.t 3], none⟩,
      ⟨(some 83), .load false 1, [.t 82], none⟩,
      ⟨(some 84), .call 38, [.t 81, .t 83], none⟩,
      ⟨(some 4), .mov, [.t 84], none⟩,
      ⟨(some 5), .mov, [.c (.bool true)], none⟩])
     AC.ret)
     AC.skip))))))))
 (AC.seq (AC.reg [
  ⟨(some 85), .fld 0, [.t 2], none⟩,
  ⟨(some 86), .load false 1, [.t 85], none⟩,
  ⟨(some 87), .fld 1, [.t 3], none⟩,
  ⟨(some 88), .load false 1, [.t 87], none⟩,
  ⟨(some 89), .fld 2, [.t 3], none⟩,
  ⟨(some 90), .load false 1, [.t 89], none⟩,
  ⟨(some 91), .fld 3, [.t 3], none⟩,
  ⟨(some 92), .load false 1, [.t 91], none⟩,
  ⟨(some 93), .call 39, [.t 86, .t 88, .t 90, .t 92], none⟩,
  ⟨(some 4), .mov, [.t 93], none⟩,
  ⟨(some 5), .mov, [.c (.bool true)], none⟩])
 AC.ret)))
def r_act : AC × List RT × Nat := (c_act, [.tmp 4, .tmp 5], 94)
theorem ok_acte : compF Tryz.prog Tryz.f11 ⟨false, false, []⟩ = some r_act := by kernel_rfl
variable {E : Env}
theorem m_rem6 {W : AW} {K : V → AW → Prop} {k : IntKind} {a : Int} : sem E (.bin .rem) [.int k a, .int k 6] W K = K (.int k (a.tmod 6)) W := by
  simp [sem, rsem, tsem, binI]
/-- How an act may change a world. -/
structure Fa (W W' : AW) (p ra rw q : Nat) : Prop where
  cl : Cl W'
  nx : W.nx ≤ W'.nx
  get : ∀ x, x < W.nx → x ≠ p → x ≠ ra → x ≠ rw → x ≠ q → W'.get x = W.get x
theorem Fa.of {W W1 W2 : AW} {p ra rw q : Nat} (h : Fr W1 W2 p ra rw) (hE : Ex W W1) (hp : p < W1.nx) (ha : ra < W1.nx) (hw : rw < W1.nx) : Fa W W2 p ra rw q :=
  ⟨h.cl hE.cl hp ha hw, by rw [h.nx]; exact hE.nx, fun x hx a b c _ => by rw [h.get x a b c]; exact hE.get x hx⟩
theorem takes_snoc (o : Ods) {l : List Rd} {k : Nat} (hk : k < l.length) : takesR o (l.take (k + 1)) = ((takeR (takesR o (l.take k)).1 (l[k]).1 (nums (l[k]).2)).1, (takesR o (l.take k)).2 && ((takeR (takesR o (l.take k)).1 (l[k]).1 (nums (l[k]).2)).2.1 && decide ((takeR (takesR o (l.take k)).1 (l[k]).1 (nums (l[k]).2)).2.2 = 0))) := by
  rw [List.take_add_one, List.getElem?_eq_getElem hk, Option.toList_some, takesR_app]
  simp only [takesR, Bool.and_true]
/-- A commit's reads are told to the orders. -/
theorem takes_go (hP : E.P = Tryz.prog) {W : AW} (_ : Cl W) {q b2 : Nat} {os : Ods} (hO : Od W q os) {c2 : V} {l : List Rd} (hl : l.length ≤ 8) (hk : ∀ r ∈ l, 0 ≤ r.1 ∧ r.1 < 256) (hn : ∀ r ∈ l, (nums r.2).length ≤ 32 ∧ ∀ n ∈ nums r.2, 0 ≤ n ∧ n < 65536) {A : AFr} {Q : Exit → AFr → AW → Prop}
    (a2 : A 2 = some (.ptr b2 0)) (a9 : A 9 = some (nowGS 2 (l.map rdV))) (a10 : A 10 = some (.bool true)) (a11 : A 11 = some (.int .i64 0)) (g2 : W.get b2 = some (.row [c2, .ptr q 0])) (n2 : b2 ≠ q)
    (hQ : ∀ A' W', A' 10 = some (.bool (takesR os l).2) → Od W' q (takesR os l).1 → W'.nx = W.nx → (∀ x, x ≠ q → W'.get x = W.get x) → Q (.exit 1) A' W') : ALoop (awp E c_act_0) Q A W := by
  have hs := nowGS_S 2 (l.map rdV)
  refine ALoop.go (B := awp E _) (fun h => awp_mono _ h) (fun (k : Nat) A1 W1 => A1 2 = some (.ptr b2 0) ∧ A1 9 = some (nowGS 2 (l.map rdV)) ∧ A1 10 = some (.bool (takesR os (l.take k)).2) ∧ A1 11 = some (.int .i64 k) ∧ k ≤ l.length ∧ Od W1 q (takesR os (l.take k)).1 ∧ W1.nx = W.nx ∧ ∀ x, x ≠ q → W1.get x = W.get x) (fun k => l.length - k) 0
    ⟨a2, a9, a10, a11, Nat.zero_le _, hO, rfl, fun _ _ => rfl⟩ ?_
  rintro k A1 W1 ⟨q2, q9, q10, q11, qk, jO, jn, jg⟩ _
  by_cases hk1 : k < l.length
  · have hkr := hk _ (List.getElem_mem hk1)
    have hnr := hn _ (List.getElem_mem hk1)
    have hst := takes_snoc os hk1
    have hat := rdV_at hk1
    generalize l[k] = r at hkr hnr hst hat
    have k2 := (jg _ n2).trans g2
    have hre := (elV_isEl r.2).isS
    obtain ⟨b, hb⟩ : ∃ b, b = (takesR os (l.take k)).2 := ⟨_, rfl⟩
    rw [← hb] at q10 hst
    simp (config := { maxSteps := 200000 }) (disch := omega) only [BS, BC, e_seq, cond_if, ↓reduceIte, Nat.reduceEqDiff, BM, BD, Nat.reduceAdd, Nat.reduceLeDiff, c_act_0, q2, q9, q11, hs.len, List.length_map, clt, hk1, decide_true, hs.idx hat, rdV_cells, k2, hre.frz]
    refine (take_c hP _ jO r.1 hkr.1 hkr.2 hre (by have := hnr.1; omega) hnr.2).mono ?_
    rintro _ W3 ⟨rfl, hO3, hn3, hg3⟩
    obtain ⟨T, hT⟩ : ∃ T, T = takeR (takesR os (l.take k)).1 r.1 (nums r.2) := ⟨_, rfl⟩
    rw [← hT] at hO3 hst ⊢
    have fin : ∀ (b' : Bool), b' = (b && (T.2.1 && decide (T.2.2 = 0))) → ∃ s', (True ∧ True ∧ some (V.bool b') = some (.bool (takesR os (l.take s')).2) ∧ some (V.int .i64 (k + 1 : Nat)) = some (.int .i64 s') ∧ s' ≤ l.length ∧ Od W3 q (takesR os (l.take s')).1 ∧ W3.nx = W.nx ∧ ∀ x, x ≠ q → W3.get x = W.get x) ∧ l.length - s' < l.length - k ∧ W.nx ≤ W3.nx := by
      intro b' e
      exact ⟨k + 1, ⟨trivial, trivial, by rw [hst, e], rfl, by omega, by rw [hst]; exact hO3, hn3.trans jn, fun x hx => (hg3 x hx).trans (jg x hx)⟩, by omega, by omega⟩
    clear hT
    obtain ⟨To, Tb, Te⟩ := T
    simp only at fin ⊢
    by_cases he : Te = 0
    · have he' : (Te == 0) = true := by simp [he]
      rw [decide_eq_true he] at fin
      cases b <;> cases Tb <;> (simp (config := { maxSteps := 200000 }) (disch := omega) only [BS, ↓reduceIte, Nat.reduceEqDiff, q10]; (rw [guard_if]; simp (config := { maxSteps := 200000 }) (disch := omega) only [BS, BC, ↓reduceIte, Nat.reduceEqDiff, BM]); (rw [guard_if]; simp (config := { maxSteps := 200000 }) (disch := omega) only [BS, BC, ↓reduceIte, Nat.reduceEqDiff, BM]); (rw [guard_if]; simp (config := { maxSteps := 200000 }) (disch := omega) only [BS, BC, ↓reduceIte, Nat.reduceEqDiff, BM, q2, q9, q11, he', wadd1]); exact fin _ rfl)
    · have he' : (Te == 0) = false := by simp [he]
      rw [decide_eq_false he] at fin
      cases b <;> cases Tb <;> (simp (config := { maxSteps := 200000 }) (disch := omega) only [BS, ↓reduceIte, Nat.reduceEqDiff, q10]; (rw [guard_if]; simp (config := { maxSteps := 200000 }) (disch := omega) only [BS, BC, ↓reduceIte, Nat.reduceEqDiff, BM]); (rw [guard_if]; simp (config := { maxSteps := 200000 }) (disch := omega) only [BS, BC, ↓reduceIte, Nat.reduceEqDiff, BM]); (rw [guard_if]; simp (config := { maxSteps := 200000 }) (disch := omega) only [BS, BC, ↓reduceIte, Nat.reduceEqDiff, BM, q2, q9, q11, he', wadd1]); exact fin _ rfl)
  · obtain rfl : k = l.length := by omega
    rw [List.take_length] at q10 jO
    simp (config := { maxSteps := 2000000 }) (disch := omega) only [c_act_0, BS, BC, e_seq, cond_if, ↓reduceIte, Nat.reduceEqDiff, q9, q11, hs.len, List.length_map, clt, hk1, decide_false]
    exact hQ _ _ q10 jO jn jg
theorem Fa.x {W W1 W2 : AW} {p ra rw q : Nat} (h : Fa W W1 p ra rw q) (h2 : Ex W1 W2) : Fa W W2 p ra rw q :=
  ⟨h2.cl, Nat.le_trans h.nx h2.nx, fun x hx a b c d => by rw [h2.get x (by have := h.nx; omega)]; exact h.get x hx a b c d⟩
theorem act_c (hP : E.P = Tryz.prog) (W : AW) {p ra rw q : Nat} {s : Str} {os : Ods} (hS : St W p ra rw s) (hO : Od W q os) (ne : q ≠ p ∧ q ≠ ra ∧ q ≠ rw) {a : Ac} (ha : a.ok) (hsm : a.small) :
    ACalls E 11 [.agg [.ptr p 0, .ptr q 0], a.V] W fun Y W' => Y = .tuple [.int .i64 (actG s os a).2.2.1, .bool (actG s os a).2.2.2] ∧ St W' p ra rw (actG s os a).1 ∧ Od W' q (actG s os a).2.1 ∧ Fa W W' p ra rw q := by
  refine ACalls.of hP Tryz.func11 ok_acte (by simp [Ac.V]) fun _ hok => ?_
  refine awp_start hok ?_
  obtain ⟨xs, i1, i2, i3⟩ := ha.rdS
  obtain ⟨z1, z2, z3⟩ := hsm
  have hlp := hS.lp
  have hla := hS.la
  have hlw := hS.lw
  have hlq := hO.lq
  obtain ⟨Wb, hWb⟩ : ∃ Wb, Wb = X W W.nx [.row [.ptr p 0, .ptr q 0], .row [.int .u8 a.what, .int .u8 a.client, .int .u16 a.id, a.tx, a.rd]] := ⟨_, rfl⟩
  have hEb : Ex W Wb := by rw [hWb]; exact .x0
  have gb2 : Wb.get (rf W.nx 0) = some (.row [.ptr p 0, .ptr q 0]) := by rw [hWb, X_get]; rfl
  have gb3 : Wb.get (rf W.nx 1) = some (.row [.int .u8 a.what, .int .u8 a.client, .int .u16 a.id, a.tx, a.rd]) := by rw [hWb, X_get]; rfl
  have hnb : Wb.nx = W.nx + 2 := by rw [hWb]; rfl
  have r0 : rf W.nx 0 = W.nx := rfl
  have hSb := hS.ex hEb
  have hOb := hO.ex hEb
  simp (config := { maxSteps := 200000 }) (disch := omega) only [BS, BC, e_seq, cond_if, ↓reduceIte, Nat.reduceEqDiff, BM, BD, c_act, Ac.V, m_rem6]
  rw [← hWb]
  clear hWb
  have hfr : ∀ {s' : Str} {W1 : AW}, St W1 p ra rw s' → Fr Wb W1 p ra rw → Od W1 q os ∧ Fa W W1 p ra rw q := fun hS1 hf => by
    have a1 := hSb.lp
    have a2 := hSb.la
    have a3 := hSb.lw
    exact ⟨hOb.by (by rw [hf.nx]; exact Nat.le_refl _) (hf.get q ne.1 ne.2.1 ne.2.2), Fa.of hf hEb a1 a2 a3⟩
  by_cases h23 : w6 a = 2 ∨ w6 a = 3
  · have e : actG s os a = (if (commitR s a.id a.rdl).2 = 0 then ((commitR s a.id a.rdl).1, (takesR os (readsR ((find (commitR s a.id a.rdl).1 a.id).getD Tx.zero))).1, 0, (takesR os (readsR ((find (commitR s a.id a.rdl).1 a.id).getD Tx.zero))).2) else ((commitR s a.id a.rdl).1, os, (commitR s a.id a.rdl).2, true)) := by
      simp only [actG, if_pos h23]
    rw [e]
    have hcc := commit_c hP _ hSb a.id ha.id.1 ha.id.2 ha.rd ha.bel (by omega) fun o ho => ⟨by have := z3 o ho; omega, ha.ns o ho⟩
    rcases h23 with h2 | h3
    · have b2 : (a.what.tmod 6 == 2) = true := by simp [w6] at h2; simp [h2]
      simp (config := { maxSteps := 2000000 }) (disch := omega) only [↓reduceIte, b2, i1.frz]
      refine hcc.mono ?_
      rintro _ W1 ⟨rfl, g1, g2⟩
      obtain ⟨f1, f2⟩ := hfr g1 g2
      by_cases hc : (commitR s a.id a.rdl).2 = 0
      · rw [if_pos hc, hc]
        obtain ⟨t, c1, c2, c3, c4⟩ := commitR_ok.1 hc
        obtain ⟨t', ht'⟩ : ∃ t', find (commitR s a.id a.rdl).1 a.id = some t' := by
          rw [commitR_map hS.ok.lt, find_mapId (comT_id _), c1]; exact ⟨_, rfl⟩
        have hto := (find_ok g1.ok ht').2.2
        simp (config := { maxSteps := 2000000 }) (disch := omega) only [BS, BC, e_seq, cond_if, ↓reduceIte, Nat.reduceEqDiff, BM, BD, show ((0 : Int) != 0) = false by decide]
        have k2 : W1.get (rf W.nx 0) = some (.row [.ptr p 0, .ptr q 0]) := by rw [g2.get _ (by omega) (by omega) (by omega)]; exact gb2
        have k3 : W1.get (rf W.nx 1) = some (.row [.int .u8 a.what, .int .u8 a.client, .int .u16 a.id, a.tx, a.rd]) := by rw [g2.get _ (by simp only [rf]; omega) (by simp only [rf]; omega) (by simp only [rf]; omega)]; exact gb3
        have n1 : W1.nx = W.nx + 2 := by rw [g2.nx]; exact hnb
        simp (config := { maxSteps := 2000000 }) (disch := omega) only [BS, BC, BM, k2, k3]
        refine pc (find_c hP _ g1 a.id ha.id.1 ha.id.2) ?_
        rw [ht', Option.getD_some, f2.cl.start]
        simp (config := { maxSteps := 2000000 }) (disch := omega) only [BS, BC, e_seq, ↓reduceIte, Nat.reduceEqDiff, BM, BD, Nat.reduceAdd, Nat.reduceLeDiff, Nat.reduceLT, msV_one, lsV_one, Tx.V, Option.isSome_some]
        refine pc (reads_c hP _ hto) ?_
        simp (config := { maxSteps := 2000000 }) (disch := omega) only [BS, e_seq, ↓reduceIte]
        rw [e_loop]
        have r1 : rf W.nx 1 = W.nx + 1 := rfl
        refine takes_go hP (q := q) (b2 := rf W.nx 0) Cl.X (f1.ex .x0) (readsR_len hto) (readsR_key hto.ms) (readsR_nums hto) rfl rfl rfl rfl (by rw [X_old (by omega)]; exact k2) (by omega) ?_
        intro A' W2 e10 hO2 hn2 hg2
        simp (config := { maxSteps := 2000000 }) (disch := omega) only [BS, e_seq, ↓reduceIte, Nat.reduceEqDiff, e10]
        have hn3 : W1.nx + 1 = W2.nx := by rw [hn2]; rfl
        have l1 := g1.lp
        have l2 := g1.la
        have l3 := g1.lw
        have hgx : ∀ x, x < W1.nx → x ≠ q → W2.get x = W1.get x := fun x hx hq => by rw [hg2 x hq, X_old hx]
        refine ⟨_, rfl, _, _, .weak weak_id, by omega, rfl, g1.by (by omega) (hgx _ l1 ne.1.symm) (hgx _ l2 ne.2.1.symm) (hgx _ l3 ne.2.2.symm), hO2, ?_, by omega, fun x hx a b c d => by rw [hgx x (by omega) d]; exact f2.get x hx a b c d⟩
        intro x hx
        rw [hg2 x (by omega)]
        exact Cl.X x (by rw [← hn2]; exact hx)
      · rw [if_neg hc]
        simp (config := { maxSteps := 2000000 }) (disch := omega) only [BS, e_seq, cond_if, ↓reduceIte, Nat.reduceEqDiff, show ((commitR s a.id a.rdl).2 != 0) = true by simp [hc]]
        exact ⟨_, rfl, _, _, .weak weak_id, f2.nx, rfl, g1, f1, f2⟩
    · have b2 : (a.what.tmod 6 == 2) = false := by simp [w6] at h3; simp [h3]
      have b3 : (a.what.tmod 6 == 3) = true := by simp [w6] at h3; simp [h3]
      simp (config := { maxSteps := 2000000 }) (disch := omega) only [BC, ↓reduceIte, b2, b3, i1.frz]
      refine hcc.mono ?_
      rintro _ W1 ⟨rfl, g1, g2⟩
      obtain ⟨f1, f2⟩ := hfr g1 g2
      by_cases hc : (commitR s a.id a.rdl).2 = 0
      · rw [if_pos hc, hc]
        obtain ⟨t, c1, c2, c3, c4⟩ := commitR_ok.1 hc
        obtain ⟨t', ht'⟩ : ∃ t', find (commitR s a.id a.rdl).1 a.id = some t' := by
          rw [commitR_map hS.ok.lt, find_mapId (comT_id _), c1]; exact ⟨_, rfl⟩
        have hto := (find_ok g1.ok ht').2.2
        simp (config := { maxSteps := 2000000 }) (disch := omega) only [BS, BC, e_seq, cond_if, ↓reduceIte, Nat.reduceEqDiff, BM, BD, show ((0 : Int) != 0) = false by decide]
        have k2 : W1.get (rf W.nx 0) = some (.row [.ptr p 0, .ptr q 0]) := by rw [g2.get _ (by omega) (by omega) (by omega)]; exact gb2
        have k3 : W1.get (rf W.nx 1) = some (.row [.int .u8 a.what, .int .u8 a.client, .int .u16 a.id, a.tx, a.rd]) := by rw [g2.get _ (by simp only [rf]; omega) (by simp only [rf]; omega) (by simp only [rf]; omega)]; exact gb3
        have n1 : W1.nx = W.nx + 2 := by rw [g2.nx]; exact hnb
        simp (config := { maxSteps := 2000000 }) (disch := omega) only [BS, BC, BM, k2, k3]
        refine pc (find_c hP _ g1 a.id ha.id.1 ha.id.2) ?_
        rw [ht', Option.getD_some, f2.cl.start]
        simp (config := { maxSteps := 2000000 }) (disch := omega) only [BS, BC, e_seq, ↓reduceIte, Nat.reduceEqDiff, BM, BD, Nat.reduceAdd, Nat.reduceLeDiff, Nat.reduceLT, msV_one, lsV_one, Tx.V, Option.isSome_some]
        refine pc (reads_c hP _ hto) ?_
        simp (config := { maxSteps := 2000000 }) (disch := omega) only [BS, e_seq, ↓reduceIte]
        rw [e_loop]
        have r1 : rf W.nx 1 = W.nx + 1 := rfl
        refine takes_go hP (q := q) (b2 := rf W.nx 0) Cl.X (f1.ex .x0) (readsR_len hto) (readsR_key hto.ms) (readsR_nums hto) rfl rfl rfl rfl (by rw [X_old (by omega)]; exact k2) (by omega) ?_
        intro A' W2 e10 hO2 hn2 hg2
        simp (config := { maxSteps := 2000000 }) (disch := omega) only [BS, e_seq, ↓reduceIte, Nat.reduceEqDiff, e10]
        have hn3 : W1.nx + 1 = W2.nx := by rw [hn2]; rfl
        have l1 := g1.lp
        have l2 := g1.la
        have l3 := g1.lw
        have hgx : ∀ x, x < W1.nx → x ≠ q → W2.get x = W1.get x := fun x hx hq => by rw [hg2 x hq, X_old hx]
        refine ⟨_, rfl, _, _, .weak weak_id, by omega, rfl, g1.by (by omega) (hgx _ l1 ne.1.symm) (hgx _ l2 ne.2.1.symm) (hgx _ l3 ne.2.2.symm), hO2, ?_, by omega, fun x hx a b c d => by rw [hgx x (by omega) d]; exact f2.get x hx a b c d⟩
        intro x hx
        rw [hg2 x (by omega)]
        exact Cl.X x (by rw [← hn2]; exact hx)
      · rw [if_neg hc]
        simp (config := { maxSteps := 2000000 }) (disch := omega) only [BS, e_seq, cond_if, ↓reduceIte, Nat.reduceEqDiff, show ((commitR s a.id a.rdl).2 != 0) = true by simp [hc]]
        exact ⟨_, rfl, _, _, .weak weak_id, f2.nx, rfl, g1, f1, f2⟩
  have e23 : ¬ w6 a = 2 ∧ ¬ w6 a = 3 := by omega
  have b2 : (a.what.tmod 6 == 2) = false := by simp [w6] at e23; simp [e23.1]
  have b3 : (a.what.tmod 6 == 3) = false := by simp [w6] at e23; simp [e23.2]
  by_cases h4 : w6 a = 4
  · have e : actG s os a = ((endR s a.id 2).1, os, (endR s a.id 2).2, true) := by simp only [actG, if_neg h23, if_pos h4]
    rw [e]
    have b4 : (a.what.tmod 6 == 4) = true := by simp [w6] at h4; simp [h4]
    simp (config := { maxSteps := 2000000 }) (disch := omega) only [BC, ↓reduceIte, b2, b3, b4]
    refine (abort_c hP _ hSb a.id ha.id.1 ha.id.2).mono ?_
    rintro _ W1 ⟨rfl, g1, g2⟩
    simp (config := { maxSteps := 2000000 }) (disch := omega) only [BS, ↓reduceIte, Nat.reduceEqDiff]
    obtain ⟨f1, f2⟩ := hfr g1 g2
    exact ⟨_, rfl, _, _, .weak weak_id, f2.nx, rfl, g1, f1, f2⟩
  have b4 : (a.what.tmod 6 == 4) = false := by simp [w6] at h4; simp [h4]
  by_cases h5 : w6 a = 5
  · have e : actG s os a = ((endR s a.id 3).1, os, (endR s a.id 3).2, true) := by simp only [actG, if_neg h23, if_neg h4, if_pos h5]
    rw [e]
    have b5 : (a.what.tmod 6 == 5) = true := by simp [w6] at h5; simp [h5]
    simp (config := { maxSteps := 2000000 }) (disch := omega) only [BC, ↓reduceIte, b2, b3, b4, b5]
    refine (info_c hP _ hSb a.id ha.id.1 ha.id.2).mono ?_
    rintro _ W1 ⟨rfl, g1, g2⟩
    simp (config := { maxSteps := 2000000 }) (disch := omega) only [BS, ↓reduceIte, Nat.reduceEqDiff]
    obtain ⟨f1, f2⟩ := hfr g1 g2
    exact ⟨_, rfl, _, _, .weak weak_id, f2.nx, rfl, g1, f1, f2⟩
  have b5 : (a.what.tmod 6 == 5) = false := by simp [w6] at h5; simp [h5]
  have e : actG s os a = ((beginR s a.client a.id a.txl).1, os, (beginR s a.client a.id a.txl).2, true) := by simp only [actG, if_neg h23, if_neg h4, if_neg h5]
  rw [e]
  simp (config := { maxSteps := 2000000 }) (disch := omega) only [BC, ↓reduceIte, b2, b3, b4, b5, ha.tx.frz]
  refine (begin_c hP _ hSb a.client a.id ha.id.1 ha.id.2 ha.cl.1 ha.cl.2 ha.tx ha.ms (by omega)).mono ?_
  rintro _ W1 ⟨rfl, g1, g2⟩
  simp (config := { maxSteps := 2000000 }) (disch := omega) only [BS, ↓reduceIte, Nat.reduceEqDiff]
  obtain ⟨f1, f2⟩ := hfr g1 g2
  exact ⟨_, rfl, _, _, .weak weak_id, f2.nx, rfl, g1, f1, f2⟩
end Go.AL.S
set_option maxRecDepth 100000
set_option maxHeartbeats 2000000
namespace Go.AL.S
open Go Go.AL Go.AL.SE Go.Proofs
/- umpire/umpirelaw27.listed -/
def c_listed : AC := (AC.seq (AC.reg [
  ⟨(some 2), .mov, [.c (.nilsl)], none⟩,
  ⟨(some 3), .mov, [.c (.bool false)], none⟩])
 (AC.seq (AC.reg [
  ⟨(some 7), .mov, [.t 0], none⟩,
  ⟨(some 8), .call 43, [.t 7], none⟩,
  ⟨(some 4), .mov, [.t 8], none⟩])
 (AC.seq (AC.seq (AC.reg [
  ⟨(some 9), .mov, [.t 4], none⟩,
  ⟨(some 10), .eqn false 3, [.t 9, .c (.nilfn)], none⟩])
 (AC.cond (.t 10)
  (AC.seq (AC.reg [
   ⟨(some 2), .mov, [.c (.nilsl)], none⟩,
   ⟨(some 3), .mov, [.c (.bool false)], none⟩])
  AC.ret)
  AC.skip))
 (AC.seq (AC.reg [
  ⟨(some 5), .alloc [.nilsl], [], none⟩])
 (AC.seq (AC.seq (AC.reg [
  ⟨(some 11), .mov, [.t 4], none⟩])
 (AC.block 0
  (AC.rangef (.t 11) [12]
   (AC.reg [
    ⟨(some 6), .alloc [.int .u16 0, .int .u16 0, .int .u8 0], [], none⟩,
    ⟨none, .store 3, [.t 6, .t 12], none⟩])
   (AC.block 1
    (AC.reg [
     ⟨(some 13), .load false 1, [.t 5], none⟩,
     ⟨(some 14), .load true 3, [.t 6], none⟩,
     ⟨(some 15), .bslice 3 1 (.agg [.int .u16 0, .int .u16 0, .int .u8 0]) [0], [.t 14], none⟩,
     ⟨(some 16), .append 3 6, [.t 13, .t 15], none⟩,
     ⟨none, .store 1, [.t 5, .t 16], none⟩])))))
 (AC.seq (AC.reg [
  ⟨(some 17), .load false 1, [.t 5], none⟩,
  ⟨(some 2), .mov, [.t 17], none⟩,
  ⟨(some 3), .mov, [.c (.bool true)], none⟩])
 AC.ret))))))
def r_listed : AC × List RT × Nat := (c_listed, [.tmp 2, .tmp 3], 18)
theorem ok_listede : compF Tryz.prog Tryz.f13 ⟨false, false, []⟩ = some r_listed := by kernel_rfl
def c_ledges_0 : AC := (AC.seq (AC.seq (AC.reg [
    ⟨(some 22), .mov, [.t 7], none⟩,
    ⟨(some 23), .mov, [.t 5], none⟩,
    ⟨(some 24), .len 1 0, [.t 23], none⟩,
    ⟨(some 25), .bin .lss, [.t 22, .t 24], none⟩])
   (AC.cond (.t 25)
    AC.skip
    (AC.exit 0)))
   (AC.seq (AC.block 1
    (AC.seq (AC.par
     (PT.step 0 ⟨(some 28), .mov, [.t 5], none⟩
     (PT.step 1 ⟨(some 29), .mov, [.t 7], none⟩
     (PT.step 4 ⟨(some 32), .mov, [.t 1], none⟩
     (PT.step 5 ⟨(some 33), .mov, [.t 7], none⟩
     (PT.step 2 ⟨(some 30), .idxp 3, [.t 28, .t 29], none⟩
     (PT.step 3 ⟨(some 31), .load true 3, [.t 30], none⟩
     (PT.step 6 ⟨(some 34), .idxp 3, [.t 32, .t 33], none⟩
     (PT.step 7 ⟨(some 35), .load true 3, [.t 34], none⟩
     (PT.step 8 ⟨(some 36), .eqv true (true, [.i .u16, .i .u16, .i .u8]), [.t 31, .t 35], none⟩
     PT.done))))))))))
    (AC.cond (.t 36)
     (AC.seq (AC.reg [
      ⟨(some 4), .mov, [.c (.bool false)], none⟩])
     AC.ret)
     AC.skip)))
   (AC.reg [
    ⟨(some 26), .mov, [.t 7], none⟩,
    ⟨(some 27), .bin .add, [.t 26, .c (.int .i64 1)], none⟩,
    ⟨(some 7), .mov, [.t 27], none⟩])))
/- umpire/umpirelaw27.edges -/
def c_ledges : AC := (AC.seq (AC.reg [
  ⟨(some 4), .mov, [.c (.bool false)], none⟩])
 (AC.seq (AC.reg [
  ⟨(some 9), .mov, [.t 0], none⟩,
  ⟨(some 10), .call 13, [.t 9], none⟩,
  ⟨(some 8), .mov, [.t 10], none⟩,
  ⟨(some 11), .ext 0, [.t 8], none⟩,
  ⟨(some 12), .ext 1, [.t 8], none⟩,
  ⟨(some 5), .mov, [.t 11], none⟩,
  ⟨(some 6), .mov, [.t 12], none⟩])
 (AC.seq (AC.seq (AC.reg [
  ⟨(some 13), .mov, [.t 6], none⟩,
  ⟨(some 14), .un .not, [.t 13], none⟩,
  ⟨(some 15), .mov, [.t 14], none⟩,
  ⟨(some 16), .mov, [.t 5], (some (15, false))⟩,
  ⟨(some 17), .len 1 0, [.t 16], (some (15, false))⟩,
  ⟨(some 18), .mov, [.t 1], (some (15, false))⟩,
  ⟨(some 19), .len 1 0, [.t 18], (some (15, false))⟩,
  ⟨(some 20), .bin .neq, [.t 17, .t 19], (some (15, false))⟩,
  ⟨(some 21), .pick, [.t 15, .c (.bool true), .t 20], none⟩])
 (AC.cond (.t 21)
  (AC.seq (AC.reg [
   ⟨(some 4), .mov, [.c (.bool false)], none⟩])
  AC.ret)
  AC.skip))
 (AC.seq (AC.seq (AC.reg [
  ⟨(some 7), .mov, [.c (.int .i64 0)], none⟩])
 (AC.block 0
  (AC.loop c_ledges_0)))
 (AC.seq (AC.reg [
  ⟨(some 4), .mov, [.c (.bool true)], none⟩])
 AC.ret)))))
def r_ledges : AC × List RT × Nat := (c_ledges, [.tmp 4], 37)
theorem ok_ledgese : compF Tryz.prog Tryz.f14 ⟨false, false, []⟩ = some r_ledges := by kernel_rfl
variable {E : Env}
theorem bsE {W : AW} {K : V → AW → Prop} {a b c : Int} : sem E (.bslice 3 1 (.agg [.int .u16 0, .int .u16 0, .int .u8 0]) [0]) [.agg [.int .u16 a, .int .u16 b, .int .u8 c]] W K = K (.sl 3 true [(Ed.mk a b c).V]) W := by
  simp [sem, rsem, tsem, fillE, V.cells, Ed.V]
theorem bsE' {W : AW} {K : V → AW → Prop} {e : Ed} : sem E (.bslice 3 1 (.agg [.int .u16 0, .int .u16 0, .int .u8 0]) [0]) [.agg [.int .u16 e.fr, .int .u16 e.to, .int .u8 e.kd]] W K = K (.sl 3 true [e.V]) W := bsE
theorem eds_now (l : List Ed) : nowGS 3 (l.map Ed.V) = edsV l := by
  cases l <;> rfl
theorem eds_bel (l : List Ed) (n : Nat) : V.belL n (l.map Ed.V) = true := bel_edV n l
theorem listed_c (hP : E.P = Tryz.prog) (W : AW) {g m lo : Nat} {h : V} {P : List Ek} {N : List Int} (hG : Gr W g m h P N lo) : ACalls E 13 [.ptr g 0] W fun Y W' => Y = .tuple [edsV (edL P), .bool true] ∧ W' = W := by
  refine ACalls.of hP Tryz.func13 ok_listede (by simp) fun _ hok => ?_
  have hlm := hG.lm
  have hlg := hG.lg
  simp (config := { maxSteps := 2000000 }) (disch := omega) only [c_listed, BS, BC, e_seq, ↓reduceIte, reduceCtorEq]
  refine (edges_c hP _ g).mono ?_
  rintro _ W1 ⟨q, rfl, hq, hqn, hE1⟩
  rw [hE1.cl.start]
  simp (config := { maxSteps := 2000000 }) (disch := omega) only [BS, BC, e_seq, cond_if, ↓reduceIte, Nat.reduceEqDiff, BM, BD]
  obtain ⟨W0, hW0⟩ : ∃ W0, W0 = X W1 W1.nx [.row [.nilsl]] := ⟨_, rfl⟩
  rw [← hW0]
  have hE10 : Ex W1 W0 := by rw [hW0]; exact .x0
  have hn0 : W0.nx = W1.nx + 1 := by rw [hW0]; rfl
  have r0 : rf W1.nx 0 = W1.nx := rfl
  have hc5 : W0.get (rf W1.nx 0) = some (.row [.nilsl]) := by rw [hW0, X_get]; rfl
  clear hW0
  have hE0 := hE1.trans hE10
  have hn1 := hE1.nx
  have hG0 := hG.ex hE0
  have hl := edL_lt hG
  refine range_edges hP (q := q) (lo := lo) (P := P) (N := N) rfl ((hE10.get _ hqn).trans hq) (by omega) hE0.cl hG0 (fun i W2 => Cl W2 ∧ W0.nx < W2.nx ∧ (∀ x, x < W0.nx → x ≠ rf W1.nx 0 → W2.get x = W0.get x) ∧ ∃ h, W2.get (rf W1.nx 0) = some (.row [h]) ∧ nowG W2 h (((edL P).take i).map Ed.V) 3 W0.nx) ?_ ?_ ?_ ?_
  · intro W2 hE hn
    exact ⟨hE.cl, hn, fun x hx _ => hE.get x hx, .nilsl, by rw [hE.get _ (by omega)]; exact hc5, .inl ⟨rfl, rfl⟩⟩
  · exact fun i W2 h => ⟨h.1, h.2.1⟩
  · rintro i hi W2 W2' ⟨j0, j1, j2, h5, j3, j4⟩ hE2 hlp
    have htk : ((edL P).take (i + 1)).map Ed.V = ((edL P).take i).map Ed.V ++ [((edL P)[i]).V] := by
      rw [List.take_add_one, List.getElem?_eq_getElem hi, List.map_append]; rfl
    have hlk : (((edL P).take i).map Ed.V).length = i := by simp; omega
    generalize (edL P)[i] = e at htk
    have hn2 := hE2.nx
    have k5 := (hE2.get _ (show rf W1.nx 0 < W2.nx by omega)).trans j3
    have j4' := j4.to hE2.nx fun r _ hr _ => hE2.get r hr
    refine awp_startC hE2.cl ?_
    simp (config := { maxSteps := 2000000 }) (disch := omega) only [BS, BC, ↓reduceIte, Nat.reduceEqDiff, BM, BD, Nat.reduceAdd, Nat.reduceLeDiff, Nat.reduceLT, Ed.V, hlp]
    refine ⟨trivial, ?_⟩
    have k5' : (X (W2'.put W0.nx (.loop .busy none)) W2'.nx [.row [.int .u16 e.fr, .int .u16 e.to, .int .u8 e.kd]]).get (rf W1.nx 0) = some (.row [h5]) := by rw [X_old (by omega), put_ne (by omega)]; exact k5
    simp (config := { maxSteps := 2000000 }) (disch := omega) only [BS, BC, ↓reduceIte, Nat.reduceEqDiff, BM, put_ne, k5, bsE']
    refine app_now (lo := W0.nx) (j4'.to (by simp only [X_nx, rf]; omega) fun r h1 h2 ⟨ys, hy⟩ => by rw [X_old h2, put_ne (by rintro rfl; rw [hlp] at hy; cases hy)]) Cl.X (by simp only [X_nx, rf]; omega) (by decide) rfl (by rw [hlk]; omega) ?_
    intro h' W3 gN gC gn gg1 gg2
    simp only [X_nx, rf, List.length_cons, List.length_nil] at gn
    have k3 : W3.get (rf W1.nx 0) = some (.row [h5]) := by rw [gg2 _ (by omega)]; exact k5'
    have kl : W3.get W0.nx = some (.loop .busy none) := by
      rw [gg1 W0.nx (by simp only [X_nx, rf]; omega) (fun ys => by rw [X_old (by omega), put_at]; simp), X_old (by omega), put_at]
    simp (config := { maxSteps := 2000000 }) (disch := omega) only [BS, ↓reduceIte, Nat.reduceEqDiff, BM, BD, Nat.reduceLeDiff, gN.cells1.1, gN.cells1.2, k3]
    refine ⟨trivial, by rw [put_ne (by omega)]; exact kl, (gC.put (by omega)).put (by rw [put_nx]; omega), by simp only [put_nx]; omega, fun x hx hx5 => ?_, h', ?_, ?_⟩
    · rw [put_ne (by omega), put_ne hx5, gg2 x hx, X_old (by omega), put_ne (by omega), hE2.get x (by omega)]
      exact j2 x hx hx5
    · first | (rw [put_at]; done) | (rw [put_ne (by omega), put_at])
    · rw [htk]
      refine gN.to (by simp only [put_nx]; exact Nat.le_refl _) fun r h1 h2 ⟨ys, hy⟩ => ?_
      rw [put_ne (by rintro rfl; rw [kl] at hy; cases hy), put_ne (by omega)]
  · rintro W2 ⟨j0, j1, j2, h5, j3, j4⟩ hlp
    rw [List.take_length] at j4
    have k5 : (W2.put W0.nx (.loop .exhausted none)).get (rf W1.nx 0) = some (.row [h5]) := by rw [put_ne (by omega)]; exact j3
    have j5 := j4.to (W' := W2.put W0.nx (.loop .exhausted none)) (by rw [put_nx]; exact Nat.le_refl _) fun r h1 h2 ⟨ys, hy⟩ => put_ne (by rintro rfl; rw [hlp] at hy; cases hy)
    simp (config := { maxSteps := 2000000 }) (disch := omega) only [BS, BC, e_seq, ↓reduceIte, Nat.reduceEqDiff, BM, k5, j5.frz, eds_now]
    refine ⟨_, rfl, _, W, .weak (weak_back hok (by simp only [V.bel, V.belL, bel_eds, Bool.and_true]) fun x hx => ?_), Nat.le_refl _, rfl, rfl⟩
    have hx' : x < W.nx := hx
    rw [put_ne (by omega), j2 x (by omega) (by omega)]
    exact hE0.get x hx'
end Go.AL.S
set_option maxRecDepth 100000
set_option maxHeartbeats 2000000
namespace Go.AL.S
open Go Go.AL Go.AL.SE Go.Proofs
/- umpire/umpirelaw27.add -/
def c_addA : AC := (AC.seq (AC.reg [
  ⟨(some 4), .alloc [.int .u8 0, .int .u8 0, .int .u16 0, .nilsl, .nilsl], [], none⟩])
 (AC.seq (AC.reg [
  ⟨(some 5), .mov, [.t 0], none⟩,
  ⟨(some 6), .mov, [.t 1], none⟩,
  ⟨(some 7), .build [.bool false, .int .u8 0, .int .u16 0] [(2, 1)], [.t 6], none⟩,
  ⟨(some 8), .bslice 3 1 (.agg [.bool false, .int .u8 0, .int .u16 0]) [0], [.t 7], none⟩,
  ⟨(some 9), .build [.int .u8 0, .int .u8 0, .int .u16 0, .nilsl, .nilsl] [(2, 1), (3, 1)], [.t 5, .t 8], none⟩,
  ⟨none, .store 5, [.t 4, .t 9], none⟩])
 AC.ret))
def r_addA : AC × List RT × Nat := (c_addA, [.cell 4 true 5], 10)
theorem ok_addAe : compF Tryz.prog Tryz.f65 ⟨false, false, []⟩ = some r_addA := by kernel_rfl
/- umpire/umpirelaw27.read -/
def c_readA : AC := (AC.seq (AC.reg [
  ⟨(some 2), .alloc [.int .u8 0, .int .u8 0, .int .u16 0, .nilsl, .nilsl], [], none⟩])
 (AC.seq (AC.reg [
  ⟨(some 3), .mov, [.t 0], none⟩,
  ⟨(some 4), .build [.bool false, .int .u8 0, .int .u16 0] [(0, 1)], [.c (.bool true)], none⟩,
  ⟨(some 5), .bslice 3 1 (.agg [.bool false, .int .u8 0, .int .u16 0]) [0], [.t 4], none⟩,
  ⟨(some 6), .build [.int .u8 0, .int .u8 0, .int .u16 0, .nilsl, .nilsl] [(2, 1), (3, 1)], [.t 3, .t 5], none⟩,
  ⟨none, .store 5, [.t 2, .t 6], none⟩])
 AC.ret))
def r_readA : AC × List RT × Nat := (c_readA, [.cell 2 true 5], 7)
theorem ok_readAe : compF Tryz.prog Tryz.f66 ⟨false, false, []⟩ = some r_readA := by kernel_rfl
/- umpire/umpirelaw27.commit -/
def c_comA : AC := (AC.seq (AC.reg [
  ⟨(some 4), .alloc [.int .u8 0, .int .u8 0, .int .u16 0, .nilsl, .nilsl], [], none⟩])
 (AC.seq (AC.reg [
  ⟨(some 5), .mov, [.t 0], none⟩,
  ⟨(some 6), .mov, [.t 1], none⟩,
  ⟨(some 7), .bslice 1 1 (.nilsl) [0], [.t 6], none⟩,
  ⟨(some 8), .build [.int .u8 0, .int .u8 0, .int .u16 0, .nilsl, .nilsl] [(0, 1), (2, 1), (4, 1)], [.c (.int .u8 2), .t 5, .t 7], none⟩,
  ⟨none, .store 5, [.t 4, .t 8], none⟩])
 AC.ret))
def r_comA : AC × List RT × Nat := (c_comA, [.cell 4 true 5], 9)
theorem ok_comAe : compF Tryz.prog Tryz.f67 ⟨false, false, []⟩ = some r_comA := by kernel_rfl
def c_lok_0 : AC := (AC.seq (AC.seq (AC.reg [
    ⟨(some 8), .mov, [.t 5], none⟩,
    ⟨(some 9), .mov, [.t 1], none⟩,
    ⟨(some 10), .len 1 0, [.t 9], none⟩,
    ⟨(some 11), .bin .lss, [.t 8, .t 10], none⟩])
   (AC.cond (.t 11)
    AC.skip
    (AC.exit 0)))
   (AC.seq (AC.block 1
    (AC.seq (AC.par
     (PT.step 1 ⟨(some 16), .mov, [.t 1], none⟩
     (PT.step 2 ⟨(some 17), .mov, [.t 5], none⟩
     (PT.step 0 ⟨(some 15), .load true 2, [.t 2], none⟩
     (PT.step 3 ⟨(some 18), .idxp 5, [.t 16, .t 17], none⟩
     (PT.step 4 ⟨(some 19), .load true 5, [.t 18], none⟩
     (PT.step 5 ⟨(some 20), .call 11, [.t 15, .t 19], none⟩
     (PT.step 6 ⟨(some 14), .mov, [.t 20], none⟩
     (PT.step 7 ⟨(some 21), .ext 0, [.t 14], none⟩
     (PT.step 8 ⟨(some 22), .ext 1, [.t 14], none⟩
     (PT.step 9 ⟨(some 6), .mov, [.t 21], none⟩
     (PT.step 10 ⟨(some 7), .mov, [.t 22], none⟩
     PT.done))))))))))))
    (AC.seq (AC.reg [
     ⟨(some 23), .mov, [.t 6], none⟩,
     ⟨(some 24), .bin .neq, [.t 23, .c (.int .i64 0)], none⟩,
     ⟨(some 25), .mov, [.t 24], none⟩,
     ⟨(some 26), .mov, [.t 7], (some (25, false))⟩,
     ⟨(some 27), .un .not, [.t 26], (some (25, false))⟩,
     ⟨(some 28), .pick, [.t 25, .c (.bool true), .t 27], none⟩])
    (AC.cond (.t 28)
     (AC.seq (AC.reg [
      ⟨(some 4), .mov, [.c (.bool false)], none⟩])
     AC.ret)
     AC.skip))))
   (AC.reg [
    ⟨(some 12), .mov, [.t 5], none⟩,
    ⟨(some 13), .bin .add, [.t 12, .c (.int .i64 1)], none⟩,
    ⟨(some 5), .mov, [.t 13], none⟩])))
/- (umpire/umpirelaw27.state).ok -/
def c_lok : AC := (AC.seq (AC.reg [
  ⟨(some 2), .box, [.t 0], none⟩,
  ⟨(some 4), .mov, [.c (.bool false)], none⟩])
 (AC.seq (AC.seq (AC.reg [
  ⟨(some 5), .mov, [.c (.int .i64 0)], none⟩])
 (AC.block 0
  (AC.loop c_lok_0)))
 (AC.seq (AC.reg [
  ⟨(some 4), .mov, [.c (.bool true)], none⟩])
 AC.ret)))
def r_lok : AC × List RT × Nat := (c_lok, [.tmp 4], 29)
theorem ok_loke : compF Tryz.prog Tryz.f64 ⟨false, false, []⟩ = some r_lok := by kernel_rfl
/- umpire/umpirelaw27.awake -/
def c_awake : AC := (AC.seq (AC.reg [
  ⟨(some 0), .mov, [.c (.bool false)], none⟩])
 (AC.seq (AC.reg [
  ⟨(some 5), .call 30, [], none⟩,
  ⟨(some 4), .mov, [.t 5], none⟩,
  ⟨(some 6), .ext 0, [.t 4], none⟩,
  ⟨(some 7), .ext 1, [.t 4], none⟩,
  ⟨(some 1), .alloc [.nilptr, .nilptr], [], none⟩,
  ⟨none, .store 2, [.t 1, .t 6], none⟩,
  ⟨(some 2), .mov, [.t 7], none⟩])
 (AC.seq (AC.reg [
  ⟨(some 8), .fld 0, [.t 1], none⟩,
  ⟨(some 9), .load false 1, [.t 8], none⟩,
  ⟨(some 10), .fld 1, [.t 1], none⟩,
  ⟨(some 11), .load false 1, [.t 10], none⟩,
  ⟨(some 12), .call 12, [.t 9, .t 11], none⟩,
  ⟨(some 3), .mov, [.t 12], none⟩])
 (AC.seq (AC.reg [
  ⟨(some 13), .mov, [.t 2], none⟩,
  ⟨(some 14), .mov, [.t 13], none⟩,
  ⟨(some 15), .mov, [.t 3], (some (14, true))⟩,
  ⟨(some 16), .call 15, [.t 15], (some (14, true))⟩,
  ⟨(some 17), .len 1 0, [.t 16], (some (14, true))⟩,
  ⟨(some 18), .bin .eql, [.t 17, .c (.int .i64 5)], (some (14, true))⟩,
  ⟨(some 19), .pick, [.t 14, .t 18, .c (.bool false)], none⟩,
  ⟨(some 20), .mov, [.t 19], none⟩,
  ⟨(some 21), .mov, [.t 3], (some (20, true))⟩,
  ⟨(some 22), .build [.int .u16 0, .int .u16 0, .int .u8 0] [(0, 1), (1, 1)], [.c (.int .u16 1), .c (.int .u16 2)], (some (20, true))⟩,
  ⟨(some 23), .build [.int .u16 0, .int .u16 0, .int .u8 0] [(0, 1), (1, 1), (2, 1)], [.c (.int .u16 1), .c (.int .u16 4), .c (.int .u8 1)], (some (20, true))⟩,
  ⟨(some 24), .build [.int .u16 0, .int .u16 0, .int .u8 0] [(0, 1), (1, 1), (2, 1)], [.c (.int .u16 2), .c (.int .u16 3), .c (.int .u8 1)], (some (20, true))⟩,
  ⟨(some 25), .build [.int .u16 0, .int .u16 0, .int .u8 0] [(0, 1), (1, 1), (2, 1)], [.c (.int .u16 4), .c (.int .u16 2), .c (.int .u8 2)], (some (20, true))⟩,
  ⟨(some 26), .build [.int .u16 0, .int .u16 0, .int .u8 0] [(0, 1), (1, 1), (2, 1)], [.c (.int .u16 5), .c (.int .u16 1), .c (.int .u8 2)], (some (20, true))⟩,
  ⟨(some 27), .bslice 3 5 (.agg [.int .u16 0, .int .u16 0, .int .u8 0]) [0, 1, 2, 3, 4], [.t 22, .t 23, .t 24, .t 25, .t 26], (some (20, true))⟩,
  ⟨(some 28), .call 14, [.t 21, .t 27], (some (20, true))⟩,
  ⟨(some 29), .pick, [.t 20, .t 28, .c (.bool false)], none⟩,
  ⟨(some 0), .mov, [.t 29], none⟩])
 AC.ret))))
def r_awake : AC × List RT × Nat := (c_awake, [.tmp 0], 30)
theorem ok_awakee : compF Tryz.prog Tryz.f10 ⟨false, false, []⟩ = some r_awake := by kernel_rfl
/- umpire/umpirelaw27.given -/
def c_given : AC := (AC.seq (AC.reg [
  ⟨(some 0), .alloc [.nilptr, .nilptr], [], none⟩,
  ⟨(some 1), .mov, [.c (.bool false)], none⟩])
 (AC.seq (AC.reg [
  ⟨(some 6), .call 8, [], none⟩,
  ⟨(some 5), .mov, [.t 6], none⟩,
  ⟨(some 7), .ext 0, [.t 5], none⟩,
  ⟨(some 8), .ext 1, [.t 5], none⟩,
  ⟨(some 2), .alloc [.nilptr, .nilptr], [], none⟩,
  ⟨none, .store 2, [.t 2, .t 7], none⟩,
  ⟨(some 3), .mov, [.t 8], none⟩])
 (AC.seq (AC.reg [
  ⟨(some 9), .build [.int .u8 0, .int .u8 0, .int .u16 0, .nilsl, .nilsl] [(0, 1), (2, 1)], [.c (.int .u8 2), .c (.int .u16 1)], none⟩,
  ⟨(some 4), .alloc [.int .u8 0, .int .u8 0, .int .u16 0, .nilsl, .nilsl], [], none⟩,
  ⟨none, .store 5, [.t 4, .t 9], none⟩])
 (AC.seq (AC.par
  (PT.step 1 ⟨(some 11), .mov, [.t 3], none⟩
  (PT.step 2 ⟨(some 12), .mov, [.t 11], none⟩
  (PT.step 10 ⟨(some 20), .bslice 1 2 (.int .u16 0) [0, 1], [.c (.int .u16 1), .c (.int .u16 2)], (some (12, true))⟩
  (PT.step 12 ⟨(some 22), .bslice 1 1 (.int .u16 0) [0], [.c (.int .u16 1)], (some (12, true))⟩
  (PT.step 3 ⟨(some 13), .load true 2, [.t 2], (some (12, true))⟩
  (PT.step 4 ⟨(some 14), .pcall 65, [.c (.int .u16 1), .c (.int .u16 1)], (some (12, true))⟩
  (PT.step 5 ⟨(some 15), .pcall 65, [.c (.int .u16 2), .c (.int .u16 2)], (some (12, true))⟩
  (PT.step 6 ⟨(some 16), .pcall 66, [.c (.int .u16 3)], (some (12, true))⟩
  (PT.step 7 ⟨(some 17), .pcall 66, [.c (.int .u16 4)], (some (12, true))⟩
  (PT.step 8 ⟨(some 18), .pcall 66, [.c (.int .u16 5)], (some (12, true))⟩
  (PT.step 9 ⟨(some 19), .load true 5, [.t 4], (some (12, true))⟩
  (PT.step 11 ⟨(some 21), .pcall 67, [.c (.int .u16 3), .t 20], (some (12, true))⟩
  (PT.step 13 ⟨(some 23), .pcall 67, [.c (.int .u16 4), .t 22], (some (12, true))⟩
  (PT.step 14 ⟨(some 24), .pcall 67, [.c (.int .u16 5), .c (.nilsl)], (some (12, true))⟩
  (PT.step 15 ⟨(some 25), .bslice 5 9 (.agg [.int .u8 0, .int .u8 0, .int .u16 0, .nilsl, .nilsl]) [0, 1, 2, 3, 4, 5, 6, 7, 8], [.t 14, .t 15, .t 16, .t 17, .t 18, .t 19, .t 21, .t 23, .t 24], (some (12, true))⟩
  (PT.alt
   (PT.step 0 ⟨(some 10), .load true 2, [.t 2], none⟩
   (PT.step 16 ⟨(some 26), .call 64, [.t 13, .t 25], (some (12, true))⟩
   (PT.step 17 ⟨(some 27), .pick, [.t 12, .t 26, .c (.bool false)], none⟩
   (PT.step 18 ⟨none, .store 2, [.t 0, .t 10], none⟩
   (PT.step 19 ⟨(some 1), .mov, [.t 27], none⟩
   PT.done)))))
   (PT.step 16 ⟨(some 26), .call 64, [.t 13, .t 25], (some (12, true))⟩
   (PT.step 17 ⟨(some 27), .pick, [.t 12, .t 26, .c (.bool false)], none⟩
   (PT.step 0 ⟨(some 10), .load true 2, [.t 2], none⟩
   (PT.step 18 ⟨none, .store 2, [.t 0, .t 10], none⟩
   (PT.step 19 ⟨(some 1), .mov, [.t 27], none⟩
   PT.done))))))))))))))))))))))
 AC.ret))))
def r_given : AC × List RT × Nat := (c_given, [.cell 0 true 2, .tmp 1], 28)
theorem ok_givene : compF Tryz.prog Tryz.f30 ⟨false, true, [65, 66, 67]⟩ = some r_given := by kernel_rfl
variable {E : Env}
theorem ed_has {e : Ed} (h : ekOk (ofEd e)) : e.V.has shE = true := ekV_has h
theorem ed_keq {a b : Ed} : a.V.keq b.V = decide (a = b) := by
  have := ekV_keq (ofEd a) (ofEd b)
  have h2 : decide (ofEd b = ofEd a) = decide (a = b) := decide_eq_decide.2 ⟨fun h => (congrArg toEd h).symm, fun h => by rw [h]⟩
  exact this.trans h2
theorem ed_eqv {W : AW} {K : V → AW → Prop} {a b : Ed} (h : ekOk (ofEd a)) (h' : ekOk (ofEd b)) {neg : Bool} : sem E (.eqv neg (true, [.i .u16, .i .u16, .i .u8])) [a.V, b.V] W K = K (.bool (if neg = true then !decide (a = b) else decide (a = b))) W := by
  have h1 := ed_has h
  have h2 := ed_has h'
  simp only [shE] at h1 h2
  simp [sem, rsem, tsem, h1, h2, ed_keq]
theorem ed_load {W : AW} {K : V → AW → Prop} {e : Ed} : sem E (.load true 3) [.cptr e.V.cells] W K = K e.V W := rfl
theorem edL_ok {W : AW} {g m lo : Nat} {h : V} {P : List Ek} {N : List Int} (hG : Gr W g m h P N lo) : ∀ e ∈ edL P, ekOk (ofEd e) := fun _ he => hG.pk _ (edL_mem.1 he)
theorem ledges_c (hP : E.P = Tryz.prog) (W : AW) {g m lo : Nat} {h : V} {P : List Ek} {N : List Int} (hG : Gr W g m h P N lo) {v : V} {l : List Ed} (hv : isS 3 v (l.map Ed.V)) (hl : ∀ e ∈ l, ekOk (ofEd e)) (_ : l.length < 2 ^ 40) :
    ACalls E 14 [.ptr g 0, v] W fun Y W' => Y = .bool (decide (edL P = l)) ∧ W' = W := by
  refine ACalls.of hP Tryz.func14 ok_ledgese (by simp) fun _ hok => ?_
  have hs := edsV_S (edL P)
  have hlt := edL_lt hG
  have hne : (((edL P).length : Int) != (l.length : Int)) = decide ((edL P).length ≠ l.length) := by rw [cmpne]; exact decide_eq_decide.2 (by omega)
  simp (config := { maxSteps := 200000 }) (disch := omega) only [BS, BC, e_seq, ↓reduceIte, reduceCtorEq, c_ledges]
  refine pc (listed_c hP _ hG) ?_
  simp (config := { maxSteps := 200000 }) (disch := omega) only [BS, e_seq, ↓reduceIte, Nat.reduceEqDiff, BD]
  (rw [guard_if]; simp (config := { maxSteps := 200000 }) (disch := omega) only [BS, ↓reduceIte, Nat.reduceEqDiff, ])
  (rw [guard_if]; simp (config := { maxSteps := 200000 }) (disch := omega) only [BS, ↓reduceIte, Nat.reduceEqDiff, hs.len, List.length_map])
  (rw [guard_if]; simp (config := { maxSteps := 200000 }) (disch := omega) only [BS, BC, ↓reduceIte, Nat.reduceEqDiff, ])
  (rw [guard_if]; simp (config := { maxSteps := 200000 }) (disch := omega) only [BS, ↓reduceIte, Nat.reduceEqDiff, hv.len, List.length_map])
  (rw [guard_if]; simp (config := { maxSteps := 200000 }) (disch := omega) only [BS, BC, e_seq, cond_if, ↓reduceIte, Nat.reduceEqDiff, hne])
  by_cases hn : (edL P).length = l.length
  · simp (config := { maxSteps := 200000 }) (disch := omega) only [BC, ↓reduceIte, show decide ((edL P).length ≠ l.length) = false by simp [hn]]
    rw [e_loop]
    refine ALoop.go (B := awp E _) (fun h => awp_mono _ h) (fun (k : Nat) A1 W1 => A1 1 = some v ∧ A1 5 = some (edsV (edL P)) ∧ A1 7 = some (.int .i64 k) ∧ k ≤ l.length ∧ W1 = W ∧ (edL P).take k = l.take k) (fun k => l.length - k) 0
      ⟨rfl, rfl, rfl, Nat.zero_le _, rfl, rfl⟩ ?_
    rintro k A1 W1 ⟨g1, g5, g7, gk, rfl, ge⟩ _
    by_cases hk1 : k < l.length
    · have hk2 : k < (edL P).length := by omega
      have o1 := edL_ok hG _ (List.getElem_mem hk2)
      have o2 := hl _ (List.getElem_mem hk1)
      by_cases he : (edL P)[k] = l[k]
      · simp (config := { maxSteps := 2000000 }) (disch := omega) only [c_ledges_0, BS, BC, e_seq, cond_if, ↓reduceIte, Nat.reduceEqDiff, BD, g1, g5, g7, hs.len, List.length_map, clt, hk2, decide_true, hs.idx (ed_at hk2), hv.idx (ed_at hk1), ed_load, ed_eqv o1 o2, decide_eq_true he, wadd1]
        exact ⟨k + 1, ⟨(by first | trivial | rfl | omega), (by first | trivial | rfl | omega), (by first | trivial | rfl | omega), by omega, (by first | trivial | rfl | omega), take_ext ge hk2 hk1 he⟩, by omega, Nat.le_refl _⟩
      · simp (config := { maxSteps := 2000000 }) (disch := omega) only [c_ledges_0, BS, BC, e_seq, cond_if, ↓reduceIte, Nat.reduceEqDiff, BD, g1, g5, g7, hs.len, List.length_map, clt, hk2, decide_true, hs.idx (ed_at hk2), hv.idx (ed_at hk1), ed_load, ed_eqv o1 o2, decide_eq_false he]
        exact ⟨_, rfl, _, _, .weak weak_id, Nat.le_refl _, by rw [decide_eq_false (ne_at hk2 hk1 he)], rfl⟩
    · have hk2 : ¬ k < (edL P).length := by omega
      obtain rfl : k = l.length := by omega
      simp (config := { maxSteps := 2000000 }) (disch := omega) only [c_ledges_0, BS, BC, e_seq, cond_if, ↓reduceIte, Nat.reduceEqDiff, g5, g7, hs.len, List.length_map, clt, hk2, decide_false]
      rw [List.take_of_length_le (by omega), List.take_length] at ge
      exact ⟨_, rfl, _, _, .weak weak_id, Nat.le_refl _, by rw [decide_eq_true ge], rfl⟩
  · simp (config := { maxSteps := 200000 }) (disch := omega) only [↓reduceIte, show decide ((edL P).length ≠ l.length) = true by simp [hn]]
    exact ⟨_, rfl, _, _, .weak weak_id, Nat.le_refl _, by rw [decide_eq_false]; intro e; exact hn (by rw [e]), rfl⟩
/-! the chapter's transactions -/
theorem bsM {W : AW} {K : V → AW → Prop} {m : Mi} : sem E (.bslice 3 1 (.agg [.bool false, .int .u8 0, .int .u16 0]) [0]) [.agg [.bool m.read, .int .u8 m.key, .int .u16 m.v]] W K = K (.sl 3 true [m.V]) W := by
  simp [sem, rsem, tsem, fillE, V.cells, Mi.V]
def acAdd (i v : Int) : Ac := ⟨0, 0, i, .sl 3 true [(Mi.mk false 0 v).V], [⟨false, 0, v⟩], .nilsl, []⟩
def acRead (i : Int) : Ac := ⟨0, 0, i, .sl 3 true [(Mi.mk true 0 0).V], [⟨true, 0, 0⟩], .nilsl, []⟩
def acCom (i : Int) (v : V) (o : Option (List Int)) : Ac := ⟨2, 0, i, .nilsl, [], .sl 1 true [v], [o]⟩
theorem addA_c (hP : E.P = Tryz.prog) (W : AW) (i v : Int) : ACalls E 65 [.int .u16 i, .int .u16 v] W fun Y W' => Y = (acAdd i v).V ∧ W' = W := by
  refine ACalls.of hP Tryz.func65 ok_addAe (by simp) fun _ hok => ?_
  refine awp_start hok ?_
  simp (config := { maxSteps := 2000000 }) (disch := omega) only [c_addA, BS, BC, e_seq, ↓reduceIte, Nat.reduceEqDiff, reduceCtorEq, BM, BD, Nat.reduceAdd, Nat.reduceLeDiff, Nat.reduceLT, bsM (m := ⟨false, 0, v⟩)]
  exact ⟨_, rfl, _, W, backX hok rfl, Nat.le_refl _, rfl, rfl⟩
theorem readA_c (hP : E.P = Tryz.prog) (W : AW) (i : Int) : ACalls E 66 [.int .u16 i] W fun Y W' => Y = (acRead i).V ∧ W' = W := by
  refine ACalls.of hP Tryz.func66 ok_readAe (by simp) fun _ hok => ?_
  refine awp_start hok ?_
  simp (config := { maxSteps := 2000000 }) (disch := omega) only [c_readA, BS, BC, e_seq, ↓reduceIte, Nat.reduceEqDiff, reduceCtorEq, BM, BD, Nat.reduceAdd, Nat.reduceLeDiff, Nat.reduceLT, bsM (m := ⟨true, 0, 0⟩)]
  exact ⟨_, rfl, _, W, backX hok rfl, Nat.le_refl _, rfl, rfl⟩
theorem comA_c (hP : E.P = Tryz.prog) (W : AW) (i : Int) {v : V} {o : Option (List Int)} (h : isEl v o) : ACalls E 67 [.int .u16 i, v] W fun Y W' => Y = (acCom i v o).V ∧ W' = W := by
  refine ACalls.of hP Tryz.func67 ok_comAe (by simp) fun _ hok => ?_
  refine awp_start hok ?_
  have hb : ∀ (W : AW) K, sem E (.bslice 1 1 .nilsl [0]) [v] W K = K (.sl 1 true [v]) W := fun W K => by
    have := h.isS.cells
    simp [sem, rsem, tsem, fillE, this, cells_nilsl]
  simp (config := { maxSteps := 2000000 }) (disch := omega) only [c_comA, BS, BC, e_seq, ↓reduceIte, Nat.reduceEqDiff, reduceCtorEq, BM, BD, Nat.reduceAdd, Nat.reduceLeDiff, Nat.reduceLT, hb]
  refine ⟨_, rfl, _, W, backX hok ?_, Nat.le_refl _, rfl, rfl⟩
  have : v.bel W.nx = true := h.isS.lens (belL_ints _ _)
  simp only [V.bel, V.belL, this, Bool.and_self]
/-- Acts one behind the other, as long as all goes well. -/
def okRun (s : Str) (o : Ods) : List Ac → Str × Ods × Bool
  | [] => (s, o, true)
  | a :: l => if (actG s o a).2.2.1 = 0 ∧ (actG s o a).2.2.2 = true then okRun (actG s o a).1 (actG s o a).2.1 l else ((actG s o a).1, (actG s o a).2.1, false)
theorem Fa.trans {W W1 W2 : AW} {p ra rw q : Nat} (h : Fa W W1 p ra rw q) (h2 : Fa W1 W2 p ra rw q) : Fa W W2 p ra rw q :=
  ⟨h2.cl, Nat.le_trans h.nx h2.nx, fun x hx a b c d => by rw [h2.get x (by have := h.nx; omega) a b c d]; exact h.get x hx a b c d⟩
theorem ac_load {W : AW} {K : V → AW → Prop} {a : Ac} : sem E (.load true 5) [.cptr a.V.cells] W K = K a.V W := rfl
theorem ac_frz {W : AW} {a : Ac} : W.frz a.V = a.V := rfl
theorem lok_c (hP : E.P = Tryz.prog) (W : AW) {p ra rw q : Nat} {s : Str} {os : Ods} (hS : St W p ra rw s) (hO : Od W q os) (ne : q ≠ p ∧ q ≠ ra ∧ q ≠ rw) {v : V} {l : List Ac} (hv : isS 5 v (l.map Ac.V)) (ha : ∀ a ∈ l, a.ok ∧ a.small) (hl : l.length < 2 ^ 40) :
    ACalls E 64 [.agg [.ptr p 0, .ptr q 0], v] W fun Y W' => Y = .bool (okRun s os l).2.2 ∧ St W' p ra rw (okRun s os l).1 ∧ Od W' q (okRun s os l).2.1 ∧ Fa W W' p ra rw q := by
  refine ACalls.of hP Tryz.func64 ok_loke (by simp) fun _ hok => ?_
  refine awp_start hok ?_
  have hlp := hS.lp
  have hla := hS.la
  have hlw := hS.lw
  have hlq := hO.lq
  simp (config := { maxSteps := 2000000 }) (disch := omega) only [c_lok, BS, BC, e_seq, BM, BD]
  rw [e_loop]
  refine ALoop.go (B := awp E _) (fun h => awp_mono _ h) (fun (σ : Nat × Str × Ods) A1 W1 => A1 1 = some v ∧ A1 2 = some (.ptr (rf W.nx 0) 0) ∧ A1 5 = some (.int .i64 σ.1) ∧ σ.1 ≤ l.length ∧ W1.get (rf W.nx 0) = some (.row [.ptr p 0, .ptr q 0]) ∧ W.nx < W1.nx ∧ St W1 p ra rw σ.2.1 ∧ Od W1 q σ.2.2 ∧ Fa W W1 p ra rw q ∧ okRun s os l = okRun σ.2.1 σ.2.2 (l.drop σ.1)) (fun σ => l.length - σ.1) (0, s, os)
    ⟨rfl, rfl, rfl, Nat.zero_le _, by rw [X_get]; rfl, by simp [X], hS.ex .x0, hO.ex .x0, ⟨Cl.X, by simp [X], fun x hx _ _ _ _ => X_old hx⟩, by simp⟩ ?_
  rintro ⟨k, s1, o1⟩ A1 W1 ⟨g1, g2, g5, gk, gr, gn, gS, gO, gF, ge⟩ _
  simp only at g5 gk gS gO ge
  have r0 : rf W.nx 0 = W.nx := rfl
  by_cases hk1 : k < l.length
  · have hat : (l.map Ac.V)[k]? = some l[k].V := by simp [hk1]
    obtain ⟨hak, hks⟩ := ha _ (List.getElem_mem hk1)
    have hdr : l.drop k = l[k] :: l.drop (k + 1) := List.drop_eq_getElem_cons hk1
    generalize l[k] = a at hat hak hks hdr
    rw [hdr] at ge
    simp (config := { maxSteps := 2000000 }) (disch := omega) only [c_lok_0, BS, BC, e_seq, cond_if, ↓reduceIte, Nat.reduceEqDiff, BM, BD, Nat.reduceAdd, Nat.reduceLeDiff, g1, g2, g5, hv.len, List.length_map, clt, hk1, decide_true, hv.idx hat, gr, ac_load, ac_frz]
    refine (act_c hP _ gS gO ne hak hks).mono ?_
    rintro _ W2 ⟨rfl, hS2, hO2, hF2⟩
    have hgr : W2.get (rf W.nx 0) = some (.row [.ptr p 0, .ptr q 0]) := by rw [hF2.get _ (by omega) (by omega) (by omega) (by omega) (by omega)]; exact gr
    simp only [okRun] at ge
    by_cases h1 : (actG s1 o1 a).2.2.1 = 0
    · have h1' : ((actG s1 o1 a).2.2.1 != 0) = false := by simp [h1]
      cases h2 : (actG s1 o1 a).2.2.2 with
      | true =>
        rw [if_pos ⟨h1, h2⟩] at ge
        simp (config := { maxSteps := 200000 }) (disch := omega) only [BS, e_seq, ↓reduceIte, Nat.reduceEqDiff, h1']
        (rw [guard_if]; simp (config := { maxSteps := 200000 }) (disch := omega) only [BS, ↓reduceIte, Nat.reduceEqDiff])
        (rw [guard_if]; simp (config := { maxSteps := 200000 }) (disch := omega) only [BS, BC, cond_if, ↓reduceIte, Nat.reduceEqDiff, BD, g1, g2, g5, wadd1])
        have := hF2.nx
        refine ⟨(k + 1, (actG s1 o1 a).1, (actG s1 o1 a).2.1), ⟨(by first | trivial | rfl | omega), (by first | trivial | rfl | omega), (by first | trivial | rfl | omega), ?_, hgr, by omega, hS2, hO2, gF.trans hF2, ge⟩, ?_, ?_⟩
        · show k + 1 ≤ l.length; omega
        · show l.length - (k + 1) < l.length - k; omega
        · simp only [rf]; omega
      | false =>
        rw [if_neg (by rw [h2]; simp)] at ge
        simp (config := { maxSteps := 200000 }) (disch := omega) only [BS, e_seq, ↓reduceIte, Nat.reduceEqDiff, h1']
        (rw [guard_if]; simp (config := { maxSteps := 200000 }) (disch := omega) only [BS, ↓reduceIte, Nat.reduceEqDiff])
        (rw [guard_if]; simp (config := { maxSteps := 200000 }) (disch := omega) only [BS, BC, e_seq, cond_if, ↓reduceIte, Nat.reduceEqDiff, BD])
        refine ⟨_, rfl, _, _, .weak weak_id, (gF.trans hF2).nx, ?_, ?_, ?_, gF.trans hF2⟩
        · rw [ge]
        · rw [ge]; exact hS2
        · rw [ge]; exact hO2
    · have h1' : ((actG s1 o1 a).2.2.1 != 0) = true := by simp [h1]
      rw [if_neg (fun h => h1 h.1)] at ge
      simp (config := { maxSteps := 200000 }) (disch := omega) only [BS, e_seq, ↓reduceIte, Nat.reduceEqDiff, h1']
      (rw [guard_if]; simp (config := { maxSteps := 200000 }) (disch := omega) only [BS, BC, ↓reduceIte, BM])
      (rw [guard_if]; simp (config := { maxSteps := 200000 }) (disch := omega) only [BS, BC, e_seq, cond_if, ↓reduceIte, Nat.reduceEqDiff, BM])
      refine ⟨_, rfl, _, _, .weak weak_id, (gF.trans hF2).nx, ?_, ?_, ?_, gF.trans hF2⟩
      · rw [ge]
      · rw [ge]; exact hS2
      · rw [ge]; exact hO2
  · obtain rfl : k = l.length := by omega
    rw [List.drop_length] at ge
    simp (config := { maxSteps := 2000000 }) (disch := omega) only [c_lok_0, BS, BC, e_seq, cond_if, ↓reduceIte, Nat.reduceEqDiff, BM, BD, g1, g5, hv.len, List.length_map, clt, hk1, decide_false]
    refine ⟨_, rfl, _, _, .weak weak_id, gF.nx, ?_, ?_, ?_, gF⟩
    · rw [ge]; rfl
    · rw [ge]; exact gS
    · rw [ge]; exact gO
end Go.AL.S
set_option maxRecDepth 100000
set_option maxHeartbeats 2000000
namespace Go.AL.S
open Go Go.AL Go.AL.SE Go.Proofs
variable {E : Env}
def gL : List Ac := [acAdd 1 1, acAdd 2 2, acRead 3, acRead 4, acRead 5, ⟨2, 0, 1, .nilsl, [], .nilsl, []⟩, acCom 3 (.sl 1 true (intsV [1, 2])) (some [1, 2]), acCom 4 (.sl 1 true (intsV [1])) (some [1]), acCom 5 .nilsl none]
theorem isMs_one (m : Mi) : isMs (.sl 3 true [m.V]) [m] := .mk
theorem acAdd_ok {i v : Int} (hi : 0 ≤ i ∧ i < 65536) (hv : 0 ≤ v ∧ v < 65536) : (acAdd i v).ok where
  wh := by simp [acAdd]
  cl := by simp [acAdd]
  id := hi
  tx := isMs_one ⟨false, 0, v⟩
  rd := ⟨[], .nil, rfl, fun k h => by simp at h⟩
  ms := by simp [acAdd, Mi.ok]; exact hv
  ns := by simp [acAdd]
  bel := rfl
theorem acRead_ok {i : Int} (hi : 0 ≤ i ∧ i < 65536) : (acRead i).ok where
  wh := by simp [acRead]
  cl := by simp [acRead]
  id := hi
  tx := isMs_one ⟨true, 0, 0⟩
  rd := ⟨[], .nil, rfl, fun k h => by simp at h⟩
  ms := by simp [acRead, Mi.ok]
  ns := by simp [acRead]
  bel := rfl
theorem acCom_ok {i : Int} (hi : 0 ≤ i ∧ i < 65536) {v : V} {o : Option (List Int)} (h : isEl v o) (hn : ∀ n ∈ nums o, 0 ≤ n ∧ n < 65536) : (acCom i v o).ok where
  wh := by simp [acCom]
  cl := by simp [acCom]
  id := hi
  tx := .inl ⟨rfl, rfl⟩
  rd := ⟨[v], .mk, rfl, fun k h1 h2 => by
    have : k = 0 := by simp at h1; omega
    subst this; exact h⟩
  ms := by simp [acCom]
  ns := by simpa [acCom] using hn
  bel := by
    have : v.bel 0 = true := h.isS.lens (belL_ints _ _)
    simp only [acCom, V.bel, V.belL, this, Bool.and_self]
theorem gL_ok : ∀ a ∈ gL, a.ok ∧ a.small := by
  have hd : Ac.ok ⟨2, 0, 1, .nilsl, [], .nilsl, []⟩ := ⟨by simp, by simp, by simp, .inl ⟨rfl, rfl⟩, ⟨[], .nil, rfl, fun k h => by simp at h⟩, by simp, by simp, rfl⟩
  intro a ha
  simp only [gL, List.mem_cons, List.not_mem_nil, or_false] at ha
  rcases ha with rfl | rfl | rfl | rfl | rfl | rfl | rfl | rfl | rfl
  · exact ⟨acAdd_ok (by decide) (by decide), by simp [Ac.small, acAdd]⟩
  · exact ⟨acAdd_ok (by decide) (by decide), by simp [Ac.small, acAdd]⟩
  · exact ⟨acRead_ok (by decide), by simp [Ac.small, acRead]⟩
  · exact ⟨acRead_ok (by decide), by simp [Ac.small, acRead]⟩
  · exact ⟨acRead_ok (by decide), by simp [Ac.small, acRead]⟩
  · exact ⟨hd, by simp [Ac.small]⟩
  · exact ⟨acCom_ok (by decide) (.inr (.inr ⟨_, _, rfl, rfl⟩)) (by simp [nums]), by simp [Ac.small, acCom, nums]⟩
  · exact ⟨acCom_ok (by decide) (.inr (.inr ⟨_, _, rfl, rfl⟩)) (by simp [nums]), by simp [Ac.small, acCom, nums]⟩
  · exact ⟨acCom_ok (by decide) (.inl ⟨rfl, rfl⟩) (by simp [nums]), by simp [Ac.small, acCom, nums]⟩
def sG : Str := [⟨1, 0, [⟨false, 0, 1⟩], [], 1⟩, ⟨2, 0, [⟨false, 0, 2⟩], [], 0⟩, ⟨3, 0, [⟨true, 0, 0⟩], [some [1, 2]], 1⟩, ⟨4, 0, [⟨true, 0, 0⟩], [some [1]], 1⟩, ⟨5, 0, [⟨true, 0, 0⟩], [none], 1⟩]
def oG : Ods := [[1, 2], [], [], [], [], [], [], []]
theorem run_g : okRun [] os0 gL = (sG, oG, true) := by decide +kernel
def wantG : List Ed := [⟨1, 2, 0⟩, ⟨1, 4, 1⟩, ⟨2, 3, 1⟩, ⟨4, 2, 2⟩, ⟨5, 1, 2⟩]
theorem edL_of {P : List Ek} {l : List Ed} (h : ((keysE (tally P)).map toEd).Perm l) (hl : l.Pairwise fun a b => ltE b a = false) : edL P = l := sortL_unique h hl
theorem edL_g : edL (buildP sG oG) = wantG := edL_of (by decide +kernel) (by decide +kernel)
theorem nodes_g : nodesR sG = [1, 2, 3, 4, 5] := by decide +kernel
theorem bs12 {W : AW} {K : V → AW → Prop} : sem E (.bslice 1 2 (.int .u16 0) [0, 1]) [.int .u16 1, .int .u16 2] W K = K (.sl 1 true (intsV [1, 2])) W := by
  simp [sem, rsem, tsem, fillE, V.cells, intsV]
theorem bs11 {W : AW} {K : V → AW → Prop} : sem E (.bslice 1 1 (.int .u16 0) [0]) [.int .u16 1] W K = K (.sl 1 true (intsV [1])) W := by
  simp [sem, rsem, tsem, fillE, V.cells, intsV]
theorem bs59 {W : AW} {K : V → AW → Prop} {a b c d e f g h i : Ac} : sem E (.bslice 5 9 (.agg [.int .u8 0, .int .u8 0, .int .u16 0, .nilsl, .nilsl]) [0, 1, 2, 3, 4, 5, 6, 7, 8]) [a.V, b.V, c.V, d.V, e.V, f.V, g.V, h.V, i.V] W K = K (.sl 5 true ([a, b, c, d, e, f, g, h, i].map Ac.V)) W := by
  simp [sem, rsem, tsem, fillE, V.cells, Ac.V]
theorem Fr.fa {W W' : AW} {p ra rw q : Nat} (h : Fa W W' p ra rw q) : Fa W W' p ra rw q := h
theorem Sx.fa {W W1 W2 : AW} {p ra rw q : Nat} {s s' : Str} {os os' : Ods} (h : Sx W W1 p ra rw q s os) (hS : St W2 p ra rw s') (hO : Od W2 q os') (hF : Fa W1 W2 p ra rw q) : Sx W W2 p ra rw q s' os' := by
  have a := h.nw.hp
  have b := h.nw.ha
  have c := h.nw.hw
  have d := h.hq
  have hn := h.nw.ex.nx
  exact ⟨⟨hS, ⟨hF.cl, Nat.le_trans hn hF.nx, fun x hx => by rw [hF.get x (by omega) (by omega) (by omega) (by omega) (by omega)]; exact h.nw.ex.get x hx⟩, a, b, c⟩, hO, d, h.ne⟩
theorem Sx.exx {W W1 W2 : AW} {p ra rw q : Nat} {s : Str} {os : Ods} (h : Sx W W1 p ra rw q s os) (hE : Ex W1 W2) : Sx W W2 p ra rw q s os := ⟨h.nw.exx hE, h.od.ex hE, h.hq, h.ne⟩
theorem Sx.base {W W1 : AW} {p ra rw q : Nat} {s : Str} {os : Ods} {l : List AObj} (h : Sx (X W W.nx l) W1 p ra rw q s os) : Sx W W1 p ra rw q s os := by
  have a := h.nw.hp
  have b := h.nw.ha
  have c := h.nw.hw
  have d := h.hq
  simp only [X] at a b c d
  exact ⟨⟨h.nw.st, Ex.x0.trans h.nw.ex, by omega, by omega, by omega⟩, h.od, by omega, h.ne⟩
theorem Sx.put {W W1 : AW} {p ra rw q r : Nat} {s : Str} {os : Ods} {o : AObj} (h : Sx W W1 p ra rw q s os) (h1 : W.nx ≤ r) (h2 : r < W1.nx) (hr : r ≠ p ∧ r ≠ ra ∧ r ≠ rw ∧ r ≠ q) : Sx W (W1.put r o) p ra rw q s os :=
  ⟨⟨h.nw.st.by (by rw [put_nx]; exact Nat.le_refl _) (put_ne hr.1.symm) (put_ne hr.2.1.symm) (put_ne hr.2.2.1.symm), ⟨h.nw.ex.cl.put h2, h.nw.ex.nx, fun x hx => by rw [put_ne (by omega)]; exact h.nw.ex.get x hx⟩, h.nw.hp, h.nw.ha, h.nw.hw⟩, h.od.by (by rw [put_nx]; exact Nat.le_refl _) (put_ne hr.2.2.2.symm), h.hq, h.ne⟩
theorem given_c (hP : E.P = Tryz.prog) (W : AW) : ACalls E 30 [] W fun Y W' => ∃ p ra rw q, Y = .tuple [.agg [.ptr p 0, .ptr q 0], .bool true] ∧ Sx W W' p ra rw q sG oG := by
  refine ACalls.of hP Tryz.func30 ok_givene (by simp) fun _ hok => ?_
  refine awp_start hok ?_
  simp (config := { maxSteps := 200000 }) (disch := omega) only [BS, BC, e_seq, BM, BD, c_given]
  refine (fresh_c hP _).mono ?_
  rintro _ W1 ⟨p, ra, rw, q, rfl, h⟩
  have hn0 : (X W W.nx [.row [.nilptr, .nilptr]]).nx = W.nx + 1 := rfl
  have r0 : rf W.nx 0 = W.nx := rfl
  have g0 : W1.get (rf W.nx 0) = some (.row [.nilptr, .nilptr]) := by rw [h.nw.ex.get _ (by rw [hn0]; omega), X_get]; rfl
  have hn1 := h.nw.ex.nx
  rw [hn0] at hn1
  rw [h.nw.ex.cl.start]
  simp (config := { maxSteps := 200000 }) (disch := omega) only [BS, BC, e_seq, ↓reduceIte, Nat.reduceEqDiff, BM, BD, Nat.reduceAdd, Nat.reduceLeDiff, Nat.reduceLT]
  (rw [guard_if]; simp (config := { maxSteps := 200000 }) (disch := omega) only [BS, ↓reduceIte, bs12])
  (rw [guard_if]; simp (config := { maxSteps := 200000 }) (disch := omega) only [BS, ↓reduceIte, Nat.reduceEqDiff, bs11])
  (rw [guard_if]; simp (config := { maxSteps := 200000 }) (disch := omega) only [BS, BC, ↓reduceIte, Nat.reduceEqDiff, BM, BD, Nat.reduceAdd, Nat.reduceLeDiff, ])
  (rw [guard_if]; simp (config := { maxSteps := 200000 }) (disch := omega) only [BS, ↓reduceIte, Nat.reduceEqDiff, ])
  refine pcall_go (v := (acAdd 1 1).V) rfl (addA_c hP _ 1 1) ?_
  simp (config := { maxSteps := 200000 }) (disch := omega) only [BS, ]
  (rw [guard_if]; simp (config := { maxSteps := 200000 }) (disch := omega) only [BS, ↓reduceIte, Nat.reduceEqDiff, ])
  refine pcall_go (v := (acAdd 2 2).V) rfl (addA_c hP _ 2 2) ?_
  simp (config := { maxSteps := 200000 }) (disch := omega) only [BS, ]
  (rw [guard_if]; simp (config := { maxSteps := 200000 }) (disch := omega) only [BS, ↓reduceIte, Nat.reduceEqDiff, ])
  refine pcall_go (v := (acRead 3).V) rfl (readA_c hP _ 3) ?_
  simp (config := { maxSteps := 200000 }) (disch := omega) only [BS, ]
  (rw [guard_if]; simp (config := { maxSteps := 200000 }) (disch := omega) only [BS, ↓reduceIte, Nat.reduceEqDiff, ])
  refine pcall_go (v := (acRead 4).V) rfl (readA_c hP _ 4) ?_
  simp (config := { maxSteps := 200000 }) (disch := omega) only [BS, ]
  (rw [guard_if]; simp (config := { maxSteps := 200000 }) (disch := omega) only [BS, ↓reduceIte, Nat.reduceEqDiff, ])
  refine pcall_go (v := (acRead 5).V) rfl (readA_c hP _ 5) ?_
  simp (config := { maxSteps := 200000 }) (disch := omega) only [BS, ]
  (rw [guard_if]; simp (config := { maxSteps := 200000 }) (disch := omega) only [BS, BC, ↓reduceIte, Nat.reduceEqDiff, BM, BD, Nat.reduceAdd, Nat.reduceLeDiff, ])
  (rw [guard_if]; simp (config := { maxSteps := 200000 }) (disch := omega) only [BS, ↓reduceIte, Nat.reduceEqDiff, ])
  refine pcall_go (v := (acCom 3 (.sl 1 true (intsV [1, 2])) (some [1, 2])).V) rfl (comA_c hP _ 3 (.inr (.inr ⟨_, _, rfl, rfl⟩))) ?_
  simp (config := { maxSteps := 200000 }) (disch := omega) only [BS, ]
  (rw [guard_if]; simp (config := { maxSteps := 200000 }) (disch := omega) only [BS, ↓reduceIte, Nat.reduceEqDiff, ])
  refine pcall_go (v := (acCom 4 (.sl 1 true (intsV [1])) (some [1])).V) rfl (comA_c hP _ 4 (.inr (.inr ⟨_, _, rfl, rfl⟩))) ?_
  simp (config := { maxSteps := 200000 }) (disch := omega) only [BS, ]
  (rw [guard_if]; simp (config := { maxSteps := 200000 }) (disch := omega) only [BS, ↓reduceIte, Nat.reduceEqDiff, ])
  refine pcall_go (v := (acCom 5 .nilsl none).V) rfl (comA_c hP _ 5 (.inl ⟨rfl, rfl⟩)) ?_
  simp (config := { maxSteps := 200000 }) (disch := omega) only [BS, ]
  (rw [guard_if]; simp (config := { maxSteps := 200000 }) (disch := omega) only [BS, BC, ↓reduceIte, Nat.reduceEqDiff, BM, BD, Nat.reduceAdd, Nat.reduceLeDiff, show V.agg [.int .u8 2, .int .u8 0, .int .u16 1, .nilsl, .nilsl] = (Ac.mk 2 0 1 .nilsl [] .nilsl []).V from rfl, bs59])
  have hp := h.nw.hp
  have ha := h.nw.ha
  have hw := h.nw.hw
  have hq := h.hq
  rw [hn0] at hp ha hw hq
  have hx0 : Sx W (X W1 W1.nx [.row [.ptr p 0, .ptr q 0], .row [.int .u8 2, .int .u8 0, .int .u16 1, .nilsl, .nilsl]]) p ra rw q [] os0 := (h.exx (Ex.refl h.nw.ex.cl).X).base
  have hlp := h.nw.st.lp
  have hla := h.nw.st.la
  have hlw := h.nw.st.lw
  have hlq := h.od.lq
  have r1 : rf W1.nx 0 = W1.nx := rfl
  have hrun := lok_c hP _ hx0.nw.st hx0.od h.ne (v := .sl 5 true (gL.map Ac.V)) (l := gL) .mk gL_ok (by decide)
  rw [run_g] at hrun
  simp only at hrun
  constructor
  · (rw [guard_if]; simp (config := { maxSteps := 200000 }) (disch := omega) only [BS, BC, ↓reduceIte, Nat.reduceEqDiff, ])
    refine hrun.mono ?_
    rintro _ W2 ⟨rfl, hS2, hO2, hF2⟩
    have k0 : W2.get (rf W.nx 0) = some (.row [.nilptr, .nilptr]) := by rw [hF2.get _ (by simp only [X_nx, rf]; omega) (by omega) (by omega) (by omega) (by omega), X_old (by omega)]; exact g0
    have hn2 := hF2.nx
    simp only [X_nx, rf, List.length_cons, List.length_nil] at hn2
    simp (config := { maxSteps := 200000 }) (disch := omega) only [BS, BC, ↓reduceIte, Nat.reduceEqDiff, reduceCtorEq, BM, BD, Nat.reduceAdd, Nat.reduceLeDiff, k0, put_at]
    exact ⟨_, rfl, _, _, .weak weak_id, by rw [put_nx]; omega, p, ra, rw, q, rfl, (hx0.fa hS2 hO2 hF2).put (by omega) (by omega) (by omega)⟩
  · (rw [guard_if]; simp (config := { maxSteps := 200000 }) (disch := omega) only [BS, BC, ↓reduceIte, Nat.reduceEqDiff, ])
    refine hrun.mono ?_
    rintro _ W2 ⟨rfl, hS2, hO2, hF2⟩
    have k0 : W2.get (rf W.nx 0) = some (.row [.nilptr, .nilptr]) := by rw [hF2.get _ (by simp only [X_nx, rf]; omega) (by omega) (by omega) (by omega) (by omega), X_old (by omega)]; exact g0
    have k1 : W2.get (rf W1.nx 0) = some (.row [.ptr p 0, .ptr q 0]) := by rw [hF2.get _ (by simp only [X_nx, rf, List.length_cons, List.length_nil]; omega) (by omega) (by omega) (by omega) (by omega), X_get]; rfl
    have hn2 := hF2.nx
    simp only [X_nx, rf, List.length_cons, List.length_nil] at hn2
    simp (config := { maxSteps := 200000 }) (disch := omega) only [BS, BC, ↓reduceIte, Nat.reduceEqDiff, reduceCtorEq, BM, BD, Nat.reduceAdd, Nat.reduceLeDiff, k0, k1, put_at]
    exact ⟨_, rfl, _, _, .weak weak_id, by rw [put_nx]; omega, p, ra, rw, q, rfl, (hx0.fa hS2 hO2 hF2).put (by omega) (by omega) (by omega)⟩
end Go.AL.S
set_option maxRecDepth 100000
set_option maxHeartbeats 2000000
namespace Go.AL.S
open Go Go.AL Go.AL.SE Go.Proofs
variable {E : Env}
theorem bs35 {W : AW} {K : V → AW → Prop} {a1 a2 a3 b1 b2 b3 c1 c2 c3 d1 d2 d3 e1 e2 e3 : Int} : sem E (.bslice 3 5 (.agg [.int .u16 0, .int .u16 0, .int .u8 0]) [0, 1, 2, 3, 4]) [.agg [.int .u16 a1, .int .u16 a2, .int .u8 a3], .agg [.int .u16 b1, .int .u16 b2, .int .u8 b3], .agg [.int .u16 c1, .int .u16 c2, .int .u8 c3], .agg [.int .u16 d1, .int .u16 d2, .int .u8 d3], .agg [.int .u16 e1, .int .u16 e2, .int .u8 e3]] W K = K (.sl 3 true (([⟨a1, a2, a3⟩, ⟨b1, b2, b3⟩, ⟨c1, c2, c3⟩, ⟨d1, d2, d3⟩, ⟨e1, e2, e3⟩] : List Ed).map Ed.V)) W := by
  simp [sem, rsem, tsem, fillE, V.cells, Ed.V]
theorem wantG_ok : ∀ e ∈ wantG, ekOk (ofEd e) := by
  intro e he
  simp only [wantG, List.mem_cons, List.not_mem_nil, or_false] at he
  rcases he with rfl | rfl | rfl | rfl | rfl <;> exact ⟨by simp [ofEd], by simp [ofEd], by simp [ofEd]⟩
theorem awake_c (hP : E.P = Tryz.prog) (W : AW) : ACalls E 10 [] W fun Y W' => Y = .bool true ∧ W' = W := by
  refine ACalls.of hP Tryz.func10 ok_awakee (by simp) fun _ hok => ?_
  simp (config := { maxSteps := 200000 }) (disch := omega) only [BS, BC, e_seq, c_awake]
  refine (given_c hP _).mono ?_
  rintro _ W1 ⟨p, ra, rw, q, rfl, h⟩
  have h1 := h.exx (Ex.refl h.nw.ex.cl).X (W2 := X W1 W1.nx [.row [.ptr p 0, .ptr q 0]])
  rw [h.nw.ex.cl.start]
  simp (config := { maxSteps := 200000 }) (disch := omega) only [BS, BC, e_seq, ↓reduceIte, Nat.reduceEqDiff, BM, BD, Nat.reduceAdd, Nat.reduceLeDiff, Nat.reduceLT, e_seq]
  refine (build_c hP _ h1.nw.st h1.od).mono ?_
  rintro _ W2 ⟨g, m, hn, rfl, hG, hE⟩
  have hs := nowGS_S 1 (intsV (nodesR sG))
  have h5 : (nodesR sG).length = 5 := by rw [nodes_g]; rfl
  simp (config := { maxSteps := 200000 }) (disch := omega) only [BS, e_seq, ↓reduceIte, Nat.reduceEqDiff, e_seq]
  (rw [guard_if]; simp (config := { maxSteps := 200000 }) (disch := omega) only [BS, ↓reduceIte, Nat.reduceEqDiff, ])
  (rw [guard_if]; simp (config := { maxSteps := 200000 }) (disch := omega) only [BS, BC, ↓reduceIte, Nat.reduceEqDiff, ])
  refine pc (nodes_c hP _ hG) ?_
  simp (config := { maxSteps := 200000 }) (disch := omega) only [BS]
  (rw [guard_if]; simp (config := { maxSteps := 200000 }) (disch := omega) only [BS, ↓reduceIte, Nat.reduceEqDiff, hs.len, ints_len, h5])
  (rw [guard_if]; simp (config := { maxSteps := 200000 }) (disch := omega) only [BS, ↓reduceIte, Nat.reduceEqDiff, show (((5 : Nat) : Int) == 5) = true by decide])
  (rw [guard_if]; simp (config := { maxSteps := 200000 }) (disch := omega) only [BS, ↓reduceIte, Nat.reduceEqDiff, ])
  (rw [guard_if]; simp (config := { maxSteps := 200000 }) (disch := omega) only [BS, ↓reduceIte, Nat.reduceEqDiff, BM, BD, Nat.reduceAdd, Nat.reduceLeDiff, ])
  (rw [guard_if]; simp (config := { maxSteps := 200000 }) (disch := omega) only [BS, ↓reduceIte, Nat.reduceEqDiff, BM, BD, Nat.reduceAdd, Nat.reduceLeDiff, ])
  (rw [guard_if]; simp (config := { maxSteps := 200000 }) (disch := omega) only [BS, ↓reduceIte, Nat.reduceEqDiff, BM, BD, Nat.reduceAdd, Nat.reduceLeDiff, ])
  (rw [guard_if]; simp (config := { maxSteps := 200000 }) (disch := omega) only [BS, ↓reduceIte, Nat.reduceEqDiff, BM, BD, Nat.reduceAdd, Nat.reduceLeDiff, ])
  (rw [guard_if]; simp (config := { maxSteps := 200000 }) (disch := omega) only [BS, ↓reduceIte, Nat.reduceEqDiff, BM, BD, Nat.reduceAdd, Nat.reduceLeDiff, ])
  (rw [guard_if]; simp (config := { maxSteps := 200000 }) (disch := omega) only [BS, BC, ↓reduceIte, Nat.reduceEqDiff, bs35])
  (rw [guard_if]; simp (config := { maxSteps := 200000 }) (disch := omega) only [BS, BC, ↓reduceIte, Nat.reduceEqDiff, ])
  refine pc (ledges_c hP _ hG (l := wantG) .mk wantG_ok (by decide)) ?_
  rw [edL_g]
  simp (config := { maxSteps := 200000 }) (disch := omega) only [BS, BC, ↓reduceIte, Nat.reduceEqDiff, decide_true]
  exact ⟨_, rfl, _, W, (h1.nw.ex.trans hE).back hok rfl, Nat.le_refl _, rfl, rfl⟩
end Go.AL.S
set_option maxRecDepth 100000
set_option maxHeartbeats 2000000
namespace Go.AL.S
open Go Go.AL Go.AL.SE Go.Proofs
def c_told_0 : AC := (AC.seq (AC.seq (AC.reg [
    ⟨(some 47), .mov, [.t 9], none⟩,
    ⟨(some 48), .mov, [.t 0], none⟩,
    ⟨(some 49), .len 1 0, [.t 48], none⟩,
    ⟨(some 50), .bin .lss, [.t 47, .t 49], none⟩])
   (AC.cond (.t 50)
    AC.skip
    (AC.exit 0)))
   (AC.seq (AC.block 1
    (AC.seq (AC.seq (AC.reg [
     ⟨(some 53), .mov, [.t 0], none⟩,
     ⟨(some 54), .mov, [.t 9], none⟩,
     ⟨(some 55), .idxp 5, [.t 53, .t 54], none⟩,
     ⟨(some 56), .fld 0, [.t 55], none⟩,
     ⟨(some 57), .load false 1, [.t 56], none⟩,
     ⟨(some 58), .bin .rem, [.t 57, .c (.int .u8 6)], none⟩,
     ⟨(some 59), .bin .lss, [.t 58, .c (.int .u8 2)], none⟩])
    (AC.cond (.t 59)
     (AC.seq (AC.par
      (PT.step 1 ⟨(some 61), .mov, [.t 0], none⟩
      (PT.step 2 ⟨(some 62), .mov, [.t 9], none⟩
      (PT.step 0 ⟨(some 60), .load true 2, [.t 3], none⟩
      (PT.step 3 ⟨(some 63), .idxp 5, [.t 61, .t 62], none⟩
      (PT.step 4 ⟨(some 64), .load true 5, [.t 63], none⟩
      (PT.step 5 ⟨(some 65), .call 11, [.t 60, .t 64], none⟩
      PT.done)))))))
     (AC.seq (AC.par
      (PT.step 1 ⟨(some 67), .mov, [.t 0], none⟩
      (PT.step 2 ⟨(some 68), .mov, [.t 9], none⟩
      (PT.step 0 ⟨(some 66), .load true 2, [.t 5], none⟩
      (PT.step 3 ⟨(some 69), .idxp 5, [.t 67, .t 68], none⟩
      (PT.step 4 ⟨(some 70), .load true 5, [.t 69], none⟩
      (PT.step 5 ⟨(some 71), .call 11, [.t 66, .t 70], none⟩
      PT.done)))))))
     (AC.exit 1)))
     AC.skip))
    (AC.seq (AC.reg [
     ⟨(some 72), .mov, [.t 8], none⟩,
     ⟨(some 73), .mov, [.t 0], none⟩,
     ⟨(some 74), .mov, [.t 9], none⟩,
     ⟨(some 75), .idxp 5, [.t 73, .t 74], none⟩,
     ⟨(some 76), .fld 2, [.t 75], none⟩,
     ⟨(some 77), .load false 1, [.t 76], none⟩,
     ⟨(some 78), .lookup (false, [.i .u16]) (.int .i64 0) false, [.t 72, .t 77], none⟩,
     ⟨(some 79), .bin .add, [.t 78, .c (.int .i64 1)], none⟩,
     ⟨none, .mupd (false, [.i .u16]), [.t 72, .t 77, .t 79], none⟩])
    (AC.seq (AC.reg [
     ⟨(some 80), .mov, [.t 8], none⟩,
     ⟨(some 81), .mov, [.t 0], none⟩,
     ⟨(some 82), .mov, [.t 9], none⟩,
     ⟨(some 83), .idxp 5, [.t 81, .t 82], none⟩,
     ⟨(some 84), .fld 2, [.t 83], none⟩,
     ⟨(some 85), .load false 1, [.t 84], none⟩,
     ⟨(some 86), .lookup (false, [.i .u16]) (.int .i64 0) false, [.t 80, .t 85], none⟩,
     ⟨(some 87), .bin .eql, [.t 86, .c (.int .i64 1)], none⟩])
    (AC.cond (.t 87)
     (AC.reg [
      ⟨(some 88), .mov, [.t 7], none⟩,
      ⟨(some 89), .mov, [.t 0], none⟩,
      ⟨(some 90), .mov, [.t 9], none⟩,
      ⟨(some 91), .idxp 5, [.t 89, .t 90], none⟩,
      ⟨(some 92), .load true 5, [.t 91], none⟩,
      ⟨(some 93), .bslice 5 1 (.agg [.int .u8 0, .int .u8 0, .int .u16 0, .nilsl, .nilsl]) [0], [.t 92], none⟩,
      ⟨(some 94), .append 5 56, [.t 88, .t 93], none⟩,
      ⟨(some 7), .mov, [.t 94], none⟩])
     AC.skip)))))
   (AC.reg [
    ⟨(some 51), .mov, [.t 9], none⟩,
    ⟨(some 52), .bin .add, [.t 51, .c (.int .i64 1)], none⟩,
    ⟨(some 9), .mov, [.t 52], none⟩])))
def c_told_1 : AC := (AC.seq (AC.seq (AC.reg [
    ⟨(some 95), .mov, [.t 11], none⟩,
    ⟨(some 96), .mov, [.t 7], none⟩,
    ⟨(some 97), .len 1 0, [.t 96], none⟩,
    ⟨(some 98), .bin .lss, [.t 95, .t 97], none⟩])
   (AC.cond (.t 98)
    AC.skip
    (AC.exit 2)))
   (AC.seq (AC.block 3
    (AC.seq (AC.par
     (PT.step 1 ⟨(some 103), .mov, [.t 7], none⟩
     (PT.step 2 ⟨(some 104), .mov, [.t 11], none⟩
     (PT.step 0 ⟨(some 102), .load true 2, [.t 3], none⟩
     (PT.step 3 ⟨(some 105), .idxp 5, [.t 103, .t 104], none⟩
     (PT.step 4 ⟨(some 106), .load true 5, [.t 105], none⟩
     (PT.step 5 ⟨(some 107), .call 11, [.t 102, .t 106], none⟩
     (PT.step 6 ⟨(some 101), .mov, [.t 107], none⟩
     (PT.step 7 ⟨(some 108), .ext 0, [.t 101], none⟩
     (PT.step 8 ⟨(some 109), .ext 1, [.t 101], none⟩
     (PT.step 9 ⟨(some 12), .mov, [.t 108], none⟩
     (PT.step 10 ⟨(some 13), .mov, [.t 109], none⟩
     PT.done))))))))))))
    (AC.seq (AC.par
     (PT.step 1 ⟨(some 112), .mov, [.t 7], none⟩
     (PT.step 2 ⟨(some 113), .mov, [.t 7], none⟩
     (PT.step 5 ⟨(some 116), .mov, [.t 11], none⟩
     (PT.step 0 ⟨(some 111), .load true 2, [.t 5], none⟩
     (PT.step 3 ⟨(some 114), .len 1 0, [.t 113], none⟩
     (PT.step 4 ⟨(some 115), .bin .sub, [.t 114, .c (.int .i64 1)], none⟩
     (PT.step 6 ⟨(some 117), .bin .sub, [.t 115, .t 116], none⟩
     (PT.step 7 ⟨(some 118), .idxp 5, [.t 112, .t 117], none⟩
     (PT.step 8 ⟨(some 119), .load true 5, [.t 118], none⟩
     (PT.step 9 ⟨(some 120), .call 11, [.t 111, .t 119], none⟩
     (PT.step 10 ⟨(some 110), .mov, [.t 120], none⟩
     (PT.step 11 ⟨(some 121), .ext 0, [.t 110], none⟩
     (PT.step 12 ⟨(some 122), .ext 1, [.t 110], none⟩
     (PT.step 13 ⟨(some 14), .mov, [.t 121], none⟩
     (PT.step 14 ⟨(some 15), .mov, [.t 122], none⟩
     PT.done))))))))))))))))
    (AC.reg [
     ⟨(some 123), .mov, [.t 10], none⟩,
     ⟨(some 124), .mov, [.t 123], none⟩,
     ⟨(some 125), .mov, [.t 13], (some (124, true))⟩,
     ⟨(some 126), .pick, [.t 124, .t 125, .c (.bool false)], none⟩,
     ⟨(some 127), .mov, [.t 126], none⟩,
     ⟨(some 128), .mov, [.t 15], (some (127, true))⟩,
     ⟨(some 129), .pick, [.t 127, .t 128, .c (.bool false)], none⟩,
     ⟨(some 10), .mov, [.t 129], none⟩]))))
   (AC.reg [
    ⟨(some 99), .mov, [.t 11], none⟩,
    ⟨(some 100), .bin .add, [.t 99, .c (.int .i64 1)], none⟩,
    ⟨(some 11), .mov, [.t 100], none⟩])))
/- umpire/umpirelaw27.GraphTold -/
def c_told : AC := (AC.seq (AC.reg [
  ⟨(some 2), .mov, [.c (.bool false)], none⟩])
 (AC.seq (AC.reg [
  ⟨(some 21), .call 8, [], none⟩,
  ⟨(some 20), .mov, [.t 21], none⟩,
  ⟨(some 22), .ext 0, [.t 20], none⟩,
  ⟨(some 23), .ext 1, [.t 20], none⟩,
  ⟨(some 3), .alloc [.nilptr, .nilptr], [], none⟩,
  ⟨none, .store 2, [.t 3, .t 22], none⟩,
  ⟨(some 4), .mov, [.t 23], none⟩])
 (AC.seq (AC.reg [
  ⟨(some 25), .call 8, [], none⟩,
  ⟨(some 24), .mov, [.t 25], none⟩,
  ⟨(some 26), .ext 0, [.t 24], none⟩,
  ⟨(some 27), .ext 1, [.t 24], none⟩,
  ⟨(some 5), .alloc [.nilptr, .nilptr], [], none⟩,
  ⟨none, .store 2, [.t 5, .t 26], none⟩,
  ⟨(some 6), .mov, [.t 27], none⟩])
 (AC.seq (AC.seq (AC.reg [
  ⟨(some 28), .mov, [.t 0], none⟩,
  ⟨(some 29), .call 9, [.t 28], none⟩,
  ⟨(some 30), .un .not, [.t 29], none⟩,
  ⟨(some 31), .mov, [.t 30], none⟩,
  ⟨(some 32), .mov, [.t 4], (some (31, false))⟩,
  ⟨(some 33), .un .not, [.t 32], (some (31, false))⟩,
  ⟨(some 34), .pick, [.t 31, .c (.bool true), .t 33], none⟩,
  ⟨(some 35), .mov, [.t 34], none⟩,
  ⟨(some 36), .mov, [.t 6], (some (35, false))⟩,
  ⟨(some 37), .un .not, [.t 36], (some (35, false))⟩,
  ⟨(some 38), .pick, [.t 35, .c (.bool true), .t 37], none⟩])
 (AC.cond (.t 38)
  (AC.seq (AC.reg [
   ⟨(some 39), .mov, [.t 4], none⟩,
   ⟨(some 40), .mov, [.t 39], none⟩,
   ⟨(some 41), .mov, [.t 6], (some (40, true))⟩,
   ⟨(some 42), .pick, [.t 40, .t 41, .c (.bool false)], none⟩,
   ⟨(some 43), .mov, [.t 42], none⟩,
   ⟨(some 44), .call 10, [], (some (43, true))⟩,
   ⟨(some 45), .pick, [.t 43, .t 44, .c (.bool false)], none⟩,
   ⟨(some 2), .mov, [.t 45], none⟩])
  AC.ret)
  AC.skip))
 (AC.seq (AC.reg [
  ⟨(some 7), .mov, [.c (.nilsl)], none⟩])
 (AC.seq (AC.reg [
  ⟨(some 46), .mkmap, [], none⟩,
  ⟨(some 8), .mov, [.t 46], none⟩])
 (AC.seq (AC.seq (AC.reg [
  ⟨(some 9), .mov, [.c (.int .i64 0)], none⟩])
 (AC.block 0
  (AC.loop c_told_0)))
 (AC.seq (AC.reg [
  ⟨(some 10), .mov, [.c (.bool true)], none⟩])
 (AC.seq (AC.seq (AC.reg [
  ⟨(some 11), .mov, [.c (.int .i64 0)], none⟩])
 (AC.block 2
  (AC.loop c_told_1)))
 (AC.seq (AC.seq (AC.reg [
  ⟨(some 130), .mov, [.t 10], none⟩,
  ⟨(some 131), .un .not, [.t 130], none⟩])
 (AC.cond (.t 131)
  (AC.seq (AC.reg [
   ⟨(some 132), .call 10, [], none⟩,
   ⟨(some 2), .mov, [.t 132], none⟩])
  AC.ret)
  AC.skip))
 (AC.seq (AC.par
  (PT.step 0 ⟨(some 133), .fld 0, [.t 3], none⟩
  (PT.step 2 ⟨(some 135), .fld 1, [.t 3], none⟩
  (PT.step 5 ⟨(some 138), .fld 0, [.t 5], none⟩
  (PT.step 7 ⟨(some 140), .fld 1, [.t 5], none⟩
  (PT.step 1 ⟨(some 134), .load false 1, [.t 133], none⟩
  (PT.step 3 ⟨(some 136), .load false 1, [.t 135], none⟩
  (PT.alt
   (PT.step 4 ⟨(some 137), .call 12, [.t 134, .t 136], none⟩
   (PT.step 6 ⟨(some 139), .load false 1, [.t 138], none⟩
   (PT.step 8 ⟨(some 141), .load false 1, [.t 140], none⟩
   (PT.step 9 ⟨(some 142), .call 12, [.t 139, .t 141], none⟩
   (PT.step 10 ⟨(some 16), .mov, [.t 137], none⟩
   (PT.step 11 ⟨(some 17), .mov, [.t 142], none⟩
   PT.done))))))
   (PT.alt
    (PT.step 6 ⟨(some 139), .load false 1, [.t 138], none⟩
    (PT.alt
     (PT.step 4 ⟨(some 137), .call 12, [.t 134, .t 136], none⟩
     (PT.step 8 ⟨(some 141), .load false 1, [.t 140], none⟩
     (PT.step 9 ⟨(some 142), .call 12, [.t 139, .t 141], none⟩
     (PT.step 10 ⟨(some 16), .mov, [.t 137], none⟩
     (PT.step 11 ⟨(some 17), .mov, [.t 142], none⟩
     PT.done)))))
     (PT.step 8 ⟨(some 141), .load false 1, [.t 140], none⟩
     (PT.step 4 ⟨(some 137), .call 12, [.t 134, .t 136], none⟩
     (PT.step 9 ⟨(some 142), .call 12, [.t 139, .t 141], none⟩
     (PT.step 10 ⟨(some 16), .mov, [.t 137], none⟩
     (PT.step 11 ⟨(some 17), .mov, [.t 142], none⟩
     PT.done)))))))
    (PT.step 8 ⟨(some 141), .load false 1, [.t 140], none⟩
    (PT.alt
     (PT.step 4 ⟨(some 137), .call 12, [.t 134, .t 136], none⟩
     (PT.step 6 ⟨(some 139), .load false 1, [.t 138], none⟩
     (PT.step 9 ⟨(some 142), .call 12, [.t 139, .t 141], none⟩
     (PT.step 10 ⟨(some 16), .mov, [.t 137], none⟩
     (PT.step 11 ⟨(some 17), .mov, [.t 142], none⟩
     PT.done)))))
     (PT.step 6 ⟨(some 139), .load false 1, [.t 138], none⟩
     (PT.step 4 ⟨(some 137), .call 12, [.t 134, .t 136], none⟩
     (PT.step 9 ⟨(some 142), .call 12, [.t 139, .t 141], none⟩
     (PT.step 10 ⟨(some 16), .mov, [.t 137], none⟩
     (PT.step 11 ⟨(some 17), .mov, [.t 142], none⟩
     PT.done))))))))))))))))
 (AC.seq (AC.reg [
  ⟨(some 144), .mov, [.t 16], none⟩,
  ⟨(some 145), .call 13, [.t 144], none⟩,
  ⟨(some 143), .mov, [.t 145], none⟩,
  ⟨(some 146), .ext 0, [.t 143], none⟩,
  ⟨(some 147), .ext 1, [.t 143], none⟩,
  ⟨(some 18), .mov, [.t 146], none⟩,
  ⟨(some 19), .mov, [.t 147], none⟩])
 (AC.seq (AC.reg [
  ⟨(some 148), .mov, [.t 19], none⟩,
  ⟨(some 149), .mov, [.t 148], none⟩,
  ⟨(some 150), .mov, [.t 17], (some (149, true))⟩,
  ⟨(some 151), .mov, [.t 18], (some (149, true))⟩,
  ⟨(some 152), .call 14, [.t 150, .t 151], (some (149, true))⟩,
  ⟨(some 153), .pick, [.t 149, .t 152, .c (.bool false)], none⟩,
  ⟨(some 154), .mov, [.t 153], none⟩,
  ⟨(some 155), .mov, [.t 16], (some (154, true))⟩,
  ⟨(some 156), .call 15, [.t 155], (some (154, true))⟩,
  ⟨(some 157), .len 1 0, [.t 156], (some (154, true))⟩,
  ⟨(some 158), .mov, [.t 17], (some (154, true))⟩,
  ⟨(some 159), .call 15, [.t 158], (some (154, true))⟩,
  ⟨(some 160), .len 1 0, [.t 159], (some (154, true))⟩,
  ⟨(some 161), .bin .eql, [.t 157, .t 160], (some (154, true))⟩,
  ⟨(some 162), .pick, [.t 154, .t 161, .c (.bool false)], none⟩,
  ⟨(some 163), .mov, [.t 162], none⟩,
  ⟨(some 164), .call 10, [], (some (163, true))⟩,
  ⟨(some 165), .pick, [.t 163, .t 164, .c (.bool false)], none⟩,
  ⟨(some 2), .mov, [.t 165], none⟩])
 AC.ret)))))))))))))
def r_told : AC × List RT × Nat := (c_told, [.tmp 2], 166)
theorem ok_tolde : compF Tryz.prog Tryz.f3 ⟨false, true, []⟩ = some r_told := by kernel_rfl
variable {E : Env}
/-! a map from IDs to how often they were met -/
structure MetOk (es : List En) (M : List Int) : Prop where
  key : ∀ e ∈ es, ∃ n : Int, e.1 = .int .u16 n ∧ 0 ≤ n ∧ n < 65536
  val : ∀ i : Int, (findK (.int .u16 i) es).map (·.2.1) = if i ∈ M then some (.int .i64 (M.count i)) else none
theorem met_keys {es : List En} {M : List Int} (h : MetOk es M) {i : Int} (h0 : 0 ≤ i) (h1 : i < 65536) : keysOk (false, [.i .u16]) (.int .u16 i) es := by
  refine ⟨u16_has h0 h1, fun e he => ?_⟩
  obtain ⟨n, e1, a, b⟩ := h.key e he
  rw [e1]; exact u16_has a b
theorem met_look {es : List En} {M : List Int} (h : MetOk es M) {sh : Bool × List SK} (i : Int) {k : V → Prop} : lookK sh (.int .i64 0) false (.int .u16 i) es k = k (.int .i64 (M.count i)) := by
  unfold lookK
  rw [h.val i]
  by_cases hm : i ∈ M
  · rw [if_pos hm]; rfl
  · rw [if_neg hm, List.count_eq_zero_of_not_mem hm]; rfl
theorem find_upd {i k : Int} {v : V} : ∀ {es : List En}, (∀ e ∈ es, ∃ n : Int, e.1 = .int .u16 n ∧ 0 ≤ n ∧ n < 65536) → (findK (.int .u16 i) (updK (.int .u16 k) v es)).map (·.2.1) = if i = k ∧ (findK (.int .u16 k) es).isSome = true then some v else (findK (.int .u16 i) es).map (·.2.1)
  | [], _ => by simp [updK, findK]
  | e :: es, h => by
    obtain ⟨n, e1, _, _⟩ := h e (by simp)
    have ih := find_upd (i := i) (k := k) (v := v) (es := es) fun x hx => h x (by simp [hx])
    simp only [updK, findK, e1, keq_int]
    by_cases c1 : k = n
    · by_cases c2 : i = k
      · have : i = n := c2.trans c1
        simp [c1, this, findK, keq_int]
      · have : ¬ i = n := fun e => c2 (e.trans c1.symm)
        simp [c1, this, findK, keq_int]
    · by_cases c2 : i = n
      · have : ¬ i = k := fun e => c1 (e.symm.trans c2)
        subst c2
        simp [c1, this, findK, e1, keq_int]
      · simp only [decide_eq_false c1, Bool.false_eq_true, if_false, findK, e1, keq_int, decide_eq_false c2]
        exact ih
theorem met_bump {es : List En} {M : List Int} (h : MetOk es M) {k : Int} (h0 : 0 ≤ k) (h1 : k < 65536) (c : Nat) : MetOk (mset (.int .u16 k) (.int .i64 (M.count k + 1)) es c).1 (M ++ [k]) := by
  have hcnt : ∀ i : Int, (M ++ [k]).count i = if i = k then M.count k + 1 else M.count i := by
    intro i
    rw [List.count_append]
    by_cases e : i = k
    · subst e; simp
    · have : ¬ k = i := fun h => e h.symm
      simp [e, this]
  unfold mset
  cases hf : findK (.int .u16 k) es with
  | some e =>
    have hfs : (findK (.int .u16 k) es).isSome = true := by rw [hf]; rfl
    refine ⟨fun x hx => ?_, fun i => ?_⟩
    · have : ∀ {es : List En}, (∀ e ∈ es, ∃ n : Int, e.1 = .int .u16 n ∧ 0 ≤ n ∧ n < 65536) → ∀ x ∈ updK (.int .u16 k) (.int .i64 (M.count k + 1)) es, ∃ n : Int, x.1 = .int .u16 n ∧ 0 ≤ n ∧ n < 65536 := by
        intro es
        induction es with
        | nil => intro _ x hx; simp [updK] at hx
        | cons e es ih =>
          intro h x hx
          simp only [updK] at hx
          split at hx
          · rcases List.mem_cons.1 hx with rfl | hx
            · exact ⟨k, rfl, h0, h1⟩
            · exact h x (by simp [hx])
          · rcases List.mem_cons.1 hx with rfl | hx
            · exact h x (by simp)
            · exact ih (fun y hy => h y (by simp [hy])) x hx
      exact this h.key x hx
    · simp only
      rw [find_upd h.key, hcnt]
      by_cases e : i = k
      · subst e; simp [hfs]
      · have : ¬ k = i := fun h => e h.symm
        rw [if_neg (fun h => e h.1), h.val i]
        simp [e]
  | none =>
    refine ⟨fun x hx => ?_, fun i => ?_⟩
    · rcases List.mem_append.1 hx with hx | hx
      · exact h.key x hx
      · rw [List.mem_singleton.1 hx]; exact ⟨k, rfl, h0, h1⟩
    · simp only
      rw [findK_app, hcnt]
      have hv := h.val i
      by_cases e : i = k
      · subst e
        rw [hf]
        simp [findK, keq_int]
      · have : ¬ i = k := e
        cases hi : findK (.int .u16 i) es with
        | none =>
          rw [hi] at hv
          simp [findK, keq_int, e]
          by_cases hm : i ∈ M
          · rw [if_pos hm] at hv; simp at hv
          · exact hm
        | some x =>
          rw [hi] at hv
          by_cases hm : i ∈ M
          · rw [if_pos hm] at hv
            simp at hv
            simp [hm, e, hv]
          · rw [if_neg hm] at hv; simp at hv
/-! two stores -/
theorem Sx.sep {W W1 W2 : AW} {p ra rw q p' ra' rw' q' : Nat} {s' : Str} {os' : Ods} (h : Sx W W1 p' ra' rw' q' s' os') (hF : Fa W1 W2 p ra rw q) (hd : ∀ x, x = p' ∨ x = ra' ∨ x = rw' ∨ x = q' → x ≠ p ∧ x ≠ ra ∧ x ≠ rw ∧ x ≠ q) (hw : W.nx ≤ p ∧ W.nx ≤ ra ∧ W.nx ≤ rw ∧ W.nx ≤ q) : Sx W W2 p' ra' rw' q' s' os' := by
  have l1 := h.nw.st.lp
  have l2 := h.nw.st.la
  have l3 := h.nw.st.lw
  have l4 := h.od.lq
  have hg : ∀ x, x < W1.nx → (x = p' ∨ x = ra' ∨ x = rw' ∨ x = q') → W2.get x = W1.get x := fun x hx hc => by
    obtain ⟨a, b, c, d⟩ := hd x hc
    exact hF.get x hx a b c d
  have hn := h.nw.ex.nx
  exact ⟨⟨h.nw.st.by hF.nx (hg _ l1 (by simp)) (hg _ l2 (by simp)) (hg _ l3 (by simp)), ⟨hF.cl, Nat.le_trans hn hF.nx, fun x hx => by rw [hF.get x (by omega) (by omega) (by omega) (by omega) (by omega)]; exact h.nw.ex.get x hx⟩, h.nw.hp, h.nw.ha, h.nw.hw⟩, h.od.by hF.nx (hg _ l4 (by simp)), h.hq, h.ne⟩
theorem nowG.fa {W1 W2 : AW} {h : V} {xs : List V} {c lo p ra rw q : Nat} {s : Str} {os : Ods} (hn : nowG W1 h xs c lo) (hF : Fa W1 W2 p ra rw q) (hS : St W1 p ra rw s) (hO : Od W1 q os) : nowG W2 h xs c lo := by
  refine hn.to hF.nx fun r _ hr ⟨ys, hy⟩ => hF.get r hr ?_ ?_ ?_ ?_
  · rintro rfl; rw [hS.hp] at hy; cases hy
  · rintro rfl; rw [hS.ha] at hy; cases hy
  · rintro rfl; obtain ⟨ws, cw, hw, _⟩ := hS.hw; rw [hw] at hy; cases hy
  · rintro rfl; rw [hO.hq] at hy; cases hy
theorem row_fa {W1 W2 : AW} {a b p ra rw q x : Nat} {s : Str} {os : Ods} (hx : W1.get x = some (.row [.ptr a 0, .ptr b 0])) (hl : x < W1.nx) (hF : Fa W1 W2 p ra rw q) (hS : St W1 p ra rw s) (hO : Od W1 q os) : W2.get x = some (.row [.ptr a 0, .ptr b 0]) := by
  rw [hF.get x hl, hx]
  · rintro rfl; rw [hS.hp] at hx; simp at hx
  · rintro rfl; rw [hS.ha] at hx; simp at hx
  · rintro rfl; obtain ⟨ws, cw, hw, _⟩ := hS.hw; rw [hw] at hx; simp at hx
  · rintro rfl; rw [hO.hq] at hx; simp at hx
theorem map_fa {W1 W2 : AW} {p ra rw q m c : Nat} {es : List En} {s : Str} {os : Ods} (hx : W1.get m = some (.map es c)) (hl : m < W1.nx) (hF : Fa W1 W2 p ra rw q) (hS : St W1 p ra rw s) (hO : Od W1 q os) (h1 : m ≠ ra) (h2 : m ≠ rw) : W2.get m = some (.map es c) := by
  rw [hF.get m hl _ h1 h2, hx]
  · rintro rfl; rw [hO.hq] at hx; simp at hx
  · rintro rfl; rw [hS.hp] at hx; simp at hx
end Go.AL.S
set_option maxRecDepth 100000
set_option maxHeartbeats 2000000
namespace Go.AL.S
open Go Go.AL Go.AL.SE Go.Proofs
variable {E : Env}
structure Tw (W W1 : AW) (p ra rw q p' ra' rw' q' c3 c5 : Nat) (s : Str) (o : Ods) (s' : Str) (o' : Ods) : Prop where
  hx : Sx W W1 p ra rw q s o
  hy : Sx W W1 p' ra' rw' q' s' o'
  g3 : W1.get c3 = some (.row [.ptr p 0, .ptr q 0])
  g5 : W1.get c5 = some (.row [.ptr p' 0, .ptr q' 0])
  l3 : c3 < W1.nx
  l5 : c5 < W1.nx
  d : ∀ x y, x = p' ∨ x = ra' ∨ x = rw' ∨ x = q' → y = p ∨ y = ra ∨ y = rw ∨ y = q → x ≠ y
section
variable {W W1 W2 : AW} {p ra rw q p' ra' rw' q' c3 c5 : Nat} {s : Str} {o : Ods} {s' : Str} {o' : Ods} {s1 : Str} {o1 : Ods}
theorem Tw.x (T : Tw W W1 p ra rw q p' ra' rw' q' c3 c5 s o s' o') (hS : St W2 p ra rw s1) (hO : Od W2 q o1) (hF : Fa W1 W2 p ra rw q) : Tw W W2 p ra rw q p' ra' rw' q' c3 c5 s1 o1 s' o' := by
  have a := T.l3
  have b := T.l5
  have c := hF.nx
  have w1 := T.hx.nw.hp
  have w2 := T.hx.nw.ha
  have w3 := T.hx.nw.hw
  have w4 := T.hx.hq
  exact ⟨T.hx.fa hS hO hF, T.hy.sep hF (fun x hx => ⟨T.d x p hx (by simp), T.d x ra hx (by simp), T.d x rw hx (by simp), T.d x q hx (by simp)⟩) ⟨w1, w2, w3, w4⟩, row_fa T.g3 T.l3 hF T.hx.nw.st T.hx.od, row_fa T.g5 T.l5 hF T.hx.nw.st T.hx.od, by omega, by omega, T.d⟩
theorem Tw.y (T : Tw W W1 p ra rw q p' ra' rw' q' c3 c5 s o s' o') (hS : St W2 p' ra' rw' s1) (hO : Od W2 q' o1) (hF : Fa W1 W2 p' ra' rw' q') : Tw W W2 p ra rw q p' ra' rw' q' c3 c5 s o s1 o1 := by
  have a := T.l3
  have b := T.l5
  have c := hF.nx
  have w1 := T.hy.nw.hp
  have w2 := T.hy.nw.ha
  have w3 := T.hy.nw.hw
  have w4 := T.hy.hq
  exact ⟨T.hx.sep hF (fun x hx => ⟨fun e => T.d p' x (by simp) hx e.symm, fun e => T.d ra' x (by simp) hx e.symm, fun e => T.d rw' x (by simp) hx e.symm, fun e => T.d q' x (by simp) hx e.symm⟩) ⟨w1, w2, w3, w4⟩, T.hy.fa hS hO hF, row_fa T.g3 T.l3 hF T.hy.nw.st T.hy.od, row_fa T.g5 T.l5 hF T.hy.nw.st T.hy.od, by omega, by omega, T.d⟩
theorem Sx.same (h : Sx W W1 p ra rw q s o) (hC : Cl W2) (hn : W1.nx ≤ W2.nx) (hx : ∀ x, x < W1.nx → (x < W.nx ∨ x = p ∨ x = ra ∨ x = rw ∨ x = q) → W2.get x = W1.get x) : Sx W W2 p ra rw q s o := by
  have l1 := h.nw.st.lp
  have l2 := h.nw.st.la
  have l3 := h.nw.st.lw
  have l4 := h.od.lq
  have hn0 := h.nw.ex.nx
  exact ⟨⟨h.nw.st.by hn (hx _ l1 (by simp)) (hx _ l2 (by simp)) (hx _ l3 (by simp)), ⟨hC, Nat.le_trans hn0 hn, fun x hx' => by rw [hx x (by omega) (.inl hx')]; exact h.nw.ex.get x hx'⟩, h.nw.hp, h.nw.ha, h.nw.hw⟩, h.od.by hn (hx _ l4 (by simp)), h.hq, h.ne⟩
/-- What else is written makes no difference. -/
theorem Tw.same (T : Tw W W1 p ra rw q p' ra' rw' q' c3 c5 s o s' o') (hC : Cl W2) (hn : W1.nx ≤ W2.nx) (hx : ∀ x, x < W1.nx → (x < W.nx ∨ (x = p ∨ x = ra ∨ x = rw ∨ x = q) ∨ (x = p' ∨ x = ra' ∨ x = rw' ∨ x = q') ∨ x = c3 ∨ x = c5) → W2.get x = W1.get x) : Tw W W2 p ra rw q p' ra' rw' q' c3 c5 s o s' o' := by
  have a := T.l3
  have b := T.l5
  exact ⟨T.hx.same hC hn fun x h1 h2 => hx x h1 (by rcases h2 with h | h; exact .inl h; exact .inr (.inl h)), T.hy.same hC hn fun x h1 h2 => hx x h1 (by rcases h2 with h | h; exact .inl h; exact .inr (.inr (.inl h))), (hx _ a (by simp)).trans T.g3, (hx _ b (by simp)).trans T.g5, by omega, by omega, T.d⟩
theorem Tw.ex (T : Tw W W1 p ra rw q p' ra' rw' q' c3 c5 s o s' o') (hE : Ex W1 W2) : Tw W W2 p ra rw q p' ra' rw' q' c3 c5 s o s' o' :=
  T.same hE.cl hE.nx fun x h _ => hE.get x h
end
theorem ac_fld0 {W : AW} {K : V → AW → Prop} {a : Ac} : sem E (.fld 0) [.cptr a.V.cells] W K = K (.cptr [.int .u8 a.what, .int .u8 a.client, .int .u16 a.id, a.tx, a.rd]) W := by
  simp [Ac.V, V.cells, sem, rsem, tsem]
theorem ac_fld2 {W : AW} {K : V → AW → Prop} {a : Ac} : sem E (.fld 2) [.cptr a.V.cells] W K = K (.cptr [.int .u16 a.id, a.tx, a.rd]) W := by
  simp [Ac.V, V.cells, sem, rsem, tsem]
theorem bs5 {W : AW} {K : V → AW → Prop} {a : Ac} : sem E (.bslice 5 1 (.agg [.int .u8 0, .int .u8 0, .int .u16 0, .nilsl, .nilsl]) [0]) [a.V] W K = K (.sl 5 true [a.V]) W := by
  simp [sem, rsem, tsem, fillE, V.cells, Ac.V]
theorem ac_ones {a : Ac} (h : a.ok) : a.V.cells.all V.one = true := by
  obtain ⟨xs, i1, _⟩ := h.rdS
  simp only [Ac.V, cells_agg, List.all_cons, List.all_nil, one_int, h.tx.one, i1.one, Bool.and_self]
theorem w6_range {a : Ac} (h : a.ok) : 0 ≤ w6 a ∧ w6 a < 6 := ⟨Int.tmod_nonneg _ h.wh.1, Int.tmod_lt_of_pos _ (by decide)⟩
theorem actG_begin {s : Str} {o : Ods} {a : Ac} (h0 : 0 ≤ w6 a) (h : w6 a < 2) : (actG s o a).2.1 = o ∧ (actG s o a).1 = (beginR s a.client a.id a.txl).1 := by
  unfold actG
  rw [if_neg (by omega), if_neg (by omega), if_neg (by omega)]
  exact ⟨rfl, rfl⟩
/-- Begins are told to both; of each transaction, the first end is kept. -/
theorem told0_go (hP : E.P = Tryz.prog) {W W0 : AW} {p ra rw q p' ra' rw' q' c3 c5 mt lo : Nat} (T0 : Tw W W0 p ra rw q p' ra' rw' q' c3 c5 [] os0 [] os0) (hlo : lo ≤ W0.nx) (hll : p < lo ∧ ra < lo ∧ rw < lo ∧ q < lo ∧ p' < lo ∧ ra' < lo ∧ rw' < lo ∧ q' < lo ∧ c3 < lo ∧ c5 < lo ∧ W.nx ≤ lo) (gm0 : W0.get mt = some (.map [] 0)) (hml : mt < W0.nx) (hmw : W.nx ≤ mt) (hmt : mt < lo) (hm4 : mt ≠ ra ∧ mt ≠ rw ∧ mt ≠ ra' ∧ mt ≠ rw')
    {v : V} {l : List Ac} (hv : isS 5 v (l.map Ac.V)) (ha : ∀ a ∈ l, a.ok ∧ a.small) (hl : l.length ≤ 60) {A : AFr} {Q : Exit → AFr → AW → Prop}
    (a0 : A 0 = some v) (a3 : A 3 = some (.ptr c3 0)) (a5 : A 5 = some (.ptr c5 0)) (a7 : A 7 = some .nilsl) (a8 : A 8 = some (.map mt)) (a9 : A 9 = some (.int .i64 0))
    (hQ : ∀ A' W' s (El : List Ac) h, A' 0 = some v → A' 3 = some (.ptr c3 0) → A' 5 = some (.ptr c5 0) → A' 7 = some h → Tw W W' p ra rw q p' ra' rw' q' c3 c5 s os0 s os0 → nowG W' h (El.map Ac.V) 5 lo → W0.nx ≤ W'.nx → (∀ a ∈ El, isEnd a ∧ a.ok ∧ a.small) → (El.map Ac.id).Nodup → El.length ≤ 60 → Q (.exit 0) A' W') : ALoop (awp E c_told_0) Q A W0 := by
  refine ALoop.go (B := awp E _) (fun h => awp_mono _ h) (fun (σ : Nat × Str × List Int × List Ac × List En × Nat × V) A1 W1 => A1 0 = some v ∧ A1 3 = some (.ptr c3 0) ∧ A1 5 = some (.ptr c5 0) ∧ A1 7 = some σ.2.2.2.2.2.2 ∧ A1 8 = some (.map mt) ∧ A1 9 = some (.int .i64 σ.1) ∧ σ.1 ≤ l.length ∧
      Tw W W1 p ra rw q p' ra' rw' q' c3 c5 σ.2.1 os0 σ.2.1 os0 ∧ nowG W1 σ.2.2.2.2.2.2 (σ.2.2.2.1.map Ac.V) 5 lo ∧ W0.nx ≤ W1.nx ∧ W1.get mt = some (.map σ.2.2.2.2.1 σ.2.2.2.2.2.1) ∧ MetOk σ.2.2.2.2.1 σ.2.2.1 ∧ σ.2.2.1.length ≤ σ.1 ∧ σ.2.2.2.1.length ≤ σ.1 ∧
      (∀ a ∈ σ.2.2.2.1, isEnd a ∧ a.ok ∧ a.small ∧ a.id ∈ σ.2.2.1) ∧ (σ.2.2.2.1.map Ac.id).Nodup) (fun σ => l.length - σ.1) (0, [], [], [], [], 0, .nilsl)
    ⟨a0, a3, a5, a7, a8, a9, Nat.zero_le _, T0, .inl ⟨rfl, rfl⟩, Nat.le_refl _, gm0, ⟨by simp, fun i => by simp [findK]⟩, Nat.le_refl _, Nat.le_refl _, by simp, List.nodup_nil⟩ ?_
  rintro ⟨k, s, M, El, es, c, h⟩ A1 W1 ⟨q0, q3, q5, q7, q8, q9, gk, T, gh, gn, gm, gM, gml, gel, ge, gnd⟩ _
  simp only at q7 q9 gk T gh gm gM gml gel ge gnd
  by_cases hk1 : k < l.length
  · have hat : (l.map Ac.V)[k]? = some l[k].V := by simp [hk1]
    obtain ⟨hak, hks⟩ := ha _ (List.getElem_mem hk1)
    generalize l[k] = a at hat hak hks
    have hw := w6_range hak
    have g3 := T.g3
    have g5 := T.g5
    by_cases h2 : w6 a < 2
    · have h2' : decide (a.what.tmod 6 < 2) = true := decide_eq_true h2
      obtain ⟨b1, b2⟩ := actG_begin (s := s) (o := os0) hw.1 h2
      simp (config := { maxSteps := 2000000 }) (disch := omega) only [c_told_0, BS, BC, e_seq, cond_if, ↓reduceIte, Nat.reduceEqDiff, reduceCtorEq, BM, BD, Nat.reduceAdd, Nat.reduceLeDiff, q0, q3, q9, hv.len, List.length_map, clt, hk1, decide_true, hv.idx hat, ac_fld0, m_rem6, h2', g3, ac_load, ac_frz]
      refine (act_c hP _ T.hx.nw.st T.hx.od T.hx.ne hak hks).mono ?_
      rintro _ W2 ⟨rfl, hS2, hO2, hF2⟩
      have gh2 := gh.fa hF2 T.hx.nw.st T.hx.od
      have T2 := T.x hS2 hO2 hF2
      have gm2 := map_fa gm (by omega) hF2 T.hx.nw.st T.hx.od hm4.1 hm4.2.1
      have g52 := T2.g5
      simp (config := { maxSteps := 2000000 }) (disch := omega) only [BS, BC, e_seq, ↓reduceIte, Nat.reduceEqDiff, reduceCtorEq, BM, BD, Nat.reduceAdd, Nat.reduceLeDiff, q0, q5, q9, hv.idx hat, g52, ac_load, ac_frz]
      refine (act_c hP _ T2.hy.nw.st T2.hy.od T2.hy.ne hak hks).mono ?_
      rintro _ W3 ⟨rfl, hS3, hO3, hF3⟩
      have gh3 := gh2.fa hF3 T2.hy.nw.st T2.hy.od
      have T3 := T2.y hS3 hO3 hF3
      have hn2 := hF2.nx
      have hn3 := hF3.nx
      have gm3 := map_fa gm2 (by omega) hF3 T2.hy.nw.st T2.hy.od hm4.2.2.1 hm4.2.2.2
      rw [b1] at T3
      simp (config := { maxSteps := 2000000 }) (disch := omega) only [BS, ↓reduceIte, Nat.reduceEqDiff, reduceCtorEq, q0, q3, q5, q7, q8, q9, wadd1]
      refine ⟨(k + 1, (actG s os0 a).1, M, El, es, c, h), ⟨(by first | trivial | rfl | omega), (by first | trivial | rfl | omega), (by first | trivial | rfl | omega), (by first | trivial | rfl | omega), (by first | trivial | rfl | omega), (by first | trivial | rfl | omega), ?_, T3, gh3, by omega, gm3, gM, ?_, ?_, ge, gnd⟩, ?_, by omega⟩
      · show k + 1 ≤ l.length; omega
      · show M.length ≤ k + 1; omega
      · show El.length ≤ k + 1; omega
      · show l.length - (k + 1) < l.length - k; omega
    · have h2' : decide (a.what.tmod 6 < 2) = false := decide_eq_false h2
      have hid := hak.id
      have hcl := List.count_le_length (a := a.id) (l := M)
      have hcw : IntKind.i64.wrap ((M.count a.id : Int) + 1) = (M.count a.id : Int) + 1 := wrapn (by omega) (by omega)
      have hlk : ∀ K, sem E (.lookup (false, [.i .u16]) (.int .i64 0) false) [.map mt, .int .u16 a.id] W1 K = K (.int .i64 (M.count a.id)) W1 := fun K => by rw [m_lookup gm (met_keys gM hid.1 hid.2), met_look gM]
      have hmu : ∀ K, sem E (.mupd (false, [.i .u16])) [.map mt, .int .u16 a.id, .int .i64 ((M.count a.id : Int) + 1)] W1 K = K .undef (W1.put mt (.map (mset (.int .u16 a.id) (.int .i64 ((M.count a.id : Int) + 1)) es c).1 (mset (.int .u16 a.id) (.int .i64 ((M.count a.id : Int) + 1)) es c).2)) := fun K => m_mset gm (met_keys gM hid.1 hid.2)
      have gM2 := met_bump gM hid.1 hid.2 c
      generalize (mset (.int .u16 a.id) (.int .i64 ((M.count a.id : Int) + 1)) es c).1 = es2 at hmu gM2
      generalize (mset (.int .u16 a.id) (.int .i64 ((M.count a.id : Int) + 1)) es c).2 = c2 at hmu
      obtain ⟨W2, hW2⟩ : ∃ W2, W2 = W1.put mt (.map es2 c2) := ⟨_, rfl⟩
      rw [← hW2] at hmu
      have hn2 : W2.nx = W1.nx := by rw [hW2, put_nx]
      have gm2 : W2.get mt = some (.map es2 c2) := by rw [hW2, put_at]
      have hg2 : ∀ x, x ≠ mt → W2.get x = W1.get x := fun x hx => by rw [hW2, put_ne hx]
      have hC1 := T.hx.nw.ex.cl
      have hC2 : Cl W2 := by rw [hW2]; exact hC1.put (by omega)
      clear hW2
      have n1 : p ≠ mt := by rintro rfl; have := T.hx.nw.st.hp.symm.trans gm; simp at this
      have n2 : q ≠ mt := by rintro rfl; have := T.hx.od.hq.symm.trans gm; simp at this
      have n3 : p' ≠ mt := by rintro rfl; have := T.hy.nw.st.hp.symm.trans gm; simp at this
      have n4 : q' ≠ mt := by rintro rfl; have := T.hy.od.hq.symm.trans gm; simp at this
      have n5 : c3 ≠ mt := by rintro rfl; have := g3.symm.trans gm; simp at this
      have n6 : c5 ≠ mt := by rintro rfl; have := g5.symm.trans gm; simp at this
      have T2 := T.same (W2 := W2) hC2 (by omega) (fun x hx hc => hg2 x (by omega))
      have gh2 := gh.to (W' := W2) (by omega) fun r _ _ ⟨ys, hy⟩ => hg2 r (by rintro rfl; rw [gm] at hy; cases hy)
      have hlk2 : ∀ K, sem E (.lookup (false, [.i .u16]) (.int .i64 0) false) [.map mt, .int .u16 a.id] W2 K = K (.int .i64 ((M ++ [a.id]).count a.id)) W2 := fun K => by rw [m_lookup gm2 (met_keys gM2 hid.1 hid.2), met_look gM2]
      have hq1 : (((M ++ [a.id]).count a.id : Int) == 1) = decide (a.id ∉ M) := by
        rw [cmpeq]
        refine decide_eq_decide.2 ?_
        rw [List.count_append]
        have := List.count_pos_iff (a := a.id) (l := M)
        have hs1 : [a.id].count a.id = 1 := by simp
        rw [hs1]
        constructor
        · intro h hm; have := this.2 hm; omega
        · intro h
          have : M.count a.id = 0 := List.count_eq_zero_of_not_mem h
          omega
      have hise : isEnd a := by unfold isEnd; omega
      by_cases hin : a.id ∈ M
      · simp (config := { maxSteps := 2000000 }) (disch := omega) only [c_told_0, BS, BC, e_seq, cond_if, ↓reduceIte, Nat.reduceEqDiff, reduceCtorEq, BM, q0, q3, q5, q7, q8, q9, hv.len, List.length_map, clt, hk1, decide_true, hv.idx hat, ac_fld0, ac_fld2, m_rem6, h2', hlk, hcw, hmu, hlk2, hq1, show decide (a.id ∉ M) = false by simp [hin], wadd1]
        refine ⟨(k + 1, s, M ++ [a.id], El, es2, c2, h), ⟨(by first | trivial | rfl | omega), (by first | trivial | rfl | omega), (by first | trivial | rfl | omega), (by first | trivial | rfl | omega), (by first | trivial | rfl | omega), (by first | trivial | rfl | omega), ?_, T2, gh2, by omega, gm2, gM2, ?_, ?_, fun x hx => ⟨(ge x hx).1, (ge x hx).2.1, (ge x hx).2.2.1, by simp [(ge x hx).2.2.2]⟩, gnd⟩, ?_, by omega⟩
        · show k + 1 ≤ l.length; omega
        · show (M ++ [a.id]).length ≤ k + 1; simp; omega
        · show El.length ≤ k + 1; omega
        · show l.length - (k + 1) < l.length - k; omega
      · simp (config := { maxSteps := 2000000 }) (disch := omega) only [c_told_0, BS, BC, e_seq, cond_if, ↓reduceIte, Nat.reduceEqDiff, reduceCtorEq, BM, q0, q7, q8, q9, hv.len, List.length_map, clt, hk1, decide_true, hv.idx hat, ac_fld0, ac_fld2, m_rem6, h2', hlk, hcw, hmu, hlk2, hq1, show decide (a.id ∉ M) = true by simp [hin], ac_load, bs5]
        refine app_now (lo := lo) gh2 hC2 (by omega) (by decide) (ac_ones hak) (by rw [List.length_map]; omega) ?_
        intro h' W3 gN gC gn3 gg1 gg2
        have T3 := T2.same (W2 := W3) gC gn3 fun x hx hc => gg2 x (by omega)
        have gm3 : W3.get mt = some (.map es2 c2) := by rw [gg2 _ hmt]; exact gm2
        simp (config := { maxSteps := 2000000 }) (disch := omega) only [BS, ↓reduceIte, Nat.reduceEqDiff, reduceCtorEq, q0, q3, q5, q8, q9, wadd1]
        refine ⟨(k + 1, s, M ++ [a.id], El ++ [a], es2, c2, h'), ⟨(by first | trivial | rfl | omega), (by first | trivial | rfl | omega), (by first | trivial | rfl | omega), (by first | trivial | rfl | omega), (by first | trivial | rfl | omega), (by first | trivial | rfl | omega), ?_, T3, ?_, by omega, gm3, gM2, ?_, ?_, fun x hx => ?_, ?_⟩, ?_, by omega⟩
        · show k + 1 ≤ l.length; omega
        · show nowG W3 h' ((El ++ [a]).map Ac.V) 5 lo
          rw [List.map_append]; exact gN
        · show (M ++ [a.id]).length ≤ k + 1; simp; omega
        · show (El ++ [a]).length ≤ k + 1; simp; omega
        · rcases List.mem_append.1 hx with hx | hx
          · exact ⟨(ge x hx).1, (ge x hx).2.1, (ge x hx).2.2.1, by simp [(ge x hx).2.2.2]⟩
          · rw [List.mem_singleton.1 hx]; exact ⟨hise, hak, hks, by simp⟩
        · show ((El ++ [a]).map Ac.id).Nodup
          rw [List.map_append]
          refine List.nodup_append.2 ⟨gnd, by simp, fun x hx y hy e => ?_⟩
          obtain ⟨z, hz, rfl⟩ := List.mem_map.1 hx
          simp only [List.map_cons, List.map_nil, List.mem_singleton] at hy
          exact hin (by rw [← hy, ← e]; exact (ge z hz).2.2.2)
        · show l.length - (k + 1) < l.length - k; omega
  · obtain rfl : k = l.length := by omega
    simp (config := { maxSteps := 2000000 }) (disch := omega) only [c_told_0, BS, BC, e_seq, cond_if, ↓reduceIte, Nat.reduceEqDiff, reduceCtorEq, q0, q9, hv.len, List.length_map, clt, hk1, decide_false]
    exact hQ _ _ s El h q0 q3 q5 q7 T gh gn (fun a h => ⟨(ge a h).1, (ge a h).2.1, (ge a h).2.2.1⟩) gnd (by omega)
end Go.AL.S
set_option maxRecDepth 100000
set_option maxHeartbeats 2000000
namespace Go.AL.S
open Go Go.AL Go.AL.SE Go.Proofs
def c_grows_1 : AC := (AC.seq (AC.seq (AC.reg [
       ⟨(some 86), .mov, [.t 16], none⟩,
       ⟨(some 87), .mov, [.t 10], none⟩,
       ⟨(some 88), .len 1 0, [.t 87], none⟩,
       ⟨(some 89), .bin .lss, [.t 86, .t 88], none⟩])
      (AC.cond (.t 89)
       AC.skip
       (AC.exit 2)))
      (AC.seq (AC.block 3
       (AC.seq (AC.par
        (PT.step 0 ⟨(some 92), .mov, [.t 14], none⟩
        (PT.step 1 ⟨(some 93), .mov, [.t 92], none⟩
        (PT.step 2 ⟨(some 94), .mov, [.t 10], (some (93, true))⟩
        (PT.step 3 ⟨(some 95), .mov, [.t 16], (some (93, true))⟩
        (PT.step 7 ⟨(some 99), .mov, [.t 0], (some (93, true))⟩
        (PT.step 8 ⟨(some 100), .mov, [.t 5], (some (93, true))⟩
        (PT.step 4 ⟨(some 96), .idxp 3, [.t 94, .t 95], (some (93, true))⟩
        (PT.step 5 ⟨(some 97), .fld 0, [.t 96], (some (93, true))⟩
        (PT.step 6 ⟨(some 98), .load false 1, [.t 97], (some (93, true))⟩
        (PT.step 9 ⟨(some 101), .idxp 5, [.t 99, .t 100], (some (93, true))⟩
        (PT.step 10 ⟨(some 102), .fld 2, [.t 101], (some (93, true))⟩
        (PT.step 11 ⟨(some 103), .load false 1, [.t 102], (some (93, true))⟩
        (PT.step 12 ⟨(some 104), .bin .eql, [.t 98, .t 103], (some (93, true))⟩
        (PT.step 13 ⟨(some 105), .mov, [.t 104], (some (93, true))⟩
        (PT.step 14 ⟨(some 106), .mov, [.t 10], (some (105, false))⟩
        (PT.step 15 ⟨(some 107), .mov, [.t 16], (some (105, false))⟩
        (PT.step 19 ⟨(some 111), .mov, [.t 0], (some (105, false))⟩
        (PT.step 20 ⟨(some 112), .mov, [.t 5], (some (105, false))⟩
        (PT.step 16 ⟨(some 108), .idxp 3, [.t 106, .t 107], (some (105, false))⟩
        (PT.step 17 ⟨(some 109), .fld 1, [.t 108], (some (105, false))⟩
        (PT.step 18 ⟨(some 110), .load false 1, [.t 109], (some (105, false))⟩
        (PT.step 21 ⟨(some 113), .idxp 5, [.t 111, .t 112], (some (105, false))⟩
        (PT.step 22 ⟨(some 114), .fld 2, [.t 113], (some (105, false))⟩
        (PT.step 23 ⟨(some 115), .load false 1, [.t 114], (some (105, false))⟩
        (PT.step 24 ⟨(some 116), .bin .eql, [.t 110, .t 115], (some (105, false))⟩
        (PT.step 25 ⟨(some 117), .pick, [.t 105, .c (.bool true), .t 116], (some (93, true))⟩
        (PT.step 26 ⟨(some 118), .pick, [.t 93, .t 117, .c (.bool false)], none⟩
        (PT.step 27 ⟨(some 17), .mov, [.t 118], none⟩
        PT.done)))))))))))))))))))))))))))))
       (AC.seq (AC.seq (AC.reg [
        ⟨(some 119), .mov, [.t 9], none⟩,
        ⟨(some 120), .mov, [.t 10], none⟩,
        ⟨(some 121), .mov, [.t 16], none⟩,
        ⟨(some 122), .idxp 3, [.t 120, .t 121], none⟩,
        ⟨(some 123), .load true 3, [.t 122], none⟩,
        ⟨(some 124), .call 16, [.t 119, .t 123], none⟩,
        ⟨(some 125), .mov, [.t 17], none⟩,
        ⟨(some 126), .eqv false (false, [.b]), [.t 124, .t 125], none⟩])
       (AC.cond (.t 126)
        (AC.seq (AC.reg [
         ⟨(some 2), .mov, [.c (.bool false)], none⟩])
        AC.ret)
        AC.skip))
       (AC.seq (AC.reg [
        ⟨(some 127), .mov, [.t 17], none⟩,
        ⟨(some 128), .un .not, [.t 127], none⟩])
       (AC.cond (.t 128)
        (AC.reg [
         ⟨(some 129), .mov, [.t 15], none⟩,
         ⟨(some 130), .bin .add, [.t 129, .c (.int .i64 1)], none⟩,
         ⟨(some 15), .mov, [.t 130], none⟩])
        AC.skip)))))
      (AC.reg [
       ⟨(some 90), .mov, [.t 16], none⟩,
       ⟨(some 91), .bin .add, [.t 90, .c (.int .i64 1)], none⟩,
       ⟨(some 16), .mov, [.t 91], none⟩])))
def c_grows_0 : AC := (AC.seq (AC.seq (AC.reg [
    ⟨(some 34), .mov, [.t 5], none⟩,
    ⟨(some 35), .mov, [.t 0], none⟩,
    ⟨(some 36), .len 1 0, [.t 35], none⟩,
    ⟨(some 37), .bin .lss, [.t 34, .t 36], none⟩])
   (AC.cond (.t 37)
    AC.skip
    (AC.exit 0)))
   (AC.seq (AC.block 1
    (AC.seq (AC.reg [
     ⟨(some 40), .fld 0, [.t 3], none⟩,
     ⟨(some 41), .load false 1, [.t 40], none⟩,
     ⟨(some 42), .fld 1, [.t 3], none⟩,
     ⟨(some 43), .load false 1, [.t 42], none⟩,
     ⟨(some 44), .call 12, [.t 41, .t 43], none⟩,
     ⟨(some 6), .mov, [.t 44], none⟩])
    (AC.seq (AC.par
     (PT.step 1 ⟨(some 47), .mov, [.t 0], none⟩
     (PT.step 2 ⟨(some 48), .mov, [.t 5], none⟩
     (PT.step 0 ⟨(some 46), .load true 2, [.t 3], none⟩
     (PT.step 3 ⟨(some 49), .idxp 5, [.t 47, .t 48], none⟩
     (PT.step 4 ⟨(some 50), .load true 5, [.t 49], none⟩
     (PT.step 5 ⟨(some 51), .call 11, [.t 46, .t 50], none⟩
     (PT.step 6 ⟨(some 45), .mov, [.t 51], none⟩
     (PT.step 7 ⟨(some 52), .ext 0, [.t 45], none⟩
     (PT.step 8 ⟨(some 53), .ext 1, [.t 45], none⟩
     (PT.step 9 ⟨(some 7), .mov, [.t 52], none⟩
     (PT.step 10 ⟨(some 8), .mov, [.t 53], none⟩
     PT.done))))))))))))
    (AC.seq (AC.reg [
     ⟨(some 54), .fld 0, [.t 3], none⟩,
     ⟨(some 55), .load false 1, [.t 54], none⟩,
     ⟨(some 56), .fld 1, [.t 3], none⟩,
     ⟨(some 57), .load false 1, [.t 56], none⟩,
     ⟨(some 58), .call 12, [.t 55, .t 57], none⟩,
     ⟨(some 9), .mov, [.t 58], none⟩])
    (AC.seq (AC.reg [
     ⟨(some 60), .mov, [.t 6], none⟩,
     ⟨(some 61), .call 13, [.t 60], none⟩,
     ⟨(some 59), .mov, [.t 61], none⟩,
     ⟨(some 62), .ext 0, [.t 59], none⟩,
     ⟨(some 63), .ext 1, [.t 59], none⟩,
     ⟨(some 10), .mov, [.t 62], none⟩,
     ⟨(some 11), .mov, [.t 63], none⟩])
    (AC.seq (AC.reg [
     ⟨(some 65), .mov, [.t 9], none⟩,
     ⟨(some 66), .call 13, [.t 65], none⟩,
     ⟨(some 64), .mov, [.t 66], none⟩,
     ⟨(some 67), .ext 0, [.t 64], none⟩,
     ⟨(some 68), .ext 1, [.t 64], none⟩,
     ⟨(some 12), .mov, [.t 67], none⟩,
     ⟨(some 13), .mov, [.t 68], none⟩])
    (AC.seq (AC.seq (AC.reg [
     ⟨(some 69), .mov, [.t 11], none⟩,
     ⟨(some 70), .un .not, [.t 69], none⟩,
     ⟨(some 71), .mov, [.t 70], none⟩,
     ⟨(some 72), .mov, [.t 13], (some (71, false))⟩,
     ⟨(some 73), .un .not, [.t 72], (some (71, false))⟩,
     ⟨(some 74), .pick, [.t 71, .c (.bool true), .t 73], none⟩])
    (AC.cond (.t 74)
     (AC.seq (AC.reg [
      ⟨(some 2), .mov, [.c (.bool false)], none⟩])
     AC.ret)
     AC.skip))
    (AC.seq (AC.reg [
     ⟨(some 75), .mov, [.t 7], none⟩,
     ⟨(some 76), .bin .eql, [.t 75, .c (.int .i64 0)], none⟩,
     ⟨(some 77), .mov, [.t 76], none⟩,
     ⟨(some 78), .mov, [.t 0], (some (77, true))⟩,
     ⟨(some 79), .mov, [.t 5], (some (77, true))⟩,
     ⟨(some 80), .idxp 5, [.t 78, .t 79], (some (77, true))⟩,
     ⟨(some 81), .fld 0, [.t 80], (some (77, true))⟩,
     ⟨(some 82), .load false 1, [.t 81], (some (77, true))⟩,
     ⟨(some 83), .bin .rem, [.t 82, .c (.int .u8 6)], (some (77, true))⟩,
     ⟨(some 84), .bin .eql, [.t 83, .c (.int .u8 4)], (some (77, true))⟩,
     ⟨(some 85), .pick, [.t 77, .t 84, .c (.bool false)], none⟩,
     ⟨(some 14), .mov, [.t 85], none⟩])
    (AC.seq (AC.reg [
     ⟨(some 15), .mov, [.c (.int .i64 0)], none⟩])
    (AC.seq (AC.seq (AC.reg [
     ⟨(some 16), .mov, [.c (.int .i64 0)], none⟩])
    (AC.block 2
     (AC.loop c_grows_1)))
    (AC.seq (AC.reg [
     ⟨(some 18), .mov, [.c (.int .i64 0)], none⟩])
    (AC.seq (AC.seq (AC.reg [
     ⟨(some 131), .mov, [.t 14], none⟩])
    (AC.cond (.t 131)
     (AC.reg [
      ⟨(some 18), .mov, [.c (.int .i64 1)], none⟩])
     AC.skip))
    (AC.seq (AC.reg [
     ⟨(some 132), .mov, [.t 9], none⟩,
     ⟨(some 133), .call 15, [.t 132], none⟩,
     ⟨(some 134), .len 1 0, [.t 133], none⟩,
     ⟨(some 135), .mov, [.t 6], none⟩,
     ⟨(some 136), .call 15, [.t 135], none⟩,
     ⟨(some 137), .len 1 0, [.t 136], none⟩,
     ⟨(some 138), .mov, [.t 18], none⟩,
     ⟨(some 139), .bin .sub, [.t 137, .t 138], none⟩,
     ⟨(some 140), .bin .lss, [.t 134, .t 139], none⟩,
     ⟨(some 141), .mov, [.t 140], none⟩,
     ⟨(some 142), .mov, [.t 14], (some (141, false))⟩,
     ⟨(some 143), .mov, [.t 142], (some (141, false))⟩,
     ⟨(some 144), .mov, [.t 12], (some (143, true))⟩,
     ⟨(some 145), .len 1 0, [.t 144], (some (143, true))⟩,
     ⟨(some 146), .mov, [.t 15], (some (143, true))⟩,
     ⟨(some 147), .bin .neq, [.t 145, .t 146], (some (143, true))⟩,
     ⟨(some 148), .mov, [.t 147], (some (143, true))⟩,
     ⟨(some 149), .mov, [.t 9], (some (148, false))⟩,
     ⟨(some 150), .call 15, [.t 149], (some (148, false))⟩,
     ⟨(some 151), .len 1 0, [.t 150], (some (148, false))⟩,
     ⟨(some 152), .mov, [.t 6], (some (148, false))⟩,
     ⟨(some 153), .call 15, [.t 152], (some (148, false))⟩,
     ⟨(some 154), .len 1 0, [.t 153], (some (148, false))⟩,
     ⟨(some 155), .bin .sub, [.t 154, .c (.int .i64 1)], (some (148, false))⟩,
     ⟨(some 156), .bin .neq, [.t 151, .t 155], (some (148, false))⟩,
     ⟨(some 157), .pick, [.t 148, .c (.bool true), .t 156], (some (143, true))⟩,
     ⟨(some 158), .pick, [.t 143, .t 157, .c (.bool false)], (some (141, false))⟩,
     ⟨(some 159), .pick, [.t 141, .c (.bool true), .t 158], none⟩,
     ⟨(some 160), .mov, [.t 159], none⟩,
     ⟨(some 161), .mov, [.t 7], (some (160, false))⟩,
     ⟨(some 162), .bin .neq, [.t 161, .c (.int .i64 0)], (some (160, false))⟩,
     ⟨(some 163), .mov, [.t 162], (some (160, false))⟩,
     ⟨(some 164), .mov, [.t 12], (some (163, true))⟩,
     ⟨(some 165), .len 1 0, [.t 164], (some (163, true))⟩,
     ⟨(some 166), .mov, [.t 10], (some (163, true))⟩,
     ⟨(some 167), .len 1 0, [.t 166], (some (163, true))⟩,
     ⟨(some 168), .bin .neq, [.t 165, .t 167], (some (163, true))⟩,
     ⟨(some 169), .pick, [.t 163, .t 168, .c (.bool false)], (some (160, false))⟩,
     ⟨(some 170), .pick, [.t 160, .c (.bool true), .t 169], none⟩])
    (AC.cond (.t 170)
     (AC.seq (AC.reg [
      ⟨(some 2), .mov, [.c (.bool false)], none⟩])
     AC.ret)
     AC.skip))))))))))))))
   (AC.reg [
    ⟨(some 38), .mov, [.t 5], none⟩,
    ⟨(some 39), .bin .add, [.t 38, .c (.int .i64 1)], none⟩,
    ⟨(some 5), .mov, [.t 39], none⟩])))
/- umpire/umpirelaw27.GraphGrows -/
def c_grows : AC := (AC.seq (AC.reg [
  ⟨(some 2), .mov, [.c (.bool false)], none⟩])
 (AC.seq (AC.reg [
  ⟨(some 20), .call 8, [], none⟩,
  ⟨(some 19), .mov, [.t 20], none⟩,
  ⟨(some 21), .ext 0, [.t 19], none⟩,
  ⟨(some 22), .ext 1, [.t 19], none⟩,
  ⟨(some 3), .alloc [.nilptr, .nilptr], [], none⟩,
  ⟨none, .store 2, [.t 3, .t 21], none⟩,
  ⟨(some 4), .mov, [.t 22], none⟩])
 (AC.seq (AC.seq (AC.reg [
  ⟨(some 23), .mov, [.t 0], none⟩,
  ⟨(some 24), .call 9, [.t 23], none⟩,
  ⟨(some 25), .un .not, [.t 24], none⟩,
  ⟨(some 26), .mov, [.t 25], none⟩,
  ⟨(some 27), .mov, [.t 4], (some (26, false))⟩,
  ⟨(some 28), .un .not, [.t 27], (some (26, false))⟩,
  ⟨(some 29), .pick, [.t 26, .c (.bool true), .t 28], none⟩])
 (AC.cond (.t 29)
  (AC.seq (AC.reg [
   ⟨(some 30), .mov, [.t 4], none⟩,
   ⟨(some 31), .mov, [.t 30], none⟩,
   ⟨(some 32), .call 10, [], (some (31, true))⟩,
   ⟨(some 33), .pick, [.t 31, .t 32, .c (.bool false)], none⟩,
   ⟨(some 2), .mov, [.t 33], none⟩])
  AC.ret)
  AC.skip))
 (AC.seq (AC.seq (AC.reg [
  ⟨(some 5), .mov, [.c (.int .i64 0)], none⟩])
 (AC.block 0
  (AC.loop c_grows_0)))
 (AC.seq (AC.reg [
  ⟨(some 171), .call 10, [], none⟩,
  ⟨(some 2), .mov, [.t 171], none⟩])
 AC.ret)))))
def r_grows : AC × List RT × Nat := (c_grows, [.tmp 2], 172)
theorem ok_growse : compF Tryz.prog Tryz.f4 ⟨false, false, []⟩ = some r_grows := by kernel_rfl
variable {E : Env}
theorem ed_fld0 {W : AW} {K : V → AW → Prop} {e : Ed} : sem E (.fld 0) [.cptr e.V.cells] W K = K (.cptr [.int .u16 e.fr, .int .u16 e.to, .int .u8 e.kd]) W := by
  simp [Ed.V, V.cells, sem, rsem, tsem]
theorem ed_fld1 {W : AW} {K : V → AW → Prop} {e : Ed} : sem E (.fld 1) [.cptr e.V.cells] W K = K (.cptr [.int .u16 e.to, .int .u8 e.kd]) W := by
  simp [Ed.V, V.cells, sem, rsem, tsem]
theorem eqvb {W : AW} {K : V → AW → Prop} {a b : Bool} : sem E (.eqv false (false, [.b])) [.bool a, .bool b] W K = K (.bool (a == b)) W := by
  cases a <;> cases b <;> rfl
theorem Gr.fa {W1 W2 : AW} {g m lo p ra rw q : Nat} {h : V} {P : List Ek} {N : List Int} (hG : Gr W1 g m h P N lo) (hF : Fa W1 W2 p ra rw q) (hl : p < lo ∧ ra < lo ∧ rw < lo ∧ q < lo) : Gr W2 g m h P N lo := by
  have a1 := hG.lg
  have a2 := hG.lm
  have a3 := hG.gg
  have a4 := hG.gm
  have a5 := hF.nx
  exact ⟨(hF.get _ a1 (by omega) (by omega) (by omega) (by omega)).trans hG.hg, (hF.get _ a2 (by omega) (by omega) (by omega) (by omega)).trans hG.hm, hG.now.to hF.nx fun r h1 h2 _ => hF.get r h2 (by omega) (by omega) (by omega) (by omega), by omega, by omega, a3, a4, hG.pk, hG.pl, hG.nl⟩
def keptN (P : List Ek) (gone : Bool) (i : Int) (k : Nat) : Nat := (((edL P).take k).filter fun e => !(gone && awayB i e)).length
theorem kept_snoc {P : List Ek} {gone : Bool} {i : Int} {k : Nat} (h : k < (edL P).length) : keptN P gone i (k + 1) = keptN P gone i k + (if (gone && awayB i (edL P)[k]) = true then 0 else 1) := by
  unfold keptN
  rw [List.take_add_one, List.getElem?_eq_getElem h, List.filter_append, List.length_append]
  congr 1
  simp only [Option.toList_some, List.filter_cons, List.filter_nil]
  cases gone && awayB i (edL P)[k] <;> rfl
/-- Each edge is still there, just if it does not go. -/
theorem grows1_go (hP : E.P = Tryz.prog) {W : AW} {g' m' lo' : Nat} {h' : V} {P P' : List Ek} {N' : List Int} {N1 N2 : Nat} {gone : Bool} {er : Int} (hG' : Gr W g' m' h' P' N' lo') {a : Ac} (hgr : Grown P P' N1 N2 gone a.id er) (hpl : (edL P).length < 2 ^ 32) (hpo : ∀ e ∈ edL P, ekOk (ofEd e))
    {v : V} {l : List Ac} (hv : isS 5 v (l.map Ac.V)) {i : Nat} (hat : (l.map Ac.V)[i]? = some a.V) {A : AFr} {Q : Exit → AFr → AW → Prop}
    (a0 : A 0 = some v) (a5 : A 5 = some (.int .i64 i)) (a9 : A 9 = some (.ptr g' 0)) (a10 : A 10 = some (edsV (edL P))) (a14 : A 14 = some (.bool gone)) (a15 : A 15 = some (.int .i64 0)) (a16 : A 16 = some (.int .i64 0))
    (hQ : ∀ A', (A' 0 = A 0 ∧ A' 3 = A 3 ∧ A' 5 = A 5 ∧ A' 6 = A 6 ∧ A' 7 = A 7 ∧ A' 9 = A 9 ∧ A' 10 = A 10 ∧ A' 12 = A 12 ∧ A' 14 = A 14) → A' 15 = some (.int .i64 (keptN P gone a.id (edL P).length)) → Q (.exit 2) A' W) : ALoop (awp E c_grows_1) Q A W := by
  have hs := edsV_S (edL P)
  refine ALoop.go (B := awp E _) (fun h => awp_mono _ h) (fun (k : Nat) A1 W1 => (A1 0 = A 0 ∧ A1 3 = A 3 ∧ A1 5 = A 5 ∧ A1 6 = A 6 ∧ A1 7 = A 7 ∧ A1 9 = A 9 ∧ A1 10 = A 10 ∧ A1 12 = A 12 ∧ A1 14 = A 14) ∧ A1 15 = some (.int .i64 (keptN P gone a.id k)) ∧ A1 16 = some (.int .i64 k) ∧ k ≤ (edL P).length ∧ W1 = W) (fun k => (edL P).length - k) 0
    ⟨⟨rfl, rfl, rfl, rfl, rfl, rfl, rfl, rfl, rfl⟩, a15, a16, Nat.zero_le _, rfl⟩ ?_
  rintro k A1 W1 ⟨q, q15, q16, qk, rfl⟩ _
  have q0 := q.1.trans a0
  have q5 := q.2.2.1.trans a5
  have q9 := q.2.2.2.2.2.1.trans a9
  have q10 := q.2.2.2.2.2.2.1.trans a10
  have q14 := q.2.2.2.2.2.2.2.2.trans a14
  by_cases hk : k < (edL P).length
  · have hst := kept_snoc (gone := gone) (i := a.id) hk
    have hath := ed_at hk
    have hhas := hgr.has _ (List.getElem_mem hk)
    have hok := hpo _ (List.getElem_mem hk)
    have hke : keptN P gone a.id k ≤ k := by
      unfold keptN
      refine Nat.le_trans (List.length_filter_le _ _) ?_
      simp; omega
    generalize (edL P)[k] = e at hst hath hhas hok
    have hin : inP P' e = !(gone && awayB a.id e) := hhas
    have tf : ((true == false) : Bool) = false := rfl
    have ft : ((false == true) : Bool) = false := rfl
    cases gone with
    | false =>
      simp (config := { maxSteps := 200000 }) (disch := omega) only [BS, e_seq, cond_if, ↓reduceIte, Nat.reduceEqDiff, c_grows_1, q10, q14, q16, hs.len, List.length_map, clt, hk, decide_true]
      repeat (rw [guard_if]; simp (config := { maxSteps := 200000 }) (disch := omega) only [BS, BC, e_seq, ↓reduceIte, Nat.reduceEqDiff, BM, q9, q10, q16, hs.idx hath, ed_load, ed_frz])
      refine pc (hasG_c hP _ hG' e hok) ?_
      rw [show inP P' e = true from hin]
      simp (config := { maxSteps := 200000 }) (disch := omega) only [BS, BC, e_seq, cond_if, ↓reduceIte, Nat.reduceEqDiff, reduceCtorEq, BD, q0, q5, q9, q10, q14, q15, q16, eqvb, tf, wadd1]
      refine ⟨k + 1, ⟨by simp only [a0, a5, a9, a10, a14, q]; simp, by rw [hst]; rfl, (by first | trivial | rfl | omega), by omega, (by first | trivial | rfl | omega)⟩, by omega, Nat.le_refl _⟩
    | true =>
      by_cases c1 : e.fr = a.id
      · have hin' : inP P' e = false := by rw [hin]; simp [awayB, c1]
        simp (config := { maxSteps := 200000 }) (disch := omega) only [BS, e_seq, cond_if, ↓reduceIte, Nat.reduceEqDiff, c_grows_1, q10, q14, q16, hs.len, List.length_map, clt, hk, decide_true]
        repeat (rw [guard_if]; simp (config := { maxSteps := 200000 }) (disch := omega) only [BS, BC, e_seq, ↓reduceIte, Nat.reduceEqDiff, reduceCtorEq, BM, q0, q5, q9, q10, q16, hs.idx hath, hv.idx hat, ed_load, ed_fld0, ac_fld2, cmpeq, ed_frz, decide_eq_true c1])
        refine pc (hasG_c hP _ hG' e hok) ?_
        rw [hin']
        simp (config := { maxSteps := 200000 }) (disch := omega) only [BS, BC, e_seq, cond_if, ↓reduceIte, Nat.reduceEqDiff, reduceCtorEq, BD, q0, q5, q9, q10, q14, q15, q16, eqvb, ft, wadd1]
        refine ⟨k + 1, ⟨by simp only [a0, a5, a9, a10, a14, q]; simp, by rw [hst]; simp [awayB, c1], (by first | trivial | rfl | omega), by omega, (by first | trivial | rfl | omega)⟩, by omega, Nat.le_refl _⟩
      · by_cases c2 : e.to = a.id
        · have hin' : inP P' e = false := by rw [hin]; simp [awayB, c2]
          simp (config := { maxSteps := 200000 }) (disch := omega) only [BS, e_seq, cond_if, ↓reduceIte, Nat.reduceEqDiff, c_grows_1, q10, q14, q16, hs.len, List.length_map, clt, hk, decide_true]
          repeat (rw [guard_if]; simp (config := { maxSteps := 200000 }) (disch := omega) only [BS, BC, e_seq, ↓reduceIte, Nat.reduceEqDiff, reduceCtorEq, BM, q0, q5, q9, q10, q16, hs.idx hath, hv.idx hat, ed_load, ed_fld0, ed_fld1, ac_fld2, cmpeq, ed_frz, decide_eq_false c1, decide_eq_true c2])
          refine pc (hasG_c hP _ hG' e hok) ?_
          rw [hin']
          simp (config := { maxSteps := 200000 }) (disch := omega) only [BS, BC, e_seq, cond_if, ↓reduceIte, Nat.reduceEqDiff, reduceCtorEq, BD, q0, q5, q9, q10, q14, q15, q16, eqvb, ft, wadd1]
          refine ⟨k + 1, ⟨by simp only [a0, a5, a9, a10, a14, q]; simp, by rw [hst]; simp [awayB, c2], (by first | trivial | rfl | omega), by omega, (by first | trivial | rfl | omega)⟩, by omega, Nat.le_refl _⟩
        · have hin' : inP P' e = true := by rw [hin]; simp [awayB, c1, c2]
          simp (config := { maxSteps := 200000 }) (disch := omega) only [BS, e_seq, cond_if, ↓reduceIte, Nat.reduceEqDiff, c_grows_1, q10, q14, q16, hs.len, List.length_map, clt, hk, decide_true]
          repeat (rw [guard_if]; simp (config := { maxSteps := 200000 }) (disch := omega) only [BS, BC, e_seq, ↓reduceIte, Nat.reduceEqDiff, reduceCtorEq, BM, q0, q5, q9, q10, q16, hs.idx hath, hv.idx hat, ed_load, ed_fld0, ed_fld1, ac_fld2, cmpeq, ed_frz, decide_eq_false c1, decide_eq_false c2])
          refine pc (hasG_c hP _ hG' e hok) ?_
          rw [hin']
          simp (config := { maxSteps := 200000 }) (disch := omega) only [BS, BC, e_seq, cond_if, ↓reduceIte, Nat.reduceEqDiff, reduceCtorEq, BD, q0, q5, q9, q10, q14, q15, q16, eqvb, tf, wadd1]
          refine ⟨k + 1, ⟨by simp only [a0, a5, a9, a10, a14, q]; simp, by rw [hst]; simp [awayB, c1, c2], (by first | trivial | rfl | omega), by omega, (by first | trivial | rfl | omega)⟩, by omega, Nat.le_refl _⟩
  · obtain rfl : k = (edL P).length := by omega
    simp (config := { maxSteps := 2000000 }) (disch := omega) only [c_grows_1, BS, BC, e_seq, cond_if, ↓reduceIte, Nat.reduceEqDiff, q10, q16, hs.len, List.length_map, clt, hk, decide_false]
    exact hQ _ q q15
end Go.AL.S
set_option maxRecDepth 100000
set_option maxHeartbeats 2000000
namespace Go.AL.S
open Go Go.AL Go.AL.SE Go.Proofs
variable {E : Env}
theorem kept_all (P : List Ek) (gone : Bool) (i : Int) : keptN P gone i (edL P).length = ((edL P).filter fun e => !(gone && awayB i e)).length := by
  unfold keptN; rw [List.take_length]
theorem goneB_no {a : Ac} {e : Int} (h : e ≠ 0) : goneB a e = false := by simp [goneB, h]
/-- The end of a round: no node and no edge is lost. -/
theorem grows_c (hP : E.P = Tryz.prog) (W : AW) {v : V} {l : List Ac} (hv : isS 5 v (l.map Ac.V)) (ha : ∀ a ∈ l, a.ok) (hl : l.length < 2 ^ 48) :
    ACalls E 4 [v] W fun Y _ => Y = .bool true := by
  refine ACalls.of hP Tryz.func4 ok_growse (by simp) fun _ hok => ?_
  simp (config := { maxSteps := 200000 }) (disch := omega) only [BS, BC, e_seq, c_grows]
  refine (fresh_c hP _).mono ?_
  rintro _ W1 ⟨p, ra, rw, q, rfl, hx1⟩
  rw [hx1.nw.ex.cl.start]
  simp (config := { maxSteps := 200000 }) (disch := omega) only [BS, BC, e_seq, ↓reduceIte, Nat.reduceEqDiff, reduceCtorEq, BM, BD, Nat.reduceAdd, Nat.reduceLeDiff, Nat.reduceLT, hv.frz]
  refine (few_c hP _ hv ha hl).mono ?_
  rintro _ W3 ⟨rfl, b, rfl, hb⟩
  have hn1 := hx1.nw.ex.nx
  have l1 := hx1.nw.st.lp
  have l2 := hx1.nw.st.la
  have l3 := hx1.nw.st.lw
  have l4 := hx1.od.lq
  have r1 : rf W1.nx 0 = W1.nx := rfl
  cases b with
  | false =>
    simp (config := { maxSteps := 200000 }) (disch := omega) only [BS, ↓reduceIte, BD]
    (rw [guard_if]; simp (config := { maxSteps := 200000 }) (disch := omega) only [BS, BC, ↓reduceIte, BM])
    (rw [guard_if]; simp (config := { maxSteps := 200000 }) (disch := omega) only [BS, BC, e_seq, cond_if, ↓reduceIte, Nat.reduceEqDiff, BM])
    (rw [guard_if]; simp (config := { maxSteps := 200000 }) (disch := omega) only [BS, BC, ↓reduceIte])
    refine pc (awake_c hP _) ?_
    simp (config := { maxSteps := 200000 }) (disch := omega) only [BS, BC, ↓reduceIte, Nat.reduceEqDiff]
    exact ⟨_, rfl, _, _, .weak weak_id, by simp only [X_nx, rf, List.length_cons, List.length_nil]; omega, rfl⟩
  | true =>
    obtain ⟨hl60, hsm⟩ := hb rfl
    simp (config := { maxSteps := 200000 }) (disch := omega) only [BS, ↓reduceIte, BD]
    (rw [guard_if]; simp (config := { maxSteps := 200000 }) (disch := omega) only [BS, ↓reduceIte, Nat.reduceEqDiff])
    (rw [guard_if]; simp (config := { maxSteps := 200000 }) (disch := omega) only [BS, BC, e_seq, cond_if, ↓reduceIte, Nat.reduceEqDiff, BD])
    rw [e_loop]
    obtain ⟨Wt, hWt⟩ : ∃ Wt, Wt = X W1 W1.nx [.row [.ptr p 0, .ptr q 0]] := ⟨_, rfl⟩
    rw [← hWt]
    have hEt : Ex W1 Wt := by rw [hWt]; exact (Ex.refl hx1.nw.ex.cl).X
    have hnt : Wt.nx = W1.nx + 1 := by rw [hWt]; rfl
    have k3 : Wt.get (rf W1.nx 0) = some (.row [.ptr p 0, .ptr q 0]) := by rw [hWt, X_get]; rfl
    clear hWt
    have hll : p < Wt.nx ∧ ra < Wt.nx ∧ rw < Wt.nx ∧ q < Wt.nx := by omega
    refine ALoop.go (B := awp E _) (fun h => awp_mono _ h) (fun (σ : Nat × Str × Ods) A1 W2 => A1 0 = some v ∧ A1 3 = some (.ptr (rf W1.nx 0) 0) ∧ A1 5 = some (.int .i64 σ.1) ∧ σ.1 ≤ l.length ∧ Sx W W2 p ra rw q σ.2.1 σ.2.2 ∧ Wt.nx ≤ W2.nx ∧ W2.get (rf W1.nx 0) = some (.row [.ptr p 0, .ptr q 0])) (fun σ => l.length - σ.1) (0, [], os0)
      ⟨rfl, rfl, rfl, Nat.zero_le _, hx1.exx hEt, Nat.le_refl _, k3⟩ ?_
    rintro ⟨k, s, o⟩ A1 W2 ⟨q0, q3, q5, gk, hX, gn, g3⟩ _
    simp only at q5 gk hX
    by_cases hk1 : k < l.length
    · have hat : (l.map Ac.V)[k]? = some l[k].V := by simp [hk1]
      have hak := ha _ (List.getElem_mem hk1)
      have hks := hsm _ (List.getElem_mem hk1)
      generalize l[k] = a at hat hak hks
      simp (config := { maxSteps := 200000 }) (disch := omega) only [BS, BC, e_seq, cond_if, ↓reduceIte, Nat.reduceEqDiff, reduceCtorEq, BM, BD, c_grows_0, q0, q3, q5, hv.len, List.length_map, clt, hk1, decide_true, g3]
      refine (build_c hP _ hX.nw.st hX.od).mono ?_
      rintro _ W4 ⟨g, m, hn, rfl, hG, hE⟩
      have hX4 := hX.exx hE
      have g34 := (hE.get _ (show rf W1.nx 0 < W2.nx by omega)).trans g3
      simp (config := { maxSteps := 200000 }) (disch := omega) only [BS, BC, e_seq, ↓reduceIte, Nat.reduceEqDiff, reduceCtorEq, BM, BD, Nat.reduceAdd, Nat.reduceLeDiff, q0, q3, q5, hv.idx hat, ac_load, ac_frz, g34]
      refine (act_c hP _ hX4.nw.st hX4.od hX4.ne hak hks).mono ?_
      rintro _ W5 ⟨rfl, hS5, hO5, hF5⟩
      have hX5 := hX4.fa hS5 hO5 hF5
      have hn5 := hF5.nx
      have hn4 := hE.nx
      have g35 := row_fa g34 (by omega) hF5 hX4.nw.st hX4.od
      have hG5 := hG.fa hF5 (by omega)
      have hgr := grows hX.nw.st.ok hX.od.len a hak.ms
      generalize (actG s o a).1 = s' at hX5 hgr hS5 hO5
      generalize (actG s o a).2.1 = o' at hX5 hgr hS5 hO5
      generalize (actG s o a).2.2.1 = er at hgr
      simp (config := { maxSteps := 200000 }) (disch := omega) only [BS, BC, e_seq, ↓reduceIte, Nat.reduceEqDiff, BM, BD, q3, g35]
      refine (build_c hP _ hX5.nw.st hX5.od).mono ?_
      rintro _ W6 ⟨g', m', hn', rfl, hG', hE6⟩
      have hX6 := hX5.exx hE6
      have hG6 := hG5.ex hE6
      have g36 := (hE6.get _ (show rf W1.nx 0 < W5.nx by omega)).trans g35
      have hn6 := hE6.nx
      simp (config := { maxSteps := 200000 }) (disch := omega) only [BS, BC, e_seq, ↓reduceIte, Nat.reduceEqDiff]
      refine pc (listed_c hP _ hG6) ?_
      simp (config := { maxSteps := 200000 }) (disch := omega) only [BS, BC, e_seq, ↓reduceIte, Nat.reduceEqDiff]
      refine pc (listed_c hP _ hG') ?_
      have hs1 := edsV_S (edL (buildP s o))
      have hs2 := edsV_S (edL (buildP s' o'))
      have hns1 := nowGS_S 1 (intsV (nodesR s))
      have hns2 := nowGS_S 1 (intsV (nodesR s'))
      have hpl := edL_lt hG6
      have hpl2 := edL_lt hG'
      have hpo := edL_ok hG6
      simp (config := { maxSteps := 200000 }) (disch := omega) only [BS, e_seq, ↓reduceIte, Nat.reduceEqDiff, BD]
      have hN1 := hG6.nl
      have hN2 := hG'.nl
      have hf0 := hgr.nodes
      have hkn := kept_all (buildP s o)
      have fin : ∃ s_1 : Nat × Str × Ods, (True ∧ True ∧ some (V.int .i64 ((k + 1 : Nat) : Int)) = some (.int .i64 s_1.1) ∧ s_1.1 ≤ l.length ∧ Sx W W6 p ra rw q s_1.2.1 s_1.2.2 ∧ Wt.nx ≤ W6.nx ∧ W6.get (rf W1.nx 0) = some (.row [.ptr p 0, .ptr q 0])) ∧ l.length - s_1.1 < l.length - k ∧ Wt.nx ≤ W6.nx :=
        ⟨(k + 1, s', o'), ⟨trivial, trivial, rfl, hk1, hX6, by omega, g36⟩, by show l.length - (k + 1) < l.length - k; omega, by omega⟩
      have hw0 : ∀ n : Nat, n < 2 ^ 20 → IntKind.i64.wrap ((n : Int) - 0) = n := fun n hn => by rw [Int.sub_zero]; exact wrapn (by omega) (by omega)
      have hnl := ints_len (nodesR s)
      have hnl' := ints_len (nodesR s')
      by_cases he : er = 0
      · have her : (er == 0) = true := by simp [he]
        have her' : (er != 0) = false := by simp [he]
        by_cases h4 : w6 a = 4
        · have h4' : (a.what.tmod 6 == 4) = true := by simp [w6] at h4; simp [h4]
          have hgn : goneB a er = true := by simp [goneB, he, h4]
          rw [hgn] at hgr hf0
          obtain ⟨hg1, hg2⟩ := hgr.gone rfl
          have hw1 : IntKind.i64.wrap (((nodesR s).length : Int) - 1) = (nodesR s').length := by
            rw [show ((nodesR s).length : Int) - 1 = ((nodesR s').length : Int) by omega]; exact wrapn (by omega) (by omega)
          have hlt : decide (((nodesR s').length : Int) < ((nodesR s').length : Int)) = false := by simp
          have hne1 : (((edL (buildP s' o')).length : Int) != ((keptN (buildP s o) true a.id (edL (buildP s o)).length : Nat) : Int)) = false := by
            rw [hkn, hg1]; simp
          have hne2 : (((nodesR s').length : Int) != ((nodesR s').length : Int)) = false := by simp
          repeat (rw [guard_if]; simp (config := { maxSteps := 200000 }) (disch := omega) only [BS, BC, e_seq, cond_if, ↓reduceIte, Nat.reduceEqDiff, reduceCtorEq, BM, BD, q0, q5, her, hv.idx hat, ac_fld0, m_rem6, h4'])
          rw [e_loop]
          refine grows1_go hP hG' hgr hpl hpo hv hat q0 q5 rfl rfl rfl rfl rfl ?_
          rintro A2 ⟨u0, u3, u5, u6, u7, u9, u10, u12, u14⟩ u15
          simp (config := { maxSteps := 200000 }) (disch := omega) only [BS, BC, e_seq, cond_if, ↓reduceIte, Nat.reduceEqDiff, u9, u14]
          refine pc (nodes_c hP _ hG') ?_
          simp (config := { maxSteps := 200000 }) (disch := omega) only [BS, BC, ↓reduceIte, Nat.reduceEqDiff, u6, hns2.len, hnl']
          refine pc (nodes_c hP _ hG6) ?_
          simp (config := { maxSteps := 200000 }) (disch := omega) only [BS, ↓reduceIte, Nat.reduceEqDiff, hns1.len, hnl, hw1, hlt]
          repeat (rw [guard_if]; simp (config := { maxSteps := 200000 }) (disch := omega) only [BS, BC, ↓reduceIte, Nat.reduceEqDiff, u9, u12, u14, u15, hs2.len, List.length_map, hne1])
          refine pc (nodes_c hP _ hG') ?_
          simp (config := { maxSteps := 200000 }) (disch := omega) only [BS]
          repeat (rw [guard_if]; simp (config := { maxSteps := 200000 }) (disch := omega) only [BS, BC, ↓reduceIte, Nat.reduceEqDiff, u6, hns2.len, hnl'])
          refine pc (nodes_c hP _ hG6) ?_
          simp (config := { maxSteps := 200000 }) (disch := omega) only [BS]
          repeat (rw [guard_if]; simp (config := { maxSteps := 200000 }) (disch := omega) only [BS, BC, cond_if, ↓reduceIte, Nat.reduceEqDiff, reduceCtorEq, BM, u0, u3, u5, u7, q0, q3, q5, hns1.len, hnl, hw1, hne2, her', wadd1])
          exact fin
        · have h4' : (a.what.tmod 6 == 4) = false := by simp [w6] at h4; simp [h4]
          have hgn : goneB a er = false := by simp [goneB, h4]
          rw [hgn] at hgr hf0
          have hlt : decide (((nodesR s').length : Int) < ((nodesR s).length : Int)) = false := by simp at hf0; simp; omega
          repeat (rw [guard_if]; simp (config := { maxSteps := 200000 }) (disch := omega) only [BS, BC, e_seq, cond_if, ↓reduceIte, Nat.reduceEqDiff, reduceCtorEq, BM, BD, q0, q5, her, hv.idx hat, ac_fld0, m_rem6, h4'])
          rw [e_loop]
          refine grows1_go hP hG' hgr hpl hpo hv hat q0 q5 rfl rfl rfl rfl rfl ?_
          rintro A2 ⟨u0, u3, u5, u6, u7, u9, u10, u12, u14⟩ u15
          simp (config := { maxSteps := 200000 }) (disch := omega) only [BS, BC, e_seq, cond_if, ↓reduceIte, Nat.reduceEqDiff, u9, u14]
          refine pc (nodes_c hP _ hG') ?_
          simp (config := { maxSteps := 200000 }) (disch := omega) only [BS, BC, ↓reduceIte, Nat.reduceEqDiff, u6, hns2.len, hnl']
          refine pc (nodes_c hP _ hG6) ?_
          simp (config := { maxSteps := 200000 }) (disch := omega) only [BS, ↓reduceIte, Nat.reduceEqDiff, hns1.len, hnl, hw0 _ hN1, hlt]
          repeat (rw [guard_if]; simp (config := { maxSteps := 200000 }) (disch := omega) only [BS, BC, cond_if, ↓reduceIte, Nat.reduceEqDiff, reduceCtorEq, BM, u0, u3, u5, u7, u14, q0, q3, q5, her', wadd1])
          exact fin
      · have her : (er == 0) = false := by simp [he]
        have her' : (er != 0) = true := by simp [he]
        have hgn : goneB a er = false := goneB_no he
        rw [hgn] at hgr hf0
        have hlt : decide (((nodesR s').length : Int) < ((nodesR s).length : Int)) = false := by simp at hf0; simp; omega
        have hne1 : (((edL (buildP s' o')).length : Int) != ((edL (buildP s o)).length : Int)) = false := by rw [hgr.err he]; simp
        repeat (rw [guard_if]; simp (config := { maxSteps := 200000 }) (disch := omega) only [BS, BC, e_seq, cond_if, ↓reduceIte, Nat.reduceEqDiff, BM, BD, her])
        rw [e_loop]
        refine grows1_go hP hG' hgr hpl hpo hv hat q0 q5 rfl rfl rfl rfl rfl ?_
        rintro A2 ⟨u0, u3, u5, u6, u7, u9, u10, u12, u14⟩ u15
        simp (config := { maxSteps := 200000 }) (disch := omega) only [BS, BC, e_seq, cond_if, ↓reduceIte, Nat.reduceEqDiff, u9, u14]
        refine pc (nodes_c hP _ hG') ?_
        simp (config := { maxSteps := 200000 }) (disch := omega) only [BS, BC, ↓reduceIte, Nat.reduceEqDiff, u6, hns2.len, hnl']
        refine pc (nodes_c hP _ hG6) ?_
        simp (config := { maxSteps := 200000 }) (disch := omega) only [BS, ↓reduceIte, Nat.reduceEqDiff, hns1.len, hnl, hw0 _ hN1, hlt]
        repeat (rw [guard_if]; simp (config := { maxSteps := 200000 }) (disch := omega) only [BS, BC, cond_if, ↓reduceIte, Nat.reduceEqDiff, reduceCtorEq, BM, u0, u3, u5, u7, u10, u12, u14, q0, q3, q5, her', hs1.len, hs2.len, List.length_map, hne1, wadd1])
        exact fin
    · obtain rfl : k = l.length := by omega
      simp (config := { maxSteps := 2000000 }) (disch := omega) only [c_grows_0, BS, BC, e_seq, cond_if, ↓reduceIte, Nat.reduceEqDiff, reduceCtorEq, q0, q5, hv.len, List.length_map, clt, hk1, decide_false]
      refine pc (awake_c hP _) ?_
      simp (config := { maxSteps := 200000 }) (disch := omega) only [BS, BC, ↓reduceIte]
      exact ⟨_, rfl, _, _, .weak weak_id, hX.nw.ex.nx, rfl⟩
end Go.AL.S
set_option maxRecDepth 100000
namespace Go.AL.S
open Go Go.AL
def shMi : Sh := .st [.bool, .int .u8, .int .u16]
def shAc : Sh := .st [.int .u8, .int .u8, .int .u16, .sl shMi, .sl (.sl (.int .u16))]
theorem wf_u8 {n : Int} (h : (Lit.int .u8 n).wf = true) : 0 ≤ n ∧ n < 256 := by
  simp [Lit.wf, IntKind.min, IntKind.max, IntKind.signed, IntKind.bits] at h; omega
theorem wf_u16 {n : Int} (h : (Lit.int .u16 n).wf = true) : 0 ≤ n ∧ n < 65536 := by
  simp [Lit.wf, IntKind.min, IntKind.max, IntKind.signed, IntKind.bits] at h; omega
/-- Elements, each of which is the value of something. -/
theorem list_of {α : Type} {f : α → V} {p : α → Prop} : ∀ {xs : List V}, (∀ x ∈ xs, ∃ a, x = f a ∧ p a) → ∃ l : List α, xs = l.map f ∧ ∀ a ∈ l, p a
  | [], _ => ⟨[], rfl, by simp⟩
  | x :: xs, h => by
    obtain ⟨a, rfl, ha⟩ := h x (by simp)
    obtain ⟨l, rfl, hl⟩ := list_of (xs := xs) fun y hy => h y (by simp [hy])
    refine ⟨a :: l, rfl, fun b hb => ?_⟩
    rcases List.mem_cons.1 hb with rfl | hb
    · exact ha
    · exact hl b hb
theorem mi_of {ws : List V} (h : shMi.Is ws) : ∃ m : Mi, shMi.val ws = m.V ∧ m.ok := by
  obtain ⟨_, _, rfl, ⟨b, rfl⟩, _, _, rfl, ⟨k, rfl, hk⟩, _, _, rfl, ⟨n, rfl, hn⟩, rfl⟩ := h
  have h1 := wf_u8 hk
  have h2 := wf_u16 hn
  exact ⟨⟨b, k, n⟩, rfl, h1.1, h1.2, h2.1, h2.2⟩
theorem mis_of {ws : List V} (h : (Sh.sl shMi).Is ws) : ∃ v l, ws = [v] ∧ isMs v l ∧ ∀ m ∈ l, m.ok := by
  obtain ⟨v, xs, rfl, hs, _, hx⟩ := h
  obtain ⟨l, rfl, hl⟩ := list_of (f := Mi.V) (p := Mi.ok) fun x hxm => by
    obtain ⟨ws, h1, rfl⟩ := hx x hxm
    obtain ⟨m, h2, h3⟩ := mi_of h1
    exact ⟨m, h2, h3⟩
  exact ⟨v, l, rfl, hs, hl⟩
theorem ints_of {ws : List V} (h : (Sh.sl (.int .u16)).Is ws) : ∃ v o, ws = [v] ∧ isEl v o ∧ ∀ n ∈ nums o, 0 ≤ n ∧ n < 65536 := by
  obtain ⟨v, xs, rfl, hs, _, hx⟩ := h
  obtain ⟨l, rfl, hl⟩ := list_of (f := V.int .u16) (p := fun n => 0 ≤ n ∧ n < 65536) fun x hxm => by
    obtain ⟨ws, ⟨n, rfl, hn⟩, rfl⟩ := hx x hxm
    exact ⟨n, rfl, wf_u16 hn⟩
  rcases hs with ⟨rfl, _⟩ | ⟨rfl, _⟩ | ⟨f, rfl⟩
  · exact ⟨_, none, rfl, .inl ⟨rfl, rfl⟩, by simp [nums]⟩
  · exact ⟨_, some [], rfl, .inr (.inl ⟨rfl, rfl⟩), by simp [nums]⟩
  · exact ⟨_, some l, rfl, .inr (.inr ⟨f, l, rfl, rfl⟩), hl⟩
theorem lists_of {ws : List V} (h : (Sh.sl (.sl (.int .u16))).Is ws) : ∃ v ls, ws = [v] ∧ isLs v ls ∧ ∀ o ∈ ls, ∀ n ∈ nums o, 0 ≤ n ∧ n < 65536 := by
  obtain ⟨v, xs, rfl, hs, _, hx⟩ := h
  have hgo : ∀ xs : List V, (∀ x ∈ xs, ∃ ws, (Sh.sl (.int .u16)).Is ws ∧ x = (Sh.sl (.int .u16)).val ws) → ∃ ls : List (Option (List Int)), xs.length = ls.length ∧ (∀ k (h : k < xs.length) (h' : k < ls.length), isEl xs[k] ls[k]) ∧ ∀ o ∈ ls, ∀ n ∈ nums o, 0 ≤ n ∧ n < 65536 := by
    intro xs
    induction xs with
    | nil => intro _; exact ⟨[], rfl, fun k h => by simp at h, by simp⟩
    | cons x xs ih =>
      intro h
      obtain ⟨ws, h1, rfl⟩ := h x (by simp)
      obtain ⟨v, o, rfl, h2, h3⟩ := ints_of h1
      obtain ⟨ls, l1, l2, l3⟩ := ih fun y hy => h y (by simp [hy])
      refine ⟨o :: ls, by simp [l1], fun k hk hk' => ?_, fun o' ho' => ?_⟩
      · cases k with
        | zero => exact h2
        | succ k => exact l2 k (by simpa using hk) (by simpa using hk')
      · rcases List.mem_cons.1 ho' with rfl | ho'
        · exact h3
        · exact l3 o' ho'
  obtain ⟨ls, l1, l2, l3⟩ := hgo xs hx
  exact ⟨v, ls, rfl, ⟨xs, hs, l1, l2⟩, l3⟩
theorem ac_of {ws : List V} (h : shAc.Is ws) : ∃ a : Ac, shAc.val ws = a.V ∧ a.ok := by
  obtain ⟨_, _, rfl, ⟨w, rfl, hw⟩, _, _, rfl, ⟨c, rfl, hc⟩, _, _, rfl, ⟨i, rfl, hi⟩, ws3, _, rfl, h3, ws4, _, rfl, h4, rfl⟩ := h
  have hb := h4.bel (n := 0)
  obtain ⟨t, l, rfl, t1, t2⟩ := mis_of h3
  obtain ⟨r, ls, rfl, r1, r2⟩ := lists_of h4
  refine ⟨⟨w, c, i, t, l, r, ls⟩, rfl, wf_u8 hw, wf_u8 hc, wf_u16 hi, t1, r1, t2, r2, ?_⟩
  simpa [V.belL] using hb
theorem acs_of {ws : List V} (h : (Sh.sl shAc).Is ws) : ∃ v, ∃ l : List Ac, ws = [v] ∧ isS 5 v (l.map Ac.V) ∧ (∀ a ∈ l, a.ok) ∧ l.length < 2 ^ 48 := by
  obtain ⟨v, xs, rfl, hs, hl, hx⟩ := h
  obtain ⟨l, rfl, hl'⟩ := list_of (f := Ac.V) (p := Ac.ok) fun x hxm => by
    obtain ⟨ws, h1, rfl⟩ := hx x hxm
    obtain ⟨a, h2, h3⟩ := ac_of h1
    exact ⟨a, h2, h3⟩
  exact ⟨v, l, rfl, hs, hl', by simpa using hl⟩
end Go.AL.S
