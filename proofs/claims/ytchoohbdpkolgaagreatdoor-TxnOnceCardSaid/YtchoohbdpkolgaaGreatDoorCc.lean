/- The law's own functions, and the law's walk. Conditions: none. -/
import Derived.Test.YtchoohbdpkolgaaGreatDoorCb
set_option maxRecDepth 100000
namespace Go.AL.S
open Go Go.AL Go.Proofs
def c5_1 : AC := (AC.seq (AC.seq (AC.reg [
       ⟨(some 31), .mov, [.t 4], none⟩,
       ⟨(some 32), .mov, [.t 0], none⟩,
       ⟨(some 33), .mov, [.t 3], none⟩,
       ⟨(some 34), .idxp 5, [.t 32, .t 33], none⟩,
       ⟨(some 35), .fld 4, [.t 34], none⟩,
       ⟨(some 36), .load false 1, [.t 35], none⟩,
       ⟨(some 37), .len 1 0, [.t 36], none⟩,
       ⟨(some 38), .bin .lss, [.t 31, .t 37], none⟩])
      (AC.cond (.t 38)
       AC.skip
       (AC.exit 2)))
      (AC.seq (AC.block 3
       (AC.seq (AC.reg [
        ⟨(some 41), .mov, [.t 0], none⟩,
        ⟨(some 42), .mov, [.t 3], none⟩,
        ⟨(some 43), .idxp 5, [.t 41, .t 42], none⟩,
        ⟨(some 44), .fld 4, [.t 43], none⟩,
        ⟨(some 45), .load false 1, [.t 44], none⟩,
        ⟨(some 46), .mov, [.t 4], none⟩,
        ⟨(some 47), .idxp 1, [.t 45, .t 46], none⟩,
        ⟨(some 48), .load false 1, [.t 47], none⟩,
        ⟨(some 49), .len 1 0, [.t 48], none⟩,
        ⟨(some 50), .bin .gtr, [.t 49, .c (.int .i64 40)], none⟩])
       (AC.cond (.t 50)
        (AC.seq (AC.reg [
         ⟨(some 2), .mov, [.c (.bool false)], none⟩])
        AC.ret)
        AC.skip)))
      (AC.reg [
       ⟨(some 39), .mov, [.t 4], none⟩,
       ⟨(some 40), .bin .add, [.t 39, .c (.int .i64 1)], none⟩,
       ⟨(some 4), .mov, [.t 40], none⟩])))
def c5_0 : AC := (AC.seq (AC.seq (AC.reg [
    ⟨(some 5), .mov, [.t 3], none⟩,
    ⟨(some 6), .mov, [.t 0], none⟩,
    ⟨(some 7), .len 1 0, [.t 6], none⟩,
    ⟨(some 8), .bin .lss, [.t 5, .t 7], none⟩,
    ⟨(some 9), .mov, [.t 8], none⟩,
    ⟨(some 10), .mov, [.t 3], (some (9, true))⟩,
    ⟨(some 11), .bin .lss, [.t 10, .c (.int .i64 90)], (some (9, true))⟩,
    ⟨(some 12), .pick, [.t 9, .t 11, .c (.bool false)], none⟩])
   (AC.cond (.t 12)
    AC.skip
    (AC.exit 0)))
   (AC.seq (AC.block 1
    (AC.seq (AC.seq (AC.reg [
     ⟨(some 15), .mov, [.t 0], none⟩,
     ⟨(some 16), .mov, [.t 3], none⟩,
     ⟨(some 17), .idxp 5, [.t 15, .t 16], none⟩,
     ⟨(some 18), .fld 3, [.t 17], none⟩,
     ⟨(some 19), .load false 1, [.t 18], none⟩,
     ⟨(some 20), .len 1 0, [.t 19], none⟩,
     ⟨(some 21), .bin .gtr, [.t 20, .c (.int .i64 20)], none⟩,
     ⟨(some 22), .mov, [.t 21], none⟩,
     ⟨(some 23), .mov, [.t 0], (some (22, false))⟩,
     ⟨(some 24), .mov, [.t 3], (some (22, false))⟩,
     ⟨(some 25), .idxp 5, [.t 23, .t 24], (some (22, false))⟩,
     ⟨(some 26), .fld 4, [.t 25], (some (22, false))⟩,
     ⟨(some 27), .load false 1, [.t 26], (some (22, false))⟩,
     ⟨(some 28), .len 1 0, [.t 27], (some (22, false))⟩,
     ⟨(some 29), .bin .gtr, [.t 28, .c (.int .i64 20)], (some (22, false))⟩,
     ⟨(some 30), .pick, [.t 22, .c (.bool true), .t 29], none⟩])
    (AC.cond (.t 30)
     (AC.seq (AC.reg [
      ⟨(some 2), .mov, [.c (.bool false)], none⟩])
     AC.ret)
     AC.skip))
    (AC.seq (AC.reg [
     ⟨(some 4), .mov, [.c (.int .i64 0)], none⟩])
    (AC.block 2
     (AC.loop c5_1)))))
   (AC.reg [
    ⟨(some 13), .mov, [.t 3], none⟩,
    ⟨(some 14), .bin .add, [.t 13, .c (.int .i64 1)], none⟩,
    ⟨(some 3), .mov, [.t 14], none⟩])))
/- umpire/umpirelaw25.few -/
def c5 : AC := (AC.seq (AC.reg [
  ⟨(some 2), .mov, [.c (.bool false)], none⟩])
 (AC.seq (AC.seq (AC.reg [
  ⟨(some 3), .mov, [.c (.int .i64 0)], none⟩])
 (AC.block 0
  (AC.loop c5_0)))
 (AC.seq (AC.reg [
  ⟨(some 51), .mov, [.t 0], none⟩,
  ⟨(some 52), .len 1 0, [.t 51], none⟩,
  ⟨(some 53), .bin .leq, [.t 52, .c (.int .i64 80)], none⟩,
  ⟨(some 2), .mov, [.t 53], none⟩])
 AC.ret)))
def r5 : AC × List RT × Nat := (c5, [.tmp 2], 54)
theorem ok5e : compF Tryz.prog Tryz.f5 ⟨false, false, []⟩ = some r5 := by kernel_rfl
/- umpire/umpirelaw25.who -/
def c25 : AC := (AC.seq (AC.reg [
  ⟨(some 6), .mov, [.c (.int .i64 0)], none⟩])
 (AC.seq (AC.reg [
  ⟨(some 10), .mov, [.t 0], none⟩,
  ⟨(some 11), .mov, [.t 1], none⟩,
  ⟨(some 12), .mov, [.t 2], none⟩,
  ⟨(some 13), .call 21, [.t 10, .t 11, .t 12], none⟩,
  ⟨(some 9), .mov, [.t 13], none⟩,
  ⟨(some 14), .ext 0, [.t 9], none⟩,
  ⟨(some 15), .ext 1, [.t 9], none⟩,
  ⟨(some 7), .alloc [.int .u16 0, .int .u8 0, .nilsl, .nilsl, .int .u8 0], [], none⟩,
  ⟨none, .store 5, [.t 7, .t 14], none⟩,
  ⟨(some 8), .mov, [.t 15], none⟩])
 (AC.seq (AC.seq (AC.reg [
  ⟨(some 16), .mov, [.t 8], none⟩,
  ⟨(some 17), .un .not, [.t 16], none⟩])
 (AC.cond (.t 17)
  (AC.seq (AC.reg [
   ⟨(some 6), .mov, [.c (.int .i64 (-1))], none⟩])
  AC.ret)
  AC.skip))
 (AC.seq (AC.reg [
  ⟨(some 18), .fld 0, [.t 7], none⟩,
  ⟨(some 19), .load false 1, [.t 18], none⟩,
  ⟨(some 20), .conv .i64, [.t 19], none⟩,
  ⟨(some 6), .mov, [.t 20], none⟩])
 AC.ret))))
def r25 : AC × List RT × Nat := (c25, [.tmp 6], 21)
theorem ok25e : compF Tryz.prog Tryz.f25 ⟨false, false, []⟩ = some r25 := by kernel_rfl
def c38_0 : AC := (AC.seq (AC.seq (AC.reg [
    ⟨(some 7), .mov, [.t 6], none⟩,
    ⟨(some 8), .fld 2, [.t 2], none⟩,
    ⟨(some 9), .load false 1, [.t 8], none⟩,
    ⟨(some 10), .len 1 0, [.t 9], none⟩,
    ⟨(some 11), .bin .lss, [.t 7, .t 10], none⟩])
   (AC.cond (.t 11)
    AC.skip
    (AC.exit 0)))
   (AC.seq (AC.block 1
    (AC.seq (AC.par
     (PT.step 0 ⟨(some 14), .fld 2, [.t 2], none⟩
     (PT.step 2 ⟨(some 16), .mov, [.t 6], none⟩
     (PT.step 1 ⟨(some 15), .load false 1, [.t 14], none⟩
     (PT.step 3 ⟨(some 17), .idxp 3, [.t 15, .t 16], none⟩
     (PT.step 4 ⟨(some 18), .load true 3, [.t 17], none⟩
     (PT.step 5 ⟨(some 19), .load true 3, [.t 3], none⟩
     (PT.step 6 ⟨(some 20), .eqv false (true, [.b, .i .u8, .i .u16]), [.t 18, .t 19], none⟩
     PT.done))))))))
    (AC.cond (.t 20)
     (AC.reg [
      ⟨(some 21), .mov, [.t 5], none⟩,
      ⟨(some 22), .bin .add, [.t 21, .c (.int .i64 1)], none⟩,
      ⟨(some 5), .mov, [.t 22], none⟩])
     AC.skip)))
   (AC.reg [
    ⟨(some 12), .mov, [.t 6], none⟩,
    ⟨(some 13), .bin .add, [.t 12, .c (.int .i64 1)], none⟩,
    ⟨(some 6), .mov, [.t 13], none⟩])))
/- umpire/umpirelaw25.times -/
def c38 : AC := (AC.seq (AC.reg [
  ⟨(some 2), .box, [.t 0], none⟩,
  ⟨(some 3), .box, [.t 1], none⟩,
  ⟨(some 4), .mov, [.c (.int .i64 0)], none⟩])
 (AC.seq (AC.reg [
  ⟨(some 5), .mov, [.c (.int .i64 0)], none⟩])
 (AC.seq (AC.seq (AC.reg [
  ⟨(some 6), .mov, [.c (.int .i64 0)], none⟩])
 (AC.block 0
  (AC.loop c38_0)))
 (AC.seq (AC.reg [
  ⟨(some 23), .mov, [.t 5], none⟩,
  ⟨(some 4), .mov, [.t 23], none⟩])
 AC.ret))))
def r38 : AC × List RT × Nat := (c38, [.tmp 4], 24)
theorem ok38e : compF Tryz.prog Tryz.f38 ⟨false, false, []⟩ = some r38 := by kernel_rfl
variable {E : Env}
/-! acts -/
structure Ac where
  what : Int
  client : Int
  id : Int
  tx : V
  txl : List Mi
  rd : V
  rdl : List (Option (List Int))
def Ac.V (a : Ac) : V := .agg [.int .u8 a.what, .int .u8 a.client, .int .u16 a.id, a.tx, a.rd]
structure Ac.ok (a : Ac) : Prop where
  wh : 0 ≤ a.what ∧ a.what < 256
  cl : 0 ≤ a.client ∧ a.client < 256
  id : 0 ≤ a.id ∧ a.id < 65536
  tx : isMs a.tx a.txl
  rd : isLs a.rd a.rdl
  ms : ∀ m ∈ a.txl, m.ok
  ns : ∀ o ∈ a.rdl, ∀ n ∈ nums o, 0 ≤ n ∧ n < 65536
  bel : a.rd.bel 0 = true
theorem Ac.ok.rdS {a : Ac} (h : a.ok) : ∃ xs, isS 1 a.rd xs ∧ xs.length = a.rdl.length ∧ ∀ k (h : k < xs.length) (h' : k < a.rdl.length), isEl xs[k] a.rdl[k] := h.rd
def Ac.small (a : Ac) : Prop := a.txl.length ≤ 20 ∧ a.rdl.length ≤ 20 ∧ ∀ o ∈ a.rdl, (nums o).length ≤ 40
theorem ac_load1 {W : AW} {K : V → AW → Prop} {a : Ac} : sem E (.fld 3) [.cptr a.V.cells] W K = K (.cptr [a.tx, a.rd]) W := by
  simp [Ac.V, V.cells, sem, rsem, tsem]
theorem ac_load2 {W : AW} {K : V → AW → Prop} {a : Ac} : sem E (.fld 4) [.cptr a.V.cells] W K = K (.cptr [a.rd]) W := by
  simp [Ac.V, V.cells, sem, rsem, tsem]
theorem few_in (W : AW) {v : V} {l : List Ac} (hv : isS 5 v (l.map Ac.V)) {i : Nat} (hi : i < l.length) (ha : l[i].ok) (h20 : l[i].rdl.length ≤ 20) {A : AFr} {Q : Exit → AFr → AW → Prop}
    (a0 : A 0 = some v) (a3 : A 3 = some (.int .i64 i)) (a4 : A 4 = some (.int .i64 0))
    (hret : ∀ A', A' 2 = some (.bool false) → Q .ret A' W)
    (hex : ∀ A', A' 0 = some v → A' 3 = some (.int .i64 i) → (∀ o ∈ l[i].rdl, (nums o).length ≤ 40) → Q (.exit 2) A' W) : ALoop (awp E c5_1) Q A W := by
  obtain ⟨xs, i1, i2, i3⟩ := ha.rdS
  have hat : (l.map Ac.V)[i]? = some l[i].V := by simp [hi]
  refine ALoop.go (B := awp E _) (fun h => awp_mono _ h) (fun (k : Nat) A1 W1 => A1 0 = some v ∧ A1 3 = some (.int .i64 i) ∧ A1 4 = some (.int .i64 k) ∧ k ≤ xs.length ∧ W1 = W ∧ ∀ j (hj : j < l[i].rdl.length), j < k → (nums l[i].rdl[j]).length ≤ 40) (fun k => xs.length - k) 0
    ⟨a0, a3, a4, Nat.zero_le _, rfl, fun _ _ h => by omega⟩ ?_
  rintro k A1 W1 ⟨g0, g3, g4, gk, rfl, ge⟩ _
  by_cases hk1 : k < xs.length
  · have e1 : xs[k]? = some xs[k] := List.getElem?_eq_getElem _
    have t := i3 k hk1 (by omega)
    have h40 : decide (((nums l[i].rdl[k]).length : Int) > 40) = decide ((nums l[i].rdl[k]).length > 40) := by simp; omega
    by_cases hb : (nums l[i].rdl[k]).length > 40
    · simp (config := { maxSteps := 2000000 }) (disch := omega) only [c5_1, e_seq, e_reg, cond_if, e_block, e_ret, e_skip, e_cons, e_nil, e_plain, evs_nil, evs_cons, ev_t, ev_c, e_putK, e_putd, e_put, e_then, e_then_ret, e_blk_ret, ↓reduceIte, Nat.reduceEqDiff, reduceCtorEq, sem_mov, sem_lss, sem_gtr, m_loadcf, g0, g3, g4, hv.idx hat, ac_load2, i1.len, clt, hk1, decide_true, i1.idx e1, t.isS.loadf, t.isS.len, ints_len, h40, decide_eq_true hb]
      exact hret _ rfl
    · simp (config := { maxSteps := 2000000 }) (disch := omega) only [c5_1, e_seq, e_reg, cond_if, e_block, e_skip, e_cons, e_nil, e_plain, evs_nil, evs_cons, ev_t, ev_c, e_putK, e_putd, e_put, e_then, e_blk, ↓reduceIte, Nat.reduceEqDiff, reduceCtorEq, Bool.false_eq_true, sem_mov, sem_add, sem_lss, sem_gtr, m_loadcf, g0, g3, g4, hv.idx hat, ac_load2, i1.len, clt, hk1, decide_true, i1.idx e1, t.isS.loadf, t.isS.len, ints_len, h40, decide_eq_false hb, wadd1]
      refine ⟨k + 1, ⟨(by first | trivial | rfl | omega), (by first | trivial | rfl | omega), (by first | trivial | rfl | omega), (by first | trivial | rfl | omega), (by first | trivial | rfl | omega), fun j hj hjk => ?_⟩, by omega, Nat.le_refl _⟩
      by_cases e : j = k
      · subst e; omega
      · exact ge j hj (by omega)
  · simp (config := { maxSteps := 2000000 }) (disch := omega) only [c5_1, e_seq, e_reg, cond_if, e_exit, e_cons, e_nil, e_plain, evs_nil, evs_cons, ev_t, e_putK, e_putd, e_put, e_then, e_then_exit, ↓reduceIte, Nat.reduceEqDiff, reduceCtorEq, Bool.false_eq_true, sem_mov, sem_lss, m_loadcf, g0, g3, g4, hv.idx hat, ac_load2, i1.len, clt, hk1, decide_false]
    refine hex _ g0 g3 fun o ho => ?_
    obtain ⟨j, hj, rfl⟩ := List.mem_iff_getElem.1 ho
    exact ge j hj (by omega)
theorem few_c (hP : E.P = Tryz.prog) (W : AW) {v : V} {l : List Ac} (hv : isS 5 v (l.map Ac.V)) (ha : ∀ a ∈ l, a.ok) (hl : l.length < 2 ^ 48) :
    ACalls E 5 [v] W fun Y W' => W' = W ∧ ∃ b, Y = .bool b ∧ (b = true → l.length ≤ 80 ∧ ∀ a ∈ l, a.small) := by
  refine ACalls.of hP Tryz.func5 ok5e (by simp) fun _ hok => ?_
  simp only [c5, e_seq, e_reg, e_block, e_cons, e_nil, e_plain, evs_nil, evs_cons, ev_c, e_putK, e_putd, e_then, sem_mov]
  rw [e_loop]
  refine ALoop.go (B := awp E _) (fun h => awp_mono _ h) (fun (k : Nat) A1 W1 => A1 0 = some v ∧ A1 3 = some (.int .i64 k) ∧ k ≤ l.length ∧ k ≤ 90 ∧ W1 = W ∧ ∀ j (hj : j < l.length), j < k → l[j].small) (fun k => l.length - k) 0
    ⟨rfl, rfl, Nat.zero_le _, by omega, rfl, fun _ _ h => by omega⟩ ?_
  rintro k A1 W1 ⟨g0, g3, gk, gk9, rfl, ge⟩ _
  have h80 : decide ((l.length : Int) ≤ 80) = decide (l.length ≤ 80) := by simp; omega
  have h90 : decide ((k : Int) < 90) = decide (k < 90) := by simp; omega
  by_cases hk1 : k < l.length
  · by_cases hk2 : k < 90
    · have hat : (l.map Ac.V)[k]? = some l[k].V := by simp [hk1]
      have hak := ha l[k] (List.getElem_mem hk1)
      obtain ⟨xs, i1, i2, i3⟩ := hak.rdS
      have h20 : decide ((l[k].txl.length : Int) > 20) = decide (l[k].txl.length > 20) := by simp; omega
      have h20' : decide ((l[k].rdl.length : Int) > 20) = decide (l[k].rdl.length > 20) := by simp; omega
      by_cases hb : l[k].txl.length > 20
      · simp (config := { maxSteps := 2000000 }) (disch := omega) only [c5_0, e_seq, e_reg, cond_if, e_block, e_ret, e_skip, e_cons, e_nil, e_plain, guard_if, evs_nil, evs_cons, ev_t, ev_c, e_putK, e_putd, e_put, e_then, e_then_ret, e_blk_ret, retQ_ret, e_res1, ↓reduceIte, Nat.reduceEqDiff, reduceCtorEq, Option.map_some, Bool.true_eq_false, frz_bool, sem_mov, sem_pick, sem_lss, sem_gtr, m_loadcf, undef_t, g0, g3, hv.len, List.length_map, clt, hk1, h90, hk2, decide_true, hv.idx hat, ac_load1, hak.tx.len, h20, decide_eq_true hb]
        exact ⟨_, rfl, _, _, .weak weak_id, Nat.le_refl _, rfl, _, rfl, by simp⟩
      · by_cases hb' : l[k].rdl.length > 20
        · simp (config := { maxSteps := 2000000 }) (disch := omega) only [c5_0, e_seq, e_reg, cond_if, e_block, e_ret, e_skip, e_cons, e_nil, e_plain, guard_if, evs_nil, evs_cons, ev_t, ev_c, e_putK, e_putd, e_put, e_then, e_then_ret, e_blk_ret, retQ_ret, e_res1, ↓reduceIte, Nat.reduceEqDiff, reduceCtorEq, Option.map_some, Bool.false_eq_true, frz_bool, sem_mov, sem_pick, sem_lss, sem_gtr, m_loadcf, g0, g3, hv.len, List.length_map, clt, hk1, h90, hk2, decide_true, hv.idx hat, ac_load1, ac_load2, hak.tx.len, h20, decide_eq_false hb, i1.len, i2, h20', decide_eq_true hb']
          exact ⟨_, rfl, _, _, .weak weak_id, Nat.le_refl _, rfl, _, rfl, by simp⟩
        · simp (config := { maxSteps := 2000000 }) (disch := omega) only [c5_0, e_seq, e_reg, cond_if, e_block, e_skip, e_cons, e_nil, e_plain, guard_if, evs_nil, evs_cons, ev_t, ev_c, e_putK, e_putd, e_put, e_then, ↓reduceIte, Nat.reduceEqDiff, reduceCtorEq, Bool.false_eq_true, sem_mov, sem_pick, sem_lss, sem_gtr, m_loadcf, g0, g3, hv.len, List.length_map, clt, hk1, h90, hk2, decide_true, hv.idx hat, ac_load1, ac_load2, hak.tx.len, h20, decide_eq_false hb, i1.len, i2, h20', decide_eq_false hb', e_loop]
          refine few_in W1 hv hk1 hak (by omega) g0 g3 rfl ?_ ?_
          · intro A' h2
            simp only [e_then_ret, e_blk_ret, retQ_ret, e_res1, Option.map_some, frz_bool, h2]
            exact ⟨_, rfl, _, _, .weak weak_id, Nat.le_refl _, rfl, _, rfl, by simp⟩
          · intro A' h0 h3 hall
            simp (config := { maxSteps := 2000000 }) (disch := omega) only [e_reg, e_cons, e_nil, e_plain, evs_nil, evs_cons, ev_t, ev_c, e_putK, e_putd, e_put, e_then, e_blk, e_blk_exit, ↓reduceIte, reduceCtorEq, sem_mov, sem_add, h0, h3, wadd1]
            refine ⟨k + 1, ⟨(by first | trivial | rfl | omega), (by first | trivial | rfl | omega), (by first | trivial | rfl | omega), (by first | trivial | rfl | omega), (by first | trivial | rfl | omega), fun j hj hjk => ?_⟩, by omega, Nat.le_refl _⟩
            by_cases e : j = k
            · subst e; exact ⟨by omega, by omega, hall⟩
            · exact ge j hj (by omega)
    · simp (config := { maxSteps := 2000000 }) (disch := omega) only [c5_0, e_seq, e_reg, cond_if, e_exit, e_ret, e_cons, e_nil, e_plain, guard_if, evs_nil, evs_cons, ev_t, ev_c, e_putK, e_putd, e_put, e_then, e_then_exit, e_blk_exit, retQ_ret, e_res1, ↓reduceIte, Nat.reduceEqDiff, reduceCtorEq, Option.map_some, Bool.false_eq_true, frz_bool, sem_mov, sem_pick, sem_lss, sem_leq, g0, g3, hv.len, List.length_map, clt, hk1, h90, hk2, decide_true, decide_false, h80]
      exact ⟨_, rfl, _, _, .weak weak_id, Nat.le_refl _, rfl, _, rfl, fun h => by simp at h; omega⟩
  · simp (config := { maxSteps := 2000000 }) (disch := omega) only [c5_0, e_seq, e_reg, cond_if, e_exit, e_ret, e_cons, e_nil, e_plain, guard_if, evs_nil, evs_cons, ev_t, ev_c, e_putK, e_putd, e_put, e_then, e_then_exit, e_blk_exit, retQ_ret, e_res1, ↓reduceIte, Nat.reduceEqDiff, reduceCtorEq, Option.map_some, Bool.false_eq_true, frz_bool, sem_mov, sem_pick, sem_lss, sem_leq, undef_t, g0, g3, hv.len, List.length_map, clt, hk1, decide_false, h80]
    refine ⟨_, rfl, _, _, .weak weak_id, Nat.le_refl _, rfl, _, rfl, fun h => ⟨by simpa using h, fun a ha => ?_⟩⟩
    obtain ⟨j, hj, rfl⟩ := List.mem_iff_getElem.1 ha
    exact ge j hj (by omega)
end Go.AL.S
set_option maxRecDepth 100000
namespace Go.AL.S
open Go Go.AL Go.Proofs
def c14_1 : AC := (AC.seq (AC.seq (AC.reg [
       ⟨(some 14), .mov, [.t 6], none⟩,
       ⟨(some 15), .mov, [.t 1], none⟩,
       ⟨(some 16), .mov, [.t 5], none⟩,
       ⟨(some 17), .idxp 5, [.t 15, .t 16], none⟩,
       ⟨(some 18), .fld 2, [.t 17], none⟩,
       ⟨(some 19), .load false 1, [.t 18], none⟩,
       ⟨(some 20), .len 1 0, [.t 19], none⟩,
       ⟨(some 21), .bin .lss, [.t 14, .t 20], none⟩])
      (AC.cond (.t 21)
       AC.skip
       (AC.exit 2)))
      (AC.seq (AC.block 3
       (AC.seq (AC.reg [
        ⟨(some 24), .mov, [.t 1], none⟩,
        ⟨(some 25), .mov, [.t 5], none⟩,
        ⟨(some 26), .idxp 5, [.t 24, .t 25], none⟩,
        ⟨(some 27), .fld 2, [.t 26], none⟩,
        ⟨(some 28), .load false 1, [.t 27], none⟩,
        ⟨(some 29), .mov, [.t 6], none⟩,
        ⟨(some 30), .idxp 3, [.t 28, .t 29], none⟩,
        ⟨(some 31), .load true 3, [.t 30], none⟩,
        ⟨(some 7), .alloc [.bool false, .int .u8 0, .int .u16 0], [], none⟩,
        ⟨none, .store 3, [.t 7, .t 31], none⟩])
       (AC.seq (AC.par
        (PT.step 0 ⟨(some 32), .fld 0, [.t 7], none⟩
        (PT.step 1 ⟨(some 33), .load false 1, [.t 32], none⟩
        (PT.step 2 ⟨(some 34), .un .not, [.t 33], none⟩
        (PT.step 3 ⟨(some 35), .mov, [.t 34], none⟩
        (PT.step 4 ⟨(some 36), .mov, [.t 0], (some (35, true))⟩
        (PT.step 5 ⟨(some 37), .fld 1, [.t 7], (some (35, true))⟩
        (PT.step 7 ⟨(some 39), .fld 2, [.t 7], (some (35, true))⟩
        (PT.step 10 ⟨(some 42), .mov, [.t 1], (some (35, true))⟩
        (PT.step 11 ⟨(some 43), .mov, [.t 5], (some (35, true))⟩
        (PT.step 6 ⟨(some 38), .load false 1, [.t 37], (some (35, true))⟩
        (PT.step 8 ⟨(some 40), .load false 1, [.t 39], (some (35, true))⟩
        (PT.step 9 ⟨(some 41), .pcall 25, [.t 36, .t 38, .t 40], (some (35, true))⟩
        (PT.step 12 ⟨(some 44), .idxp 5, [.t 42, .t 43], (some (35, true))⟩
        (PT.step 13 ⟨(some 45), .fld 0, [.t 44], (some (35, true))⟩
        (PT.step 14 ⟨(some 46), .load false 1, [.t 45], (some (35, true))⟩
        (PT.step 15 ⟨(some 47), .conv .i64, [.t 46], (some (35, true))⟩
        (PT.step 16 ⟨(some 48), .bin .neq, [.t 41, .t 47], (some (35, true))⟩
        (PT.step 17 ⟨(some 49), .mov, [.t 48], (some (35, true))⟩
        (PT.step 18 ⟨(some 50), .mov, [.t 1], (some (49, false))⟩
        (PT.step 19 ⟨(some 51), .mov, [.t 5], (some (49, false))⟩
        (PT.step 20 ⟨(some 52), .idxp 5, [.t 50, .t 51], (some (49, false))⟩
        (PT.step 21 ⟨(some 53), .load true 5, [.t 52], (some (49, false))⟩
        (PT.step 22 ⟨(some 54), .load true 3, [.t 7], (some (49, false))⟩
        (PT.step 23 ⟨(some 55), .pcall 38, [.t 53, .t 54], (some (49, false))⟩
        (PT.step 24 ⟨(some 56), .bin .neq, [.t 55, .c (.int .i64 1)], (some (49, false))⟩
        (PT.step 25 ⟨(some 57), .pick, [.t 49, .c (.bool true), .t 56], (some (35, true))⟩
        (PT.step 26 ⟨(some 58), .pick, [.t 35, .t 57, .c (.bool false)], none⟩
        PT.done))))))))))))))))))))))))))))
       (AC.cond (.t 58)
        (AC.seq (AC.reg [
         ⟨(some 4), .mov, [.c (.bool false)], none⟩])
        AC.ret)
        AC.skip))))
      (AC.reg [
       ⟨(some 22), .mov, [.t 6], none⟩,
       ⟨(some 23), .bin .add, [.t 22, .c (.int .i64 1)], none⟩,
       ⟨(some 6), .mov, [.t 23], none⟩])))
def c14_0 : AC := (AC.seq (AC.seq (AC.reg [
    ⟨(some 8), .mov, [.t 5], none⟩,
    ⟨(some 9), .mov, [.t 1], none⟩,
    ⟨(some 10), .len 1 0, [.t 9], none⟩,
    ⟨(some 11), .bin .lss, [.t 8, .t 10], none⟩])
   (AC.cond (.t 11)
    AC.skip
    (AC.exit 0)))
   (AC.seq (AC.block 1
    (AC.seq (AC.reg [
     ⟨(some 6), .mov, [.c (.int .i64 0)], none⟩])
    (AC.block 2
     (AC.loop c14_1))))
   (AC.reg [
    ⟨(some 12), .mov, [.t 5], none⟩,
    ⟨(some 13), .bin .add, [.t 12, .c (.int .i64 1)], none⟩,
    ⟨(some 5), .mov, [.t 13], none⟩])))
/- umpire/umpirelaw25.once -/
def c14 : AC := (AC.seq (AC.reg [
  ⟨(some 4), .mov, [.c (.bool false)], none⟩])
 (AC.seq (AC.seq (AC.reg [
  ⟨(some 5), .mov, [.c (.int .i64 0)], none⟩])
 (AC.block 0
  (AC.loop c14_0)))
 (AC.seq (AC.reg [
  ⟨(some 4), .mov, [.c (.bool true)], none⟩])
 AC.ret)))
def r14 : AC × List RT × Nat := (c14, [.tmp 4], 59)
theorem ok14e : compF Tryz.prog Tryz.f14 ⟨false, false, []⟩ = some r14 := by kernel_rfl
variable {E : Env}
def whoI (s : Str) (k v : Int) : Int := match who s k v with
  | some t => t.id
  | none => -1
theorem whoI_c (hP : E.P = Tryz.prog) (W : AW) {p ra rw : Nat} {s : Str} (h : St W p ra rw s) (k v : Int) (h0 : 0 ≤ k) (h1 : k < 256) (h2 : 0 ≤ v) (h3 : v < 65536) :
    ACalls E 25 [.ptr p 0, .int .u8 k, .int .u16 v] W fun Y W' => Y = .int .i64 (whoI s k v) ∧ W' = W := by
  refine ACalls.of hP Tryz.func25 ok25e (by simp) fun _ hok => ?_
  refine awp_start hok ?_
  simp only [c25, e_seq, e_reg, e_cons, e_nil, e_plain, evs_nil, evs_cons, ev_t, ev_c, argsA_ap, e_putK, e_putd, e_put, e_then, ↓reduceIte, Nat.reduceEqDiff, reduceCtorEq, List.map_cons, List.map_nil, List.getElem?_cons_zero, List.getElem?_cons_succ, frz_int, frz_ptr, sem_mov, sem_call]
  refine pc (who_c hP _ (h.ex .x0) k v h0 h1 h2 h3) ?_
  cases hw : who s k v with
  | none =>
    simp only [e_seq, e_reg, cond_if, e_ret, e_cons, e_nil, e_plain, evs_nil, evs_cons, ev_t, ev_c, e_putK, e_putd, e_putd0, e_put, e_then, e_then_ret, retQ_ret, e_res1, ↓reduceIte, Nat.reduceEqDiff, Option.map_some, List.getElem?_cons_zero, frz_int, sem_mov, sem_not, sem_ext0, sem_ext1, sem_alloc, X_alloc, X_nx, X_get, X_put1, m_store, storeK_row, cells_agg, one_int, List.nil_append, List.append_nil, List.length_cons, List.length_nil, Nat.zero_add, Nat.reduceAdd, Nat.reduceLeDiff, Nat.reduceLT, List.set_cons_zero, List.drop_succ_cons, List.drop_nil, List.take_zero, List.all_cons, List.all_nil, Bool.and_self, Bool.not_false, undef_t, msV_one, lsV_one, Option.isSome_none, Option.getD_none, Tx.V, Tx.zero]
    exact ⟨_, rfl, _, W, backX hok rfl, Nat.le_refl _, by simp [whoI, hw], rfl⟩
  | some t =>
    have ht := h.ok.ok t (who_mem hw).1
    simp only [e_seq, e_reg, cond_if, e_ret, e_skip, e_cons, e_nil, e_plain, evs_nil, evs_cons, ev_t, e_putK, e_putd, e_putd0, e_put, e_then, retQ_ret, e_res1, ↓reduceIte, Nat.reduceEqDiff, Option.map_some, List.getElem?_cons_zero, Bool.false_eq_true, frz_int, sem_mov, sem_not, sem_conv, sem_ext0, sem_ext1, sem_alloc, sem_fld_ptr, X_alloc, X_nx, X_get, X_put1, m_load, loadK_f, optK_some, m_store, storeK_row, cells_agg, one_int, List.nil_append, List.append_nil, List.length_cons, List.length_nil, Nat.zero_add, Nat.add_zero, Nat.reduceAdd, Nat.reduceLeDiff, Nat.reduceLT, List.set_cons_zero, List.drop_succ_cons, List.drop_nil, List.take_zero, List.all_cons, List.all_nil, Bool.and_self, Bool.not_true, undef_t, msV_one, lsV_one, Option.isSome_some, Option.getD_some, Tx.V, i64_16 ht.id0 ht.id1]
    exact ⟨_, rfl, _, W, backX hok rfl, Nat.le_refl _, by simp [whoI, hw], rfl⟩
def timesN (l : List Mi) (m : Mi) : Nat := (l.filter fun x => decide (x = m)).length
theorem times_take {l : List Mi} {m : Mi} {k : Nat} (h : k < l.length) : timesN (l.take (k + 1)) m = timesN (l.take k) m + (if l[k] = m then 1 else 0) := by
  rw [List.take_add_one, List.getElem?_eq_getElem h]
  simp only [timesN, Option.toList_some, List.filter_append, List.length_append]
  by_cases hr : l[k] = m <;> simp [hr]
theorem times_le (l : List Mi) (m : Mi) : timesN l m ≤ l.length := List.length_filter_le _ _
theorem mi_loadA {W : AW} {K : V → AW → Prop} {m : Mi} : m.V = .agg [.bool m.read, .int .u8 m.key, .int .u16 m.v] := rfl
theorem times_c (hP : E.P = Tryz.prog) (W : AW) {t : Tx} (ht : t.ok) {m : Mi} (hm : m.ok) :
    ACalls E 38 [t.V, m.V] W fun Y W' => Y = .int .i64 (timesN t.ms m) ∧ W' = W := by
  refine ACalls.of hP Tryz.func38 ok38e (by simp) fun _ hok => ?_
  refine awp_start hok ?_
  simp only [c38, e_seq, e_reg, e_block, e_cons, e_nil, e_plain, evs_nil, evs_cons, ev_t, ev_c, argsA_ap, e_putK, e_putd, e_put, e_then, ↓reduceIte, Nat.reduceEqDiff, List.getElem?_cons_zero, List.getElem?_cons_succ, sem_mov, sem_box, X_alloc, X_nx, cells_agg, List.cons_append, List.nil_append, List.length_cons, List.length_nil, Nat.zero_add, Tx.V, Mi.V]
  rw [e_loop]
  have hms := msV_isMs t.ms
  have hml := ht.msl
  refine ALoop.go (B := awp E _) (fun h => awp_mono _ h) (fun (k : Nat) A1 W1 => A1 2 = some (.ptr (rf W.nx 0) 0) ∧ A1 3 = some (.ptr (rf W.nx 1) 0) ∧ A1 5 = some (.int .i64 (timesN (t.ms.take k) m)) ∧ A1 6 = some (.int .i64 k) ∧ k ≤ t.ms.length ∧ W1 = X W W.nx [.row [.int .u16 t.id, .int .u8 t.client, msV t.ms, lsV t.ls, .int .u8 t.st], .row [.bool m.read, .int .u8 m.key, .int .u16 m.v]]) (fun k => t.ms.length - k) 0
    ⟨rfl, rfl, rfl, rfl, Nat.zero_le _, rfl⟩ ?_
  rintro k A1 W1 ⟨g2, g3, g5, g6, gk, rfl⟩ _
  by_cases hk1 : k < t.ms.length
  · have htt := times_take (m := m) hk1
    have hle := times_le (t.ms.take k) m
    have hle' : (t.ms.take k).length ≤ k := by simp; omega
    have hev : ∀ (W : AW) K, sem E (.eqv false (true, [.b, .i .u8, .i .u16])) [(t.ms[k]).V, .agg [.bool m.read, .int .u8 m.key, .int .u16 m.v]] W K = K (.bool (decide (t.ms[k] = m))) W := fun W K => mi_eqv (ht.ms _ (List.getElem_mem hk1)) hm
    by_cases hc : t.ms[k] = m
    · simp (config := { maxSteps := 2000000 }) (disch := omega) only [c38_0, e_seq, e_reg, cond_if, e_block, e_skip, e_par, e_done, e_step, e_cons, e_nil, e_plain, evs_nil, evs_cons, ev_t, ev_c, e_putK, e_putd, e_put, e_then, e_blk, ↓reduceIte, Nat.reduceEqDiff, List.getElem?_cons_zero, List.getElem?_cons_succ, sem_mov, sem_add, sem_lss, sem_fld_ptr, X_nx, X_get, m_load, loadK_f, loadK_t, optK_some, List.length_cons, List.length_nil, Nat.zero_add, Nat.reduceAdd, Nat.reduceLeDiff, List.drop_zero, List.take_succ_cons, List.take_nil, g2, g3, g5, g6, hms.len, List.length_map, clt, hk1, decide_true, hms.idx (mi_at hk1), mi_load, hev, decide_eq_true hc, wadd1]
      exact ⟨k + 1, ⟨(by first | trivial | rfl | omega), (by first | trivial | rfl | omega), by rw [htt, if_pos hc], (by first | trivial | rfl | omega), (by first | trivial | rfl | omega), (by first | trivial | rfl | omega)⟩, by omega, Nat.le_refl _⟩
    · simp (config := { maxSteps := 2000000 }) (disch := omega) only [c38_0, e_seq, e_reg, cond_if, e_block, e_skip, e_par, e_done, e_step, e_cons, e_nil, e_plain, evs_nil, evs_cons, ev_t, ev_c, e_putK, e_putd, e_put, e_then, e_blk, ↓reduceIte, Nat.reduceEqDiff, List.getElem?_cons_zero, List.getElem?_cons_succ, Bool.false_eq_true, sem_mov, sem_add, sem_lss, sem_fld_ptr, X_nx, X_get, m_load, loadK_f, loadK_t, optK_some, List.length_cons, List.length_nil, Nat.zero_add, Nat.reduceAdd, Nat.reduceLeDiff, List.drop_zero, List.take_succ_cons, List.take_nil, g2, g3, g5, g6, hms.len, List.length_map, clt, hk1, decide_true, hms.idx (mi_at hk1), mi_load, hev, decide_eq_false hc, wadd1]
      exact ⟨k + 1, ⟨(by first | trivial | rfl | omega), (by first | trivial | rfl | omega), by rw [htt, if_neg hc]; rfl, (by first | trivial | rfl | omega), (by first | trivial | rfl | omega), (by first | trivial | rfl | omega)⟩, by omega, Nat.le_refl _⟩
  · obtain rfl : k = t.ms.length := by omega
    rw [List.take_length] at g5
    simp (config := { maxSteps := 2000000 }) (disch := omega) only [c38_0, e_seq, e_reg, cond_if, e_exit, e_ret, e_cons, e_nil, e_plain, evs_nil, evs_cons, ev_t, e_putK, e_putd, e_put, e_then, e_then_exit, e_blk_exit, retQ_ret, e_res1, ↓reduceIte, Nat.reduceEqDiff, Option.map_some, List.getElem?_cons_zero, List.getElem?_cons_succ, Bool.false_eq_true, frz_int, sem_mov, sem_lss, sem_fld_ptr, X_nx, X_get, m_load, loadK_f, optK_some, List.length_cons, List.length_nil, Nat.zero_add, Nat.reduceAdd, g2, g5, g6, hms.len, List.length_map, clt, hk1, decide_false]
    exact ⟨_, rfl, _, W, backX hok rfl, Nat.le_refl _, rfl, rfl⟩
theorem tx_load {W : AW} {K : V → AW → Prop} {t : Tx} : sem E (.load true 5) [.cptr t.V.cells] W K = K t.V W := id rfl
theorem tx_fld0 {W : AW} {K : V → AW → Prop} {t : Tx} : sem E (.fld 0) [.cptr t.V.cells] W K = K (.cptr [.int .u16 t.id, .int .u8 t.client, msV t.ms, lsV t.ls, .int .u8 t.st]) W := by
  simp [Tx.V, V.cells, sem, rsem, tsem]
theorem tx_fld1 {W : AW} {K : V → AW → Prop} {t : Tx} : sem E (.fld 1) [.cptr t.V.cells] W K = K (.cptr [.int .u8 t.client, msV t.ms, lsV t.ls, .int .u8 t.st]) W := by
  simp [Tx.V, V.cells, sem, rsem, tsem]
theorem tx_fld2 {W : AW} {K : V → AW → Prop} {t : Tx} : sem E (.fld 2) [.cptr t.V.cells] W K = K (.cptr [msV t.ms, lsV t.ls, .int .u8 t.st]) W := by
  simp [Tx.V, V.cells, sem, rsem, tsem]
theorem tx_fld4 {W : AW} {K : V → AW → Prop} {t : Tx} : sem E (.fld 4) [.cptr t.V.cells] W K = K (.cptr [.int .u8 t.st]) W := by
  simp [Tx.V, V.cells, sem, rsem, tsem]
theorem pcall_go {W : AW} {K : V → AW → Prop} {f : FuncId} {vs ws : List V} {v : V} (hw : vs.map W.frz = ws) (h : ACalls E f ws W (fun X W' => X = v ∧ W' = W)) (hk : K v W) : sem E (.pcall f) vs W K := by
  subst hw; exact ⟨v, h, hk⟩
theorem once_in (hP : E.P = Tryz.prog) (W0 W : AW) (hW : Ex W0 W) {p ra rw : Nat} {s : Str} (h : St W0 p ra rw s) {v : V} {l : List Tx} (hv : isS 5 v (l.map Tx.V)) {i : Nat} (hi : i < l.length) (ht : l[i].ok)
    (hall : ∀ m ∈ l[i].ms, m.read = false → whoI s m.key m.v = l[i].id ∧ timesN l[i].ms m = 1) {A : AFr} {Q : Exit → AFr → AW → Prop}
    (a0 : A 0 = some (.ptr p 0)) (a1 : A 1 = some v) (a5 : A 5 = some (.int .i64 i)) (a6 : A 6 = some (.int .i64 0))
    (hex : ∀ A' W', A' 0 = some (.ptr p 0) → A' 1 = some v → A' 5 = some (.int .i64 i) → Ex W0 W' → W.nx ≤ W'.nx → Q (.exit 2) A' W') : ALoop (awp E c14_1) Q A W := by
  have hat : (l.map Tx.V)[i]? = some l[i].V := by simp [hi]
  have hms := msV_isMs l[i].ms
  have hml := ht.msl
  refine ALoop.go (B := awp E _) (fun h => awp_mono _ h) (fun (k : Nat) A1 W1 => A1 0 = some (.ptr p 0) ∧ A1 1 = some v ∧ A1 5 = some (.int .i64 i) ∧ A1 6 = some (.int .i64 k) ∧ k ≤ l[i].ms.length ∧ Ex W0 W1 ∧ W.nx ≤ W1.nx) (fun k => l[i].ms.length - k) 0
    ⟨a0, a1, a5, a6, Nat.zero_le _, hW, Nat.le_refl _⟩ ?_
  rintro k A1 W1 ⟨g0, g1, g5, g6, gk, gE, gn⟩ _
  by_cases hk1 : k < l[i].ms.length
  · have hmo := ht.ms _ (List.getElem_mem hk1)
    have hS : ∀ o, St (X W1 W1.nx o) p ra rw s := fun o => (h.ex gE).ex .x0
    obtain ⟨q0, q1, q2, q3⟩ := hmo
    refine awp_startC gE.cl ?_
    cases hr : (l[i].ms[k]).read with
    | true =>
      simp (config := { maxSteps := 2000000 }) (disch := omega) only [c14_1, e_seq, e_reg, cond_if, e_block, e_skip, e_par, e_done, e_step, e_cons, e_nil, e_plain, guard_if, evs_nil, evs_cons, ev_t, ev_c, e_putK, e_putd, e_putd0, e_put, e_then, e_blk, ↓reduceIte, Nat.reduceEqDiff, reduceCtorEq, List.getElem?_cons_zero, Bool.false_eq_true, sem_mov, sem_pick, sem_add, sem_lss, sem_not, sem_alloc, sem_fld_ptr, X_alloc, X_nx, X_get, X_put1, m_load, loadK_f, optK_some, m_loadcf, m_loadct, m_store, storeK_row, cells_agg, one_int, one_bool, List.nil_append, List.append_nil, List.length_cons, List.length_nil, Nat.zero_add, Nat.add_zero, Nat.reduceAdd, Nat.reduceLeDiff, Nat.reduceLT, List.set_cons_zero, List.drop_succ_cons, List.drop_nil, List.take_succ_cons, List.take_zero, List.take_nil, List.all_cons, List.all_nil, Bool.and_self, Bool.not_true, undef_t, g0, g1, g5, g6, hv.idx hat, tx_fld2, hms.len, List.length_map, clt, hk1, decide_true, hms.idx (mi_at hk1), Mi.V, hr, wadd1]
      exact ⟨k + 1, ⟨(by first | trivial | rfl | omega), (by first | trivial | rfl | omega), (by first | trivial | rfl | omega), (by first | trivial | rfl | omega), (by first | trivial | rfl | omega), gE.X, (by first | omega | (simp only [rf]; omega) | (simp only [rf, X, List.length_cons, List.length_nil, Nat.zero_add]; omega) | (simp [rf, X]; omega))⟩, by omega, (by first | omega | (simp only [rf]; omega) | (simp only [rf, X, List.length_cons, List.length_nil, Nat.zero_add]; omega) | (simp [rf, X]; omega))⟩
    | false =>
      obtain ⟨hw, htm⟩ := hall _ (List.getElem_mem hk1) hr
      simp (config := { maxSteps := 2000000 }) (disch := omega) only [c14_1, e_seq, e_reg, cond_if, e_block, e_skip, e_par, e_step, e_cons, e_nil, e_plain, guard_if, evs_nil, evs_cons, ev_t, e_putK, e_putd, e_putd0, e_put, e_then, ↓reduceIte, Nat.reduceEqDiff, reduceCtorEq, List.getElem?_cons_zero, List.getElem?_cons_succ, sem_mov, sem_lss, sem_not, sem_alloc, sem_fld_ptr, X_alloc, X_nx, X_get, X_put1, m_load, loadK_f, optK_some, m_loadcf, m_loadct, m_store, storeK_row, cells_agg, one_int, one_bool, List.nil_append, List.append_nil, List.length_cons, List.length_nil, Nat.zero_add, Nat.add_zero, Nat.reduceAdd, Nat.reduceLeDiff, Nat.reduceLT, List.set_cons_zero, List.drop_succ_cons, List.drop_nil, List.take_succ_cons, List.take_zero, List.take_nil, List.all_cons, List.all_nil, Bool.and_self, Bool.not_false, undef_t, g0, g1, g5, g6, hv.idx hat, tx_fld2, hms.len, List.length_map, clt, hk1, decide_true, hms.idx (mi_at hk1), Mi.V, hr]
      refine pcall_go rfl (whoI_c hP _ (hS _) _ _ q0 q1 q2 q3) ?_
      rw [hw]
      simp (config := { maxSteps := 2000000 }) (disch := omega) only [e_step, guard_if, evs_nil, evs_cons, ev_t, e_putK, e_putd, e_put, ↓reduceIte, Nat.reduceEqDiff, List.getElem?_cons_zero, sem_mov, sem_neq, sem_conv, X_get, m_load, loadK_t, m_loadcf, List.length_cons, List.length_nil, Nat.zero_add, Nat.reduceAdd, Nat.reduceLeDiff, List.drop_zero, List.take_succ_cons, List.take_nil, g1, g5, hv.idx hat, tx_fld0, tx_load, i64_16 ht.id0 ht.id1, bne_self_eq_false]
      refine pcall_go rfl (v := .int .i64 (timesN l[i].ms l[i].ms[k])) ?_ ?_
      · have := times_c hP (X W1 W1.nx [.row [.bool false, .int .u8 l[i].ms[k].key, .int .u16 l[i].ms[k].v]]) ht (m := l[i].ms[k]) ⟨q0, q1, q2, q3⟩
        simp only [Mi.V, hr] at this
        exact this
      · rw [htm]
        simp (config := { maxSteps := 2000000 }) (disch := omega) only [e_reg, cond_if, e_skip, e_done, e_step, e_cons, e_nil, e_plain, guard_if, evs_nil, evs_cons, ev_t, ev_c, e_putK, e_putd, e_put, e_then, e_blk, ↓reduceIte, Nat.reduceEqDiff, reduceCtorEq, Bool.false_eq_true, sem_mov, sem_pick, sem_add, sem_neq, X_nx, List.length_cons, List.length_nil, Nat.zero_add, g0, g1, g5, g6, show (((1 : Nat) : Int) != 1) = false by decide, wadd1]
        exact ⟨k + 1, ⟨(by first | trivial | rfl | omega), (by first | trivial | rfl | omega), (by first | trivial | rfl | omega), (by first | trivial | rfl | omega), (by first | trivial | rfl | omega), gE.X, (by first | omega | (simp only [rf]; omega) | (simp only [rf, X, List.length_cons, List.length_nil, Nat.zero_add]; omega) | (simp [rf, X]; omega))⟩, by omega, (by first | omega | (simp only [rf]; omega) | (simp only [rf, X, List.length_cons, List.length_nil, Nat.zero_add]; omega) | (simp [rf, X]; omega))⟩
  · simp (config := { maxSteps := 2000000 }) (disch := omega) only [c14_1, e_seq, e_reg, cond_if, e_exit, e_cons, e_nil, e_plain, evs_nil, evs_cons, ev_t, e_putK, e_putd, e_put, e_then, e_then_exit, ↓reduceIte, Nat.reduceEqDiff, Bool.false_eq_true, sem_mov, sem_lss, m_loadcf, g1, g5, g6, hv.idx hat, tx_fld2, hms.len, List.length_map, clt, hk1, decide_false]
    exact hex _ _ g0 g1 g5 gE gn
theorem once_c (hP : E.P = Tryz.prog) (W : AW) {p ra rw : Nat} {s : Str} (h : St W p ra rw s) {v : V} {l : List Tx} (hv : isS 5 v (l.map Tx.V)) (ht : ∀ t ∈ l, t.ok) (hl : l.length < 2 ^ 48)
    (hall : ∀ t ∈ l, ∀ m ∈ t.ms, m.read = false → whoI s m.key m.v = t.id ∧ timesN t.ms m = 1) :
    ACalls E 14 [.ptr p 0, v] W fun Y W' => Y = .bool true ∧ W' = W := by
  refine ACalls.of hP Tryz.func14 ok14e (by simp) fun _ hok => ?_
  simp only [c14, e_seq, e_reg, e_block, e_cons, e_nil, e_plain, evs_nil, evs_cons, ev_c, e_putK, e_putd, e_then, sem_mov]
  rw [e_loop]
  refine ALoop.go (B := awp E _) (fun h => awp_mono _ h) (fun (k : Nat) A1 W1 => A1 0 = some (.ptr p 0) ∧ A1 1 = some v ∧ A1 5 = some (.int .i64 k) ∧ k ≤ l.length ∧ Ex W W1) (fun k => l.length - k) 0
    ⟨rfl, rfl, rfl, Nat.zero_le _, Ex.refl (ok_Cl hok)⟩ ?_
  rintro k A1 W1 ⟨g0, g1, g5, gk, gE⟩ _
  have hn := gE.nx
  by_cases hk1 : k < l.length
  · simp (config := { maxSteps := 2000000 }) (disch := omega) only [c14_0, e_seq, e_reg, cond_if, e_block, e_skip, e_cons, e_nil, e_plain, evs_nil, evs_cons, ev_t, ev_c, e_putK, e_putd, e_put, e_then, ↓reduceIte, Nat.reduceEqDiff, sem_mov, sem_lss, g1, g5, hv.len, List.length_map, clt, hk1, decide_true]
    rw [e_loop]
    refine once_in hP W W1 gE h hv hk1 (ht _ (List.getElem_mem hk1)) (hall _ (List.getElem_mem hk1)) g0 g1 g5 rfl ?_
    intro A' W' h0 h1 h5 hE hn
    simp (config := { maxSteps := 2000000 }) (disch := omega) only [e_reg, e_cons, e_nil, e_plain, evs_nil, evs_cons, ev_t, ev_c, e_putK, e_putd, e_put, e_then, e_blk, e_blk_exit, ↓reduceIte, Nat.reduceEqDiff, reduceCtorEq, sem_mov, sem_add, h0, h1, h5, wadd1]
    exact ⟨k + 1, ⟨(by first | trivial | rfl | omega), (by first | trivial | rfl | omega), (by first | trivial | rfl | omega), (by first | trivial | rfl | omega), hE⟩, by omega, by have := hE.nx; omega⟩
  · simp (config := { maxSteps := 2000000 }) (disch := omega) only [c14_0, e_seq, e_reg, cond_if, e_exit, e_ret, e_cons, e_nil, e_plain, evs_nil, evs_cons, ev_t, ev_c, e_putK, e_putd, e_put, e_then, e_then_exit, e_blk_exit, retQ_ret, e_res1, ↓reduceIte, Nat.reduceEqDiff, Option.map_some, Bool.false_eq_true, frz_bool, sem_mov, sem_lss, g1, g5, hv.len, List.length_map, clt, hk1, decide_false]
    exact ⟨_, rfl, _, W, gE.back hok rfl, Nat.le_refl _, rfl, rfl⟩
end Go.AL.S
set_option maxRecDepth 100000
namespace Go.AL.S
open Go Go.AL Go.Proofs
/- umpire/umpireref25.Same -/
def c37 : AC := (AC.seq (AC.reg [
  ⟨(some 2), .box, [.t 0], none⟩,
  ⟨(some 3), .box, [.t 1], none⟩,
  ⟨(some 4), .mov, [.c (.bool false)], none⟩])
 (AC.seq (AC.reg [
  ⟨(some 5), .fld 4, [.t 2], none⟩,
  ⟨(some 6), .load false 1, [.t 5], none⟩,
  ⟨(some 7), .fld 4, [.t 3], none⟩,
  ⟨(some 8), .load false 1, [.t 7], none⟩,
  ⟨(some 9), .bin .eql, [.t 6, .t 8], none⟩,
  ⟨(some 10), .mov, [.t 9], none⟩,
  ⟨(some 11), .fld 1, [.t 2], (some (10, true))⟩,
  ⟨(some 12), .load false 1, [.t 11], (some (10, true))⟩,
  ⟨(some 13), .fld 0, [.t 2], (some (10, true))⟩,
  ⟨(some 14), .load false 1, [.t 13], (some (10, true))⟩,
  ⟨(some 15), .fld 2, [.t 2], (some (10, true))⟩,
  ⟨(some 16), .load false 1, [.t 15], (some (10, true))⟩,
  ⟨(some 17), .fld 3, [.t 2], (some (10, true))⟩,
  ⟨(some 18), .load false 1, [.t 17], (some (10, true))⟩,
  ⟨(some 19), .build [.int .u8 0, .int .u8 0, .int .u16 0, .int .u8 0, .int .u8 0, .int .u8 0, .int .u16 0, .int .u16 0, .int .u8 0, .int .u16 0, .nilsl, .nilsl, .int .u8 0, .int .i64 0, .int .i64 0, .int .i64 0, .bool false, .bool false, .bool false] [(1, 1), (2, 1), (10, 1), (11, 1)], [.t 12, .t 14, .t 16, .t 18], (some (10, true))⟩,
  ⟨(some 20), .fld 1, [.t 3], (some (10, true))⟩,
  ⟨(some 21), .load false 1, [.t 20], (some (10, true))⟩,
  ⟨(some 22), .fld 0, [.t 3], (some (10, true))⟩,
  ⟨(some 23), .load false 1, [.t 22], (some (10, true))⟩,
  ⟨(some 24), .fld 2, [.t 3], (some (10, true))⟩,
  ⟨(some 25), .load false 1, [.t 24], (some (10, true))⟩,
  ⟨(some 26), .fld 3, [.t 3], (some (10, true))⟩,
  ⟨(some 27), .load false 1, [.t 26], (some (10, true))⟩,
  ⟨(some 28), .build [.int .u8 0, .int .u8 0, .int .u16 0, .int .u8 0, .int .u8 0, .int .u8 0, .int .u16 0, .int .u16 0, .int .u8 0, .int .u16 0, .nilsl, .nilsl, .int .u8 0, .int .i64 0, .int .i64 0, .int .i64 0, .bool false, .bool false, .bool false] [(1, 1), (2, 1), (10, 1), (11, 1)], [.t 21, .t 23, .t 25, .t 27], (some (10, true))⟩,
  ⟨(some 29), .call 47, [.t 19, .t 28], (some (10, true))⟩,
  ⟨(some 30), .pick, [.t 10, .t 29, .c (.bool false)], none⟩,
  ⟨(some 4), .mov, [.t 30], none⟩])
 AC.ret))
def r37 : AC × List RT × Nat := (c37, [.tmp 4], 31)
theorem ok37e : compF Tryz.prog Tryz.f37 ⟨false, false, []⟩ = some r37 := by kernel_rfl
def c47_0 : AC := (AC.seq (AC.seq (AC.reg [
    ⟨(some 65), .mov, [.t 5], none⟩,
    ⟨(some 66), .fld 10, [.t 2], none⟩,
    ⟨(some 67), .load false 1, [.t 66], none⟩,
    ⟨(some 68), .len 1 0, [.t 67], none⟩,
    ⟨(some 69), .bin .lss, [.t 65, .t 68], none⟩])
   (AC.cond (.t 69)
    AC.skip
    (AC.exit 0)))
   (AC.seq (AC.block 1
    (AC.seq (AC.par
     (PT.step 0 ⟨(some 72), .fld 10, [.t 2], none⟩
     (PT.step 2 ⟨(some 74), .mov, [.t 5], none⟩
     (PT.step 5 ⟨(some 77), .fld 10, [.t 3], none⟩
     (PT.step 7 ⟨(some 79), .mov, [.t 5], none⟩
     (PT.step 1 ⟨(some 73), .load false 1, [.t 72], none⟩
     (PT.step 3 ⟨(some 75), .idxp 3, [.t 73, .t 74], none⟩
     (PT.step 4 ⟨(some 76), .load true 3, [.t 75], none⟩
     (PT.step 6 ⟨(some 78), .load false 1, [.t 77], none⟩
     (PT.step 8 ⟨(some 80), .idxp 3, [.t 78, .t 79], none⟩
     (PT.step 9 ⟨(some 81), .load true 3, [.t 80], none⟩
     (PT.step 10 ⟨(some 82), .eqv true (true, [.b, .i .u8, .i .u16]), [.t 76, .t 81], none⟩
     PT.done))))))))))))
    (AC.cond (.t 82)
     (AC.seq (AC.reg [
      ⟨(some 4), .mov, [.c (.bool false)], none⟩])
     AC.ret)
     AC.skip)))
   (AC.reg [
    ⟨(some 70), .mov, [.t 5], none⟩,
    ⟨(some 71), .bin .add, [.t 70, .c (.int .i64 1)], none⟩,
    ⟨(some 5), .mov, [.t 71], none⟩])))
def c47_1 : AC := (AC.seq (AC.seq (AC.reg [
    ⟨(some 83), .mov, [.t 6], none⟩,
    ⟨(some 84), .fld 11, [.t 2], none⟩,
    ⟨(some 85), .load false 1, [.t 84], none⟩,
    ⟨(some 86), .len 1 0, [.t 85], none⟩,
    ⟨(some 87), .bin .lss, [.t 83, .t 86], none⟩])
   (AC.cond (.t 87)
    AC.skip
    (AC.exit 2)))
   (AC.seq (AC.block 3
    (AC.seq (AC.par
     (PT.step 0 ⟨(some 90), .fld 11, [.t 2], none⟩
     (PT.step 2 ⟨(some 92), .mov, [.t 6], none⟩
     (PT.step 5 ⟨(some 95), .fld 11, [.t 3], none⟩
     (PT.step 7 ⟨(some 97), .mov, [.t 6], none⟩
     (PT.step 1 ⟨(some 91), .load false 1, [.t 90], none⟩
     (PT.step 3 ⟨(some 93), .idxp 1, [.t 91, .t 92], none⟩
     (PT.step 4 ⟨(some 94), .load false 1, [.t 93], none⟩
     (PT.step 6 ⟨(some 96), .load false 1, [.t 95], none⟩
     (PT.step 8 ⟨(some 98), .idxp 1, [.t 96, .t 97], none⟩
     (PT.step 9 ⟨(some 99), .load false 1, [.t 98], none⟩
     (PT.step 10 ⟨(some 100), .call 56, [.t 94, .t 99], none⟩
     (PT.step 11 ⟨(some 101), .un .not, [.t 100], none⟩
     PT.done)))))))))))))
    (AC.cond (.t 101)
     (AC.seq (AC.reg [
      ⟨(some 4), .mov, [.c (.bool false)], none⟩])
     AC.ret)
     AC.skip)))
   (AC.reg [
    ⟨(some 88), .mov, [.t 6], none⟩,
    ⟨(some 89), .bin .add, [.t 88, .c (.int .i64 1)], none⟩,
    ⟨(some 6), .mov, [.t 89], none⟩])))
/- umpire/umpireref05.Same -/
def c47 : AC := (AC.seq (AC.reg [
  ⟨(some 2), .box, [.t 0], none⟩,
  ⟨(some 3), .box, [.t 1], none⟩,
  ⟨(some 4), .mov, [.c (.bool false)], none⟩])
 (AC.seq (AC.seq (AC.reg [
  ⟨(some 7), .fld 0, [.t 2], none⟩,
  ⟨(some 8), .load false 1, [.t 7], none⟩,
  ⟨(some 9), .fld 0, [.t 3], none⟩,
  ⟨(some 10), .load false 1, [.t 9], none⟩,
  ⟨(some 11), .bin .neq, [.t 8, .t 10], none⟩,
  ⟨(some 12), .mov, [.t 11], none⟩,
  ⟨(some 13), .fld 1, [.t 2], (some (12, false))⟩,
  ⟨(some 14), .load false 1, [.t 13], (some (12, false))⟩,
  ⟨(some 15), .fld 1, [.t 3], (some (12, false))⟩,
  ⟨(some 16), .load false 1, [.t 15], (some (12, false))⟩,
  ⟨(some 17), .bin .neq, [.t 14, .t 16], (some (12, false))⟩,
  ⟨(some 18), .pick, [.t 12, .c (.bool true), .t 17], none⟩,
  ⟨(some 19), .mov, [.t 18], none⟩,
  ⟨(some 20), .fld 2, [.t 2], (some (19, false))⟩,
  ⟨(some 21), .load false 1, [.t 20], (some (19, false))⟩,
  ⟨(some 22), .fld 2, [.t 3], (some (19, false))⟩,
  ⟨(some 23), .load false 1, [.t 22], (some (19, false))⟩,
  ⟨(some 24), .bin .neq, [.t 21, .t 23], (some (19, false))⟩,
  ⟨(some 25), .pick, [.t 19, .c (.bool true), .t 24], none⟩,
  ⟨(some 26), .mov, [.t 25], none⟩,
  ⟨(some 27), .fld 3, [.t 2], (some (26, false))⟩,
  ⟨(some 28), .load true 5, [.t 27], (some (26, false))⟩,
  ⟨(some 29), .fld 3, [.t 3], (some (26, false))⟩,
  ⟨(some 30), .load true 5, [.t 29], (some (26, false))⟩,
  ⟨(some 31), .eqv true (true, [.i .u8, .i .u8, .i .u8, .i .u16, .i .u16]), [.t 28, .t 30], (some (26, false))⟩,
  ⟨(some 32), .pick, [.t 26, .c (.bool true), .t 31], none⟩,
  ⟨(some 33), .mov, [.t 32], none⟩,
  ⟨(some 34), .fld 8, [.t 2], (some (33, false))⟩,
  ⟨(some 35), .load true 2, [.t 34], (some (33, false))⟩,
  ⟨(some 36), .fld 8, [.t 3], (some (33, false))⟩,
  ⟨(some 37), .load true 2, [.t 36], (some (33, false))⟩,
  ⟨(some 38), .eqv true (true, [.i .u8, .i .u16]), [.t 35, .t 37], (some (33, false))⟩,
  ⟨(some 39), .pick, [.t 33, .c (.bool true), .t 38], none⟩,
  ⟨(some 40), .mov, [.t 39], none⟩,
  ⟨(some 41), .fld 12, [.t 2], (some (40, false))⟩,
  ⟨(some 42), .load true 7, [.t 41], (some (40, false))⟩,
  ⟨(some 43), .fld 12, [.t 3], (some (40, false))⟩,
  ⟨(some 44), .load true 7, [.t 43], (some (40, false))⟩,
  ⟨(some 45), .eqv true (true, [.i .u8, .i .i64, .i .i64, .i .i64, .b, .b, .b]), [.t 42, .t 44], (some (40, false))⟩,
  ⟨(some 46), .pick, [.t 40, .c (.bool true), .t 45], none⟩,
  ⟨(some 47), .mov, [.t 46], none⟩,
  ⟨(some 48), .fld 10, [.t 2], (some (47, false))⟩,
  ⟨(some 49), .load false 1, [.t 48], (some (47, false))⟩,
  ⟨(some 50), .len 1 0, [.t 49], (some (47, false))⟩,
  ⟨(some 51), .fld 10, [.t 3], (some (47, false))⟩,
  ⟨(some 52), .load false 1, [.t 51], (some (47, false))⟩,
  ⟨(some 53), .len 1 0, [.t 52], (some (47, false))⟩,
  ⟨(some 54), .bin .neq, [.t 50, .t 53], (some (47, false))⟩,
  ⟨(some 55), .pick, [.t 47, .c (.bool true), .t 54], none⟩,
  ⟨(some 56), .mov, [.t 55], none⟩,
  ⟨(some 57), .fld 11, [.t 2], (some (56, false))⟩,
  ⟨(some 58), .load false 1, [.t 57], (some (56, false))⟩,
  ⟨(some 59), .len 1 0, [.t 58], (some (56, false))⟩,
  ⟨(some 60), .fld 11, [.t 3], (some (56, false))⟩,
  ⟨(some 61), .load false 1, [.t 60], (some (56, false))⟩,
  ⟨(some 62), .len 1 0, [.t 61], (some (56, false))⟩,
  ⟨(some 63), .bin .neq, [.t 59, .t 62], (some (56, false))⟩,
  ⟨(some 64), .pick, [.t 56, .c (.bool true), .t 63], none⟩])
 (AC.cond (.t 64)
  (AC.seq (AC.reg [
   ⟨(some 4), .mov, [.c (.bool false)], none⟩])
  AC.ret)
  AC.skip))
 (AC.seq (AC.seq (AC.reg [
  ⟨(some 5), .mov, [.c (.int .i64 0)], none⟩])
 (AC.block 0
  (AC.loop c47_0)))
 (AC.seq (AC.seq (AC.reg [
  ⟨(some 6), .mov, [.c (.int .i64 0)], none⟩])
 (AC.block 2
  (AC.loop c47_1)))
 (AC.seq (AC.reg [
  ⟨(some 4), .mov, [.c (.bool true)], none⟩])
 AC.ret)))))
def r47 : AC × List RT × Nat := (c47, [.tmp 4], 102)
theorem ok47e : compF Tryz.prog Tryz.f47 ⟨false, false, []⟩ = some r47 := by kernel_rfl
def c13_0 : AC := (AC.seq (AC.seq (AC.reg [
    ⟨(some 20), .mov, [.t 8], none⟩,
    ⟨(some 21), .mov, [.t 1], none⟩,
    ⟨(some 22), .len 1 0, [.t 21], none⟩,
    ⟨(some 23), .bin .lss, [.t 20, .t 22], none⟩])
   (AC.cond (.t 23)
    AC.skip
    (AC.exit 0)))
   (AC.seq (AC.block 1
    (AC.seq (AC.seq (AC.par
     (PT.step 0 ⟨(some 26), .mov, [.t 8], none⟩
     (PT.step 1 ⟨(some 27), .bin .gtr, [.t 26, .c (.int .i64 0)], none⟩
     (PT.step 2 ⟨(some 28), .mov, [.t 27], none⟩
     (PT.step 3 ⟨(some 29), .mov, [.t 1], (some (28, true))⟩
     (PT.step 4 ⟨(some 30), .mov, [.t 8], (some (28, true))⟩
     (PT.step 5 ⟨(some 31), .bin .sub, [.t 30, .c (.int .i64 1)], (some (28, true))⟩
     (PT.step 9 ⟨(some 35), .mov, [.t 1], (some (28, true))⟩
     (PT.step 10 ⟨(some 36), .mov, [.t 8], (some (28, true))⟩
     (PT.step 6 ⟨(some 32), .idxp 5, [.t 29, .t 31], (some (28, true))⟩
     (PT.step 7 ⟨(some 33), .fld 0, [.t 32], (some (28, true))⟩
     (PT.step 8 ⟨(some 34), .load false 1, [.t 33], (some (28, true))⟩
     (PT.step 11 ⟨(some 37), .idxp 5, [.t 35, .t 36], (some (28, true))⟩
     (PT.step 12 ⟨(some 38), .fld 0, [.t 37], (some (28, true))⟩
     (PT.step 13 ⟨(some 39), .load false 1, [.t 38], (some (28, true))⟩
     (PT.step 14 ⟨(some 40), .bin .geq, [.t 34, .t 39], (some (28, true))⟩
     (PT.step 15 ⟨(some 41), .pick, [.t 28, .t 40, .c (.bool false)], none⟩
     PT.done)))))))))))))))))
    (AC.cond (.t 41)
     (AC.seq (AC.reg [
      ⟨(some 6), .mov, [.c (.bool false)], none⟩])
     AC.ret)
     AC.skip))
    (AC.seq (AC.seq (AC.par
     (PT.step 0 ⟨(some 42), .mov, [.t 8], none⟩
     (PT.step 1 ⟨(some 43), .mov, [.t 0], none⟩
     (PT.step 2 ⟨(some 44), .len 1 0, [.t 43], none⟩
     (PT.step 3 ⟨(some 45), .bin .geq, [.t 42, .t 44], none⟩
     (PT.step 4 ⟨(some 46), .mov, [.t 45], none⟩
     (PT.step 5 ⟨(some 47), .mov, [.t 0], (some (46, false))⟩
     (PT.step 6 ⟨(some 48), .mov, [.t 8], (some (46, false))⟩
     (PT.step 9 ⟨(some 51), .mov, [.t 1], (some (46, false))⟩
     (PT.step 10 ⟨(some 52), .mov, [.t 8], (some (46, false))⟩
     (PT.step 7 ⟨(some 49), .idxp 5, [.t 47, .t 48], (some (46, false))⟩
     (PT.step 8 ⟨(some 50), .load true 5, [.t 49], (some (46, false))⟩
     (PT.step 11 ⟨(some 53), .idxp 5, [.t 51, .t 52], (some (46, false))⟩
     (PT.step 12 ⟨(some 54), .load true 5, [.t 53], (some (46, false))⟩
     (PT.step 13 ⟨(some 55), .call 37, [.t 50, .t 54], (some (46, false))⟩
     (PT.step 14 ⟨(some 56), .pick, [.t 46, .c (.bool true), .t 55], none⟩
     PT.done))))))))))))))))
    (AC.cond (.t 56)
     (AC.exit 1)
     AC.skip))
    (AC.seq (AC.reg [
     ⟨(some 57), .mov, [.t 7], none⟩,
     ⟨(some 58), .bin .add, [.t 57, .c (.int .i64 1)], none⟩,
     ⟨(some 7), .mov, [.t 58], none⟩])
    (AC.seq (AC.par
     (PT.step 0 ⟨(some 59), .mov, [.t 0], none⟩
     (PT.step 1 ⟨(some 60), .mov, [.t 8], none⟩
     (PT.step 2 ⟨(some 61), .idxp 5, [.t 59, .t 60], none⟩
     (PT.step 3 ⟨(some 62), .fld 4, [.t 61], none⟩
     (PT.step 4 ⟨(some 63), .load false 1, [.t 62], none⟩
     (PT.step 5 ⟨(some 64), .bin .neq, [.t 63, .c (.int .u8 0)], none⟩
     (PT.step 6 ⟨(some 65), .mov, [.t 64], none⟩
     (PT.step 7 ⟨(some 66), .mov, [.t 1], (some (65, false))⟩
     (PT.step 8 ⟨(some 67), .mov, [.t 8], (some (65, false))⟩
     (PT.step 9 ⟨(some 68), .idxp 5, [.t 66, .t 67], (some (65, false))⟩
     (PT.step 10 ⟨(some 69), .fld 4, [.t 68], (some (65, false))⟩
     (PT.step 11 ⟨(some 70), .load false 1, [.t 69], (some (65, false))⟩
     (PT.step 12 ⟨(some 71), .bin .eql, [.t 70, .c (.int .u8 0)], (some (65, false))⟩
     (PT.step 13 ⟨(some 72), .pick, [.t 65, .c (.bool true), .t 71], none⟩
     (PT.step 14 ⟨(some 73), .mov, [.t 72], none⟩
     (PT.step 15 ⟨(some 74), .mov, [.t 0], (some (73, false))⟩
     (PT.step 16 ⟨(some 75), .mov, [.t 8], (some (73, false))⟩
     (PT.step 20 ⟨(some 79), .mov, [.t 1], (some (73, false))⟩
     (PT.step 21 ⟨(some 80), .mov, [.t 8], (some (73, false))⟩
     (PT.step 17 ⟨(some 76), .idxp 5, [.t 74, .t 75], (some (73, false))⟩
     (PT.step 18 ⟨(some 77), .fld 0, [.t 76], (some (73, false))⟩
     (PT.step 19 ⟨(some 78), .load false 1, [.t 77], (some (73, false))⟩
     (PT.step 22 ⟨(some 81), .idxp 5, [.t 79, .t 80], (some (73, false))⟩
     (PT.step 23 ⟨(some 82), .fld 0, [.t 81], (some (73, false))⟩
     (PT.step 24 ⟨(some 83), .load false 1, [.t 82], (some (73, false))⟩
     (PT.step 25 ⟨(some 84), .bin .neq, [.t 78, .t 83], (some (73, false))⟩
     (PT.step 26 ⟨(some 85), .pick, [.t 73, .c (.bool true), .t 84], none⟩
     (PT.step 27 ⟨(some 86), .mov, [.t 85], none⟩
     (PT.step 28 ⟨(some 87), .mov, [.t 0], (some (86, false))⟩
     (PT.step 29 ⟨(some 88), .mov, [.t 8], (some (86, false))⟩
     (PT.step 33 ⟨(some 92), .mov, [.t 1], (some (86, false))⟩
     (PT.step 34 ⟨(some 93), .mov, [.t 8], (some (86, false))⟩
     (PT.step 30 ⟨(some 89), .idxp 5, [.t 87, .t 88], (some (86, false))⟩
     (PT.step 31 ⟨(some 90), .fld 1, [.t 89], (some (86, false))⟩
     (PT.step 32 ⟨(some 91), .load false 1, [.t 90], (some (86, false))⟩
     (PT.step 35 ⟨(some 94), .idxp 5, [.t 92, .t 93], (some (86, false))⟩
     (PT.step 36 ⟨(some 95), .fld 1, [.t 94], (some (86, false))⟩
     (PT.step 37 ⟨(some 96), .load false 1, [.t 95], (some (86, false))⟩
     (PT.step 38 ⟨(some 97), .bin .neq, [.t 91, .t 96], (some (86, false))⟩
     (PT.step 39 ⟨(some 98), .pick, [.t 86, .c (.bool true), .t 97], none⟩
     (PT.step 40 ⟨(some 99), .mov, [.t 98], none⟩
     (PT.step 41 ⟨(some 100), .mov, [.t 0], (some (99, false))⟩
     (PT.step 42 ⟨(some 101), .mov, [.t 8], (some (99, false))⟩
     (PT.step 47 ⟨(some 106), .mov, [.t 1], (some (99, false))⟩
     (PT.step 48 ⟨(some 107), .mov, [.t 8], (some (99, false))⟩
     (PT.step 43 ⟨(some 102), .idxp 5, [.t 100, .t 101], (some (99, false))⟩
     (PT.step 44 ⟨(some 103), .fld 2, [.t 102], (some (99, false))⟩
     (PT.step 45 ⟨(some 104), .load false 1, [.t 103], (some (99, false))⟩
     (PT.step 46 ⟨(some 105), .len 1 0, [.t 104], (some (99, false))⟩
     (PT.step 49 ⟨(some 108), .idxp 5, [.t 106, .t 107], (some (99, false))⟩
     (PT.step 50 ⟨(some 109), .fld 2, [.t 108], (some (99, false))⟩
     (PT.step 51 ⟨(some 110), .load false 1, [.t 109], (some (99, false))⟩
     (PT.step 52 ⟨(some 111), .len 1 0, [.t 110], (some (99, false))⟩
     (PT.step 53 ⟨(some 112), .bin .neq, [.t 105, .t 111], (some (99, false))⟩
     (PT.step 54 ⟨(some 113), .pick, [.t 99, .c (.bool true), .t 112], none⟩
     PT.done))))))))))))))))))))))))))))))))))))))))))))))))))))))))
    (AC.cond (.t 113)
     (AC.seq (AC.reg [
      ⟨(some 6), .mov, [.c (.bool false)], none⟩])
     AC.ret)
     AC.skip))))))
   (AC.reg [
    ⟨(some 24), .mov, [.t 8], none⟩,
    ⟨(some 25), .bin .add, [.t 24, .c (.int .i64 1)], none⟩,
    ⟨(some 8), .mov, [.t 25], none⟩])))
/- umpire/umpirelaw25.grown -/
def c13 : AC := (AC.seq (AC.reg [
  ⟨(some 6), .mov, [.c (.bool false)], none⟩])
 (AC.seq (AC.reg [
  ⟨(some 9), .mov, [.t 1], none⟩,
  ⟨(some 10), .len 1 0, [.t 9], none⟩,
  ⟨(some 11), .mov, [.t 0], none⟩,
  ⟨(some 12), .len 1 0, [.t 11], none⟩,
  ⟨(some 13), .bin .sub, [.t 10, .t 12], none⟩,
  ⟨(some 7), .mov, [.t 13], none⟩])
 (AC.seq (AC.seq (AC.reg [
  ⟨(some 14), .mov, [.t 7], none⟩,
  ⟨(some 15), .bin .lss, [.t 14, .c (.int .i64 0)], none⟩,
  ⟨(some 16), .mov, [.t 15], none⟩,
  ⟨(some 17), .mov, [.t 7], (some (16, false))⟩,
  ⟨(some 18), .bin .gtr, [.t 17, .c (.int .i64 1)], (some (16, false))⟩,
  ⟨(some 19), .pick, [.t 16, .c (.bool true), .t 18], none⟩])
 (AC.cond (.t 19)
  (AC.seq (AC.reg [
   ⟨(some 6), .mov, [.c (.bool false)], none⟩])
  AC.ret)
  AC.skip))
 (AC.seq (AC.seq (AC.reg [
  ⟨(some 8), .mov, [.c (.int .i64 0)], none⟩])
 (AC.block 0
  (AC.loop c13_0)))
 (AC.seq (AC.reg [
  ⟨(some 114), .mov, [.t 2], none⟩,
  ⟨(some 115), .bin .eql, [.t 114, .c (.int .i64 0)], none⟩,
  ⟨(some 116), .mov, [.t 7], none⟩,
  ⟨(some 117), .bin .eql, [.t 116, .c (.int .i64 1)], none⟩,
  ⟨(some 118), .eqv false (false, [.b]), [.t 115, .t 117], none⟩,
  ⟨(some 119), .mov, [.t 118], none⟩,
  ⟨(some 120), .mov, [.t 7], (some (119, true))⟩,
  ⟨(some 121), .bin .leq, [.t 120, .c (.int .i64 1)], (some (119, true))⟩,
  ⟨(some 122), .pick, [.t 119, .t 121, .c (.bool false)], none⟩,
  ⟨(some 6), .mov, [.t 122], none⟩])
 AC.ret)))))
def r13 : AC × List RT × Nat := (c13, [.tmp 6], 123)
theorem ok13e : compF Tryz.prog Tryz.f13 ⟨false, false, []⟩ = some r13 := by kernel_rfl
variable {E : Env}
theorem eqv_opn {W : AW} {K : V → AW → Prop} : sem E (.eqv true (true, [.i .u8, .i .u8, .i .u8, .i .u16, .i .u16])) [.agg [.int .u8 0, .int .u8 0, .int .u8 0, .int .u16 0, .int .u16 0], .agg [.int .u8 0, .int .u8 0, .int .u8 0, .int .u16 0, .int .u16 0]] W K = K (.bool false) W := id rfl
theorem eqv_resn {W : AW} {K : V → AW → Prop} : sem E (.eqv true (true, [.i .u8, .i .u16])) [.agg [.int .u8 0, .int .u16 0], .agg [.int .u8 0, .int .u16 0]] W K = K (.bool false) W := id rfl
theorem eqv_cfn {W : AW} {K : V → AW → Prop} : sem E (.eqv true (true, [.i .u8, .i .i64, .i .i64, .i .i64, .b, .b, .b])) [.agg [.int .u8 0, .int .i64 0, .int .i64 0, .int .i64 0, .bool false, .bool false, .bool false], .agg [.int .u8 0, .int .i64 0, .int .i64 0, .int .i64 0, .bool false, .bool false, .bool false]] W K = K (.bool false) W := id rfl
theorem lsV_at {ls : List (Option (List Int))} {k : Nat} (h : k < ls.length) : (ls.map elV)[k]? = some (elV ls[k]) := by simp [h]
theorem lsV_isS (ls : List (Option (List Int))) : isS 1 (lsV ls) (ls.map elV) := by
  unfold lsV
  split
  · rename_i h; subst h; exact .inl ⟨rfl, rfl⟩
  · exact .mk
theorem same05_c (hP : E.P = Tryz.prog) (W : AW) (c i : Int) {ms : List Mi} {ls : List (Option (List Int))} (hm : ∀ m ∈ ms, m.ok) (hml : ms.length ≤ 8) (hll : ls.length ≤ 8) (hl : ∀ o ∈ ls, (nums o).length ≤ 32) :
    ACalls E 47 [evV 0 c i (msV ms) (lsV ls), evV 0 c i (msV ms) (lsV ls)] W fun Y W' => Y = .bool true ∧ W' = W := by
  refine ACalls.of hP Tryz.func47 ok47e (by simp) fun _ hok => ?_
  refine awp_start hok ?_
  have hms := msV_isMs ms
  have hls := lsV_isS ls
  simp (config := { maxSteps := 2000000 }) (disch := omega) only [c47, e_seq, e_reg, cond_if, e_block, e_skip, e_cons, e_nil, e_plain, guard_if, evs_nil, evs_cons, ev_t, ev_c, argsA_ap, e_putK, e_putd, e_put, e_then, ↓reduceIte, Nat.reduceEqDiff, List.getElem?_cons_zero, List.getElem?_cons_succ, Bool.false_eq_true, sem_mov, sem_pick, sem_neq, sem_box, sem_fld_ptr, X_alloc, X_nx, X_get, m_load, loadK_f, loadK_t, optK_some, cells_agg, List.cons_append, List.nil_append, List.length_cons, List.length_nil, Nat.zero_add, Nat.add_zero, Nat.reduceAdd, Nat.reduceLeDiff, List.drop_succ_cons, List.drop_zero, List.take_succ_cons, List.take_zero, List.take_nil, evV, bne_self_eq_false, eqv_opn, eqv_resn, eqv_cfn, hms.len, hls.len, List.length_map, e_loop]
  obtain ⟨W0, hW0⟩ : ∃ W0, W0 = X W W.nx [.row [.int .u8 0, .int .u8 c, .int .u16 i, .int .u8 0, .int .u8 0, .int .u8 0, .int .u16 0, .int .u16 0, .int .u8 0, .int .u16 0, msV ms, lsV ls, .int .u8 0, .int .i64 0, .int .i64 0, .int .i64 0, .bool false, .bool false, .bool false],
    .row [.int .u8 0, .int .u8 c, .int .u16 i, .int .u8 0, .int .u8 0, .int .u8 0, .int .u16 0, .int .u16 0, .int .u8 0, .int .u16 0, msV ms, lsV ls, .int .u8 0, .int .i64 0, .int .i64 0, .int .i64 0, .bool false, .bool false, .bool false]] := ⟨_, rfl⟩
  rw [← hW0]
  have k0 : W0.get (rf W.nx 0) = some (.row [.int .u8 0, .int .u8 c, .int .u16 i, .int .u8 0, .int .u8 0, .int .u8 0, .int .u16 0, .int .u16 0, .int .u8 0, .int .u16 0, msV ms, lsV ls, .int .u8 0, .int .i64 0, .int .i64 0, .int .i64 0, .bool false, .bool false, .bool false]) := by rw [hW0, X_get]; rfl
  have k1 : W0.get (rf W.nx 1) = some (.row [.int .u8 0, .int .u8 c, .int .u16 i, .int .u8 0, .int .u8 0, .int .u8 0, .int .u16 0, .int .u16 0, .int .u8 0, .int .u16 0, msV ms, lsV ls, .int .u8 0, .int .i64 0, .int .i64 0, .int .i64 0, .bool false, .bool false, .bool false]) := by rw [hW0, X_get]; rfl
  have hbk : RetV (.bool true) W0 (.bool true) W := by rw [hW0]; exact backX hok rfl
  have hn0 : W.nx ≤ W0.nx := by rw [hW0]; simp [X]
  refine ALoop.go (B := awp E _) (fun h => awp_mono _ h) (fun (k : Nat) A1 W1 => A1 2 = some (.ptr (rf W.nx 0) 0) ∧ A1 3 = some (.ptr (rf W.nx 1) 0) ∧ A1 5 = some (.int .i64 k) ∧ k ≤ ms.length ∧ W1 = W0) (fun k => ms.length - k) 0
    ⟨rfl, rfl, rfl, Nat.zero_le _, rfl⟩ ?_
  rintro k A1 W1 ⟨g2, g3, g5, gk, rfl⟩ _
  by_cases hk1 : k < ms.length
  · have hmo := hm _ (List.getElem_mem hk1)
    simp (config := { maxSteps := 2000000 }) (disch := omega) only [c47_0, e_seq, e_reg, cond_if, e_block, e_skip, e_par, e_done, e_step, e_cons, e_nil, e_plain, evs_nil, evs_cons, ev_t, ev_c, e_putK, e_putd, e_put, e_then, e_blk, ↓reduceIte, Nat.reduceEqDiff, List.getElem?_cons_zero, List.getElem?_cons_succ, Bool.false_eq_true, sem_mov, sem_add, sem_lss, sem_fld_ptr, m_load, loadK_f, optK_some, Nat.zero_add, Bool.not_true, g2, g3, g5, k0, k1, hms.len, List.length_map, clt, hk1, decide_true, hms.idx (mi_at hk1), mi_load, mi_eqv hmo hmo, Bool.not_true, wadd1]
    exact ⟨k + 1, ⟨(by first | trivial | rfl | omega), (by first | trivial | rfl | omega), (by first | trivial | rfl | omega), (by first | trivial | rfl | omega), (by first | trivial | rfl | omega)⟩, by omega, Nat.le_refl _⟩
  · simp (config := { maxSteps := 2000000 }) (disch := omega) only [c47_0, e_seq, e_reg, cond_if, e_block, e_exit, e_cons, e_nil, e_plain, evs_nil, evs_cons, ev_t, ev_c, e_putK, e_putd, e_put, e_then, e_then_exit, e_blk_exit, ↓reduceIte, Nat.reduceEqDiff, List.getElem?_cons_zero, List.getElem?_cons_succ, Bool.false_eq_true, sem_mov, sem_lss, sem_fld_ptr, m_load, loadK_f, optK_some, Nat.zero_add, g2, g5, k0, hms.len, List.length_map, clt, hk1, decide_false, e_loop]
    refine ALoop.go (B := awp E _) (fun h => awp_mono _ h) (fun (k : Nat) A1 W2 => A1 2 = some (.ptr (rf W.nx 0) 0) ∧ A1 3 = some (.ptr (rf W.nx 1) 0) ∧ A1 6 = some (.int .i64 k) ∧ k ≤ ls.length ∧ W2 = W1) (fun k => ls.length - k) 0
      ⟨g2, g3, rfl, Nat.zero_le _, rfl⟩ ?_
    rintro k A1 W2 ⟨g2, g3, g5, gk, rfl⟩ _
    by_cases hk1 : k < ls.length
    · have hel := elV_isEl ls[k]
      have h32 := hl _ (List.getElem_mem hk1)
      simp (config := { maxSteps := 2000000 }) (disch := omega) only [c47_1, e_seq, e_reg, cond_if, e_block, e_skip, e_par, e_step, e_cons, e_nil, e_plain, evs_nil, evs_cons, ev_t, e_putK, e_putd, e_put, e_then, ↓reduceIte, Nat.reduceEqDiff, List.map_cons, List.map_nil, List.getElem?_cons_zero, List.getElem?_cons_succ, sem_mov, sem_lss, sem_call, sem_fld_ptr, m_load, loadK_f, optK_some, Nat.zero_add, g2, g3, g5, k0, k1, hls.len, List.length_map, clt, hk1, decide_true, hls.idx (lsV_at hk1), hel.isS.loadf, hel.isS.frz]
      refine pc (same01_c hP W2 hel.isS hel.isS (by omega)) ?_
      simp (config := { maxSteps := 2000000 }) (disch := omega) only [e_reg, cond_if, e_skip, e_done, e_step, e_cons, e_nil, e_plain, evs_nil, evs_cons, ev_t, ev_c, e_putK, e_putd, e_put, e_then, e_blk, ↓reduceIte, Nat.reduceEqDiff, Bool.false_eq_true, sem_mov, sem_add, sem_not, Bool.not_true, g2, g3, g5, decide_true, Bool.not_true, wadd1]
      exact ⟨k + 1, ⟨(by first | trivial | rfl | omega), (by first | trivial | rfl | omega), (by first | trivial | rfl | omega), (by first | trivial | rfl | omega), (by first | trivial | rfl | omega)⟩, by omega, Nat.le_refl _⟩
    · simp (config := { maxSteps := 2000000 }) (disch := omega) only [c47_1, e_seq, e_reg, cond_if, e_exit, e_ret, e_cons, e_nil, e_plain, evs_nil, evs_cons, ev_t, ev_c, e_putK, e_putd, e_put, e_then, e_then_exit, e_blk_exit, retQ_ret, e_res1, ↓reduceIte, Nat.reduceEqDiff, Option.map_some, List.getElem?_cons_zero, List.getElem?_cons_succ, Bool.false_eq_true, frz_bool, sem_mov, sem_lss, sem_fld_ptr, m_load, loadK_f, optK_some, Nat.zero_add, g2, g5, k0, hls.len, List.length_map, clt, hk1, decide_false]
      exact ⟨_, rfl, _, W, hbk, Nat.le_refl _, rfl, rfl⟩
theorem same_c (hP : E.P = Tryz.prog) (W : AW) {a b : Tx} (ha : a.ok) (h : a = b ∨ a.st ≠ b.st) :
    ACalls E 37 [a.V, b.V] W fun Y W' => Y = .bool (decide (a = b)) ∧ W' = W := by
  refine ACalls.of hP Tryz.func37 ok37e (by simp) fun _ hok => ?_
  refine awp_start hok ?_
  rcases h with rfl | h
  · simp (config := { maxSteps := 2000000 }) (disch := omega) only [c37, e_seq, e_reg, e_cons, e_nil, e_plain, guard_if, evs_nil, evs_cons, ev_t, ev_c, argsA_ap, e_putK, e_putd, e_put, e_then, ↓reduceIte, Nat.reduceEqDiff, List.map_cons, List.map_nil, List.getElem?_cons_zero, List.getElem?_cons_succ, frz_agg, sem_mov, sem_eql, sem_call, sem_box, sem_fld_ptr, X_alloc, X_nx, X_get, m_load, loadK_f, optK_some, m_build, fillV_nil, fillV_cons, cells_int, cells_agg, List.cons_append, List.nil_append, List.length_cons, List.length_nil, List.length_append, Nat.zero_add, Nat.add_zero, Nat.reduceAdd, Nat.reduceLeDiff, List.drop_succ_cons, List.drop_zero, List.take_succ_cons, List.take_zero, msV_cells, lsV_cells, Tx.V, beq_self_eq_true]
    refine pc (same05_c hP _ a.client a.id ha.ms ha.msl ha.lsl fun o ho => (ha.ls o ho).1) ?_
    simp (config := { maxSteps := 2000000 }) (disch := omega) only [e_ret, e_cons, e_nil, e_plain, evs_nil, evs_cons, ev_t, ev_c, e_putK, e_putd, e_put, retQ_ret, e_res1, ↓reduceIte, Nat.reduceEqDiff, Option.map_some, frz_bool, sem_mov, sem_pick]
    exact ⟨_, rfl, _, W, backX hok rfl, Nat.le_refl _, by simp, rfl⟩
  · have hb : (a.st == b.st) = false := by rw [cmpeq]; exact decide_eq_false h
    have hne : a ≠ b := fun e => h (by rw [e])
    simp (config := { maxSteps := 2000000 }) (disch := omega) only [c37, e_seq, e_reg, e_ret, e_cons, e_nil, e_plain, guard_if, evs_nil, evs_cons, ev_t, ev_c, argsA_ap, e_putK, e_putd, e_put, e_then, retQ_ret, e_res1, ↓reduceIte, Nat.reduceEqDiff, Option.map_some, List.getElem?_cons_zero, List.getElem?_cons_succ, Bool.false_eq_true, frz_bool, sem_mov, sem_pick, sem_eql, sem_box, sem_fld_ptr, X_alloc, X_nx, X_get, m_load, loadK_f, optK_some, cells_agg, List.cons_append, List.nil_append, List.length_cons, List.length_nil, Nat.zero_add, undef_t, Tx.V, hb]
    exact ⟨_, rfl, _, W, backX hok rfl, Nat.le_refl _, by simp [hne], rfl⟩
end Go.AL.S
set_option maxRecDepth 100000
namespace Go.AL.S
open Go Go.AL Go.Proofs
variable {E : Env}
def diffN (z : List (Tx × Tx)) : Nat := (z.filter fun p => !decide (p.1 = p.2)).length
theorem diff_take {z : List (Tx × Tx)} {k : Nat} (h : k < z.length) : diffN (z.take (k + 1)) = diffN (z.take k) + (if z[k].1 = z[k].2 then 0 else 1) := by
  rw [List.take_add_one, List.getElem?_eq_getElem h]
  simp only [diffN, Option.toList_some, List.filter_append, List.length_append]
  by_cases hr : z[k].1 = z[k].2 <;> simp [hr]
theorem diff_le (z : List (Tx × Tx)) : diffN z ≤ z.length := List.length_filter_le _ _
theorem diff_over {z : List (Tx × Tx)} {k : Nat} (h : z.length ≤ k) : diffN (z.take k) = diffN z := by rw [List.take_of_length_le h]
def goesOn (a b : Tx) : Prop := a = b ∨ (a.st = 0 ∧ b.st ≠ 0 ∧ a.id = b.id ∧ a.client = b.client ∧ a.ms.length = b.ms.length)
theorem grown_c (hP : E.P = Tryz.prog) (W : AW) {v v' : V} {l l' : List Tx} (hv : isS 5 v (l.map Tx.V)) (hv' : isS 5 v' (l'.map Tx.V)) (ht : ∀ t ∈ l, t.ok) (ht' : ∀ t ∈ l', t.ok) (hl : l.length < 2 ^ 40) (hl1 : l.length ≤ l'.length) (hl2 : l'.length ≤ l.length + 1)
    (hs : l'.Pairwise fun a b => a.id < b.id) (hg : ∀ i (h : i < l.length) (h' : i < l'.length), goesOn l[i] l'[i]) (e : Int) (other : Nat) (ho : other = l'.length - l.length + diffN (l.zip l')) :
    ACalls E 13 [v, v', .int .i64 e] W fun Y W' => Y = .bool ((decide (e = 0) == decide (other = 1)) && decide (other ≤ 1)) ∧ W' = W := by
  refine ACalls.of hP Tryz.func13 ok13e (by simp) fun _ hok => ?_
  have hz : (l.zip l').length = l.length := by simp; omega
  have d0 : decide (((l'.length - l.length : Nat) : Int) < 0) = false := by simp
  have d1 : decide (((l'.length - l.length : Nat) : Int) > 1) = false := by simp; omega
  simp (config := { maxSteps := 2000000 }) (disch := omega) only [c13, e_seq, e_reg, cond_if, e_block, e_skip, e_cons, e_nil, e_plain, guard_if, evs_nil, evs_cons, ev_t, ev_c, argsA_ap, e_putK, e_putd, e_put, e_then, ↓reduceIte, Nat.reduceEqDiff, reduceCtorEq, List.getElem?_cons_zero, List.getElem?_cons_succ, Bool.false_eq_true, sem_mov, sem_pick, sem_sub, sem_lss, sem_gtr, hv.len, hv'.len, List.length_map, wsub, d0, d1]
  rw [e_loop]
  refine ALoop.go (B := awp E _) (fun h => awp_mono _ h) (fun (k : Nat) A1 W1 => A1 0 = some v ∧ A1 1 = some v' ∧ A1 2 = some (.int .i64 e) ∧ A1 7 = some (.int .i64 ((l'.length - l.length + diffN ((l.zip l').take k) : Nat) : Int)) ∧ A1 8 = some (.int .i64 k) ∧ k ≤ l'.length ∧ W1 = W) (fun k => l'.length - k) 0
    ⟨rfl, rfl, rfl, rfl, rfl, Nat.zero_le _, rfl⟩ ?_
  rintro k A1 W1 ⟨g0, g1, g2, g7, g8, gk, rfl⟩ _
  have hdl := diff_le ((l.zip l').take k)
  have hdl' : ((l.zip l').take k).length ≤ k := by simp; omega
  have hge : decide ((k : Int) ≥ (l.length : Int)) = decide (k ≥ l.length) := by simp
  have hgt : decide ((k : Int) > 0) = decide (0 < k) := by simp
  by_cases hk1 : k < l'.length
  · have hat' : (l'.map Tx.V)[k]? = some l'[k].V := by simp [hk1]
    by_cases hk0 : 0 < k
    · have hatp : (l'.map Tx.V)[k - 1]? = some (l'[k - 1]'(by omega)).V := by simp [show k - 1 < l'.length by omega]
      have hlt : decide (((l'[k - 1]'(by omega)).id : Int) ≥ l'[k].id) = false := by
        have := List.pairwise_iff_getElem.1 hs (k - 1) k (by omega) hk1 (by omega)
        simp; omega
      by_cases hkw : k ≥ l.length
      · have hd : diffN ((l.zip l').take (k + 1)) = diffN ((l.zip l').take k) := by rw [diff_over (by omega), diff_over (by omega)]
        simp (config := { maxSteps := 2000000 }) (disch := omega) only [c13_0, e_seq, e_reg, cond_if, e_block, e_exit, e_skip, e_par, e_done, e_step, e_cons, e_nil, e_plain, guard_if, evs_nil, evs_cons, ev_t, ev_c, e_putK, e_putd, e_put, e_then, e_then_exit, e_blk_exit, ↓reduceIte, Nat.reduceEqDiff, reduceCtorEq, Bool.false_eq_true, Bool.true_eq_false, sem_mov, sem_pick, sem_add, sem_sub, sem_lss, sem_gtr, sem_geq, m_loadcf, undef_t, g0, g1, g2, g7, g8, hv.len, hv'.len, List.length_map, clt, hk1, hgt, hk0, decide_true, wsub1, hv'.idx hat', hv'.idx hatp, tx_fld0, hlt, hge, decide_eq_true hkw, wadd1]
        exact ⟨k + 1, ⟨(by first | trivial | rfl | omega), (by first | trivial | rfl | omega), (by first | trivial | rfl | omega), by rw [hd], (by first | trivial | rfl | omega), (by first | trivial | rfl | omega), (by first | trivial | rfl | omega)⟩, by omega, Nat.le_refl _⟩
      · have hkz : k < (l.zip l').length := by omega
        have hd := diff_take hkz
        have hze : (l.zip l')[k] = (l[k]'(by omega), l'[k]) := by simp
        rw [hze] at hd
        have hat : (l.map Tx.V)[k]? = some (l[k]'(by omega)).V := by simp [show k < l.length by omega]
        rcases hg k (by omega) hk1 with hsm | ⟨q1, q2, q3, q4, q5⟩
        · simp (config := { maxSteps := 2000000 }) (disch := omega) only [c13_0, e_seq, e_reg, cond_if, e_block, e_skip, e_par, e_done, e_step, e_cons, e_nil, e_plain, guard_if, evs_nil, evs_cons, ev_t, ev_c, e_putK, e_putd, e_put, e_then, ↓reduceIte, Nat.reduceEqDiff, reduceCtorEq, List.map_cons, List.map_nil, Bool.false_eq_true, sem_mov, sem_pick, sem_sub, sem_lss, sem_gtr, sem_geq, sem_call, m_loadcf, g0, g1, g8, hv.len, hv'.len, List.length_map, clt, hk1, hgt, hk0, decide_true, wsub1, hv'.idx hat', hv'.idx hatp, hv.idx hat, tx_fld0, tx_load, hlt, hge, decide_eq_false hkw, tx_frz]
          refine pc (same_c hP W1 (ht _ (List.getElem_mem _)) (.inl hsm)) ?_
          simp (config := { maxSteps := 2000000 }) (disch := omega) only [e_reg, cond_if, e_exit, e_done, e_step, e_cons, e_nil, e_plain, evs_nil, evs_cons, ev_t, ev_c, e_putK, e_putd, e_put, e_then, e_then_exit, e_blk_exit, ↓reduceIte, Nat.reduceEqDiff, reduceCtorEq, Bool.false_eq_true, sem_mov, sem_pick, sem_add, g0, g1, g2, g7, g8, decide_eq_true hsm, wadd1]
          exact ⟨k + 1, ⟨(by first | trivial | rfl | omega), (by first | trivial | rfl | omega), (by first | trivial | rfl | omega), by rw [hd, if_pos hsm]; rfl, (by first | trivial | rfl | omega), (by first | trivial | rfl | omega), (by first | trivial | rfl | omega)⟩, by omega, Nat.le_refl _⟩
        · have hne : ¬ (l[k]'(by omega)) = l'[k] := fun e => q2 (by rw [← e]; exact q1)
          have e1 : ((l[k]'(by omega)).st != 0) = false := by simp [q1]
          have e2 : (l'[k].st == 0) = false := by simp [q2]
          have e3 : ((l[k]'(by omega)).id != l'[k].id) = false := by simp [q3]
          have e4 : ((l[k]'(by omega)).client != l'[k].client) = false := by simp [q4]
          have e5 : (((l[k]'(by omega)).ms.length : Int) != (l'[k].ms.length : Int)) = false := by simp [q5]
          simp (config := { maxSteps := 2000000 }) (disch := omega) only [c13_0, e_seq, e_reg, cond_if, e_block, e_skip, e_par, e_done, e_step, e_cons, e_nil, e_plain, guard_if, evs_nil, evs_cons, ev_t, ev_c, e_putK, e_putd, e_put, e_then, ↓reduceIte, Nat.reduceEqDiff, reduceCtorEq, List.map_cons, List.map_nil, Bool.false_eq_true, sem_mov, sem_pick, sem_sub, sem_lss, sem_gtr, sem_geq, sem_call, m_loadcf, g0, g1, g8, hv.len, hv'.len, List.length_map, clt, hk1, hgt, hk0, decide_true, wsub1, hv'.idx hat', hv'.idx hatp, hv.idx hat, tx_fld0, tx_load, hlt, hge, decide_eq_false hkw, tx_frz]
          refine pc (same_c hP W1 (ht _ (List.getElem_mem _)) (.inr (by rw [q1]; exact fun e => q2 e.symm))) ?_
          simp (config := { maxSteps := 2000000 }) (disch := omega) only [e_seq, e_reg, cond_if, e_skip, e_par, e_done, e_step, e_cons, e_nil, e_plain, guard_if, evs_nil, evs_cons, ev_t, ev_c, e_putK, e_putd, e_put, e_then, e_blk, ↓reduceIte, Nat.reduceEqDiff, reduceCtorEq, Bool.false_eq_true, sem_mov, sem_pick, sem_add, sem_eql, sem_neq, m_loadcf, g0, g1, g2, g7, g8, decide_eq_false hne, hv'.idx hat', hv.idx hat, tx_fld0, tx_fld1, tx_fld2, tx_fld4, e1, e2, e3, e4, (msV_isMs _).len, List.length_map, e5, wadd1]
          exact ⟨k + 1, ⟨(by first | trivial | rfl | omega), (by first | trivial | rfl | omega), (by first | trivial | rfl | omega), by rw [hd, if_neg hne]; rfl, (by first | trivial | rfl | omega), (by first | trivial | rfl | omega), (by first | trivial | rfl | omega)⟩, by omega, Nat.le_refl _⟩
    · by_cases hkw : k ≥ l.length
      · have hd : diffN ((l.zip l').take (k + 1)) = diffN ((l.zip l').take k) := by rw [diff_over (by omega), diff_over (by omega)]
        simp (config := { maxSteps := 2000000 }) (disch := omega) only [c13_0, e_seq, e_reg, cond_if, e_block, e_exit, e_skip, e_par, e_done, e_step, e_cons, e_nil, e_plain, guard_if, evs_nil, evs_cons, ev_t, ev_c, e_putK, e_putd, e_put, e_then, e_then_exit, e_blk_exit, ↓reduceIte, Nat.reduceEqDiff, reduceCtorEq, Bool.false_eq_true, Bool.true_eq_false, sem_mov, sem_pick, sem_add, sem_lss, sem_gtr, sem_geq, undef_t, g0, g1, g2, g7, g8, hv.len, hv'.len, List.length_map, clt, hk1, hgt, hk0, decide_true, decide_false, hge, decide_eq_true hkw, wadd1]
        exact ⟨k + 1, ⟨(by first | trivial | rfl | omega), (by first | trivial | rfl | omega), (by first | trivial | rfl | omega), by rw [hd], (by first | trivial | rfl | omega), (by first | trivial | rfl | omega), (by first | trivial | rfl | omega)⟩, by omega, Nat.le_refl _⟩
      · have hkz : k < (l.zip l').length := by omega
        have hd := diff_take hkz
        have hze : (l.zip l')[k] = (l[k]'(by omega), l'[k]) := by simp
        rw [hze] at hd
        have hat : (l.map Tx.V)[k]? = some (l[k]'(by omega)).V := by simp [show k < l.length by omega]
        rcases hg k (by omega) hk1 with hsm | ⟨q1, q2, q3, q4, q5⟩
        · simp (config := { maxSteps := 2000000 }) (disch := omega) only [c13_0, e_seq, e_reg, cond_if, e_block, e_skip, e_par, e_done, e_step, e_cons, e_nil, e_plain, guard_if, evs_nil, evs_cons, ev_t, ev_c, e_putK, e_putd, e_put, e_then, ↓reduceIte, Nat.reduceEqDiff, reduceCtorEq, List.map_cons, List.map_nil, Bool.false_eq_true, sem_mov, sem_pick, sem_lss, sem_gtr, sem_geq, sem_call, undef_t, g0, g1, g8, hv.len, hv'.len, List.length_map, clt, hk1, hgt, hk0, decide_true, decide_false, hv'.idx hat', hv.idx hat, tx_load, hge, decide_eq_false hkw, tx_frz]
          refine pc (same_c hP W1 (ht _ (List.getElem_mem _)) (.inl hsm)) ?_
          simp (config := { maxSteps := 2000000 }) (disch := omega) only [e_reg, cond_if, e_exit, e_done, e_step, e_cons, e_nil, e_plain, evs_nil, evs_cons, ev_t, ev_c, e_putK, e_putd, e_put, e_then, e_then_exit, e_blk_exit, ↓reduceIte, Nat.reduceEqDiff, reduceCtorEq, Bool.false_eq_true, sem_mov, sem_pick, sem_add, g0, g1, g2, g7, g8, decide_eq_true hsm, wadd1]
          exact ⟨k + 1, ⟨(by first | trivial | rfl | omega), (by first | trivial | rfl | omega), (by first | trivial | rfl | omega), by rw [hd, if_pos hsm]; rfl, (by first | trivial | rfl | omega), (by first | trivial | rfl | omega), (by first | trivial | rfl | omega)⟩, by omega, Nat.le_refl _⟩
        · have hne : ¬ (l[k]'(by omega)) = l'[k] := fun e => q2 (by rw [← e]; exact q1)
          have e1 : ((l[k]'(by omega)).st != 0) = false := by simp [q1]
          have e2 : (l'[k].st == 0) = false := by simp [q2]
          have e3 : ((l[k]'(by omega)).id != l'[k].id) = false := by simp [q3]
          have e4 : ((l[k]'(by omega)).client != l'[k].client) = false := by simp [q4]
          have e5 : (((l[k]'(by omega)).ms.length : Int) != (l'[k].ms.length : Int)) = false := by simp [q5]
          simp (config := { maxSteps := 2000000 }) (disch := omega) only [c13_0, e_seq, e_reg, cond_if, e_block, e_skip, e_par, e_done, e_step, e_cons, e_nil, e_plain, guard_if, evs_nil, evs_cons, ev_t, ev_c, e_putK, e_putd, e_put, e_then, ↓reduceIte, Nat.reduceEqDiff, reduceCtorEq, List.map_cons, List.map_nil, Bool.false_eq_true, sem_mov, sem_pick, sem_lss, sem_gtr, sem_geq, sem_call, undef_t, g0, g1, g8, hv.len, hv'.len, List.length_map, clt, hk1, hgt, hk0, decide_true, decide_false, hv'.idx hat', hv.idx hat, tx_load, hge, decide_eq_false hkw, tx_frz]
          refine pc (same_c hP W1 (ht _ (List.getElem_mem _)) (.inr (by rw [q1]; exact fun e => q2 e.symm))) ?_
          simp (config := { maxSteps := 2000000 }) (disch := omega) only [e_seq, e_reg, cond_if, e_skip, e_par, e_done, e_step, e_cons, e_nil, e_plain, guard_if, evs_nil, evs_cons, ev_t, ev_c, e_putK, e_putd, e_put, e_then, e_blk, ↓reduceIte, Nat.reduceEqDiff, reduceCtorEq, Bool.false_eq_true, sem_mov, sem_pick, sem_add, sem_eql, sem_neq, m_loadcf, g0, g1, g2, g7, g8, decide_eq_false hne, hv'.idx hat', hv.idx hat, tx_fld0, tx_fld1, tx_fld2, tx_fld4, e1, e2, e3, e4, (msV_isMs _).len, List.length_map, e5, wadd1]
          exact ⟨k + 1, ⟨(by first | trivial | rfl | omega), (by first | trivial | rfl | omega), (by first | trivial | rfl | omega), by rw [hd, if_neg hne]; rfl, (by first | trivial | rfl | omega), (by first | trivial | rfl | omega), (by first | trivial | rfl | omega)⟩, by omega, Nat.le_refl _⟩
  · obtain rfl : k = l'.length := by omega
    rw [diff_over (by omega), ← ho] at g7
    have x1 : ((other : Int) == 1) = decide (other = 1) := by rw [cmpeq]; simp; omega
    have x2 : decide ((other : Int) ≤ 1) = decide (other ≤ 1) := by simp; omega
    have x3 : ∀ (W : AW) K a b, sem E (.eqv false (false, [.b])) [.bool a, .bool b] W K = K (.bool (a == b)) W := fun W K a b => by
      simp [sem, rsem, tsem, V.has, V.isAgg, V.cells, V.hasKs, V.hasK, V.keq, V.eqs, V.eq1]
    cases hq : (decide (e = 0) == decide (other = 1)) with
    | true =>
      simp (config := { maxSteps := 2000000 }) (disch := omega) only [c13_0, e_seq, e_reg, cond_if, e_exit, e_ret, e_cons, e_nil, e_plain, guard_if, evs_nil, evs_cons, ev_t, ev_c, e_putK, e_putd, e_put, e_then, e_then_exit, e_blk_exit, retQ_ret, e_res1, ↓reduceIte, Nat.reduceEqDiff, Option.map_some, Bool.false_eq_true, frz_bool, sem_mov, sem_pick, sem_lss, sem_leq, sem_eql, Bool.true_and, g1, g2, g7, g8, hv'.len, List.length_map, clt, hk1, decide_false, cmpeq (b := (0 : Int)), x1, x2, x3, hq]
      exact ⟨_, rfl, _, _, .weak weak_id, Nat.le_refl _, rfl, rfl⟩
    | false =>
      simp (config := { maxSteps := 2000000 }) (disch := omega) only [c13_0, e_seq, e_reg, cond_if, e_exit, e_ret, e_cons, e_nil, e_plain, guard_if, evs_nil, evs_cons, ev_t, ev_c, e_putK, e_putd, e_put, e_then, e_then_exit, e_blk_exit, retQ_ret, e_res1, ↓reduceIte, Nat.reduceEqDiff, Option.map_some, Bool.false_eq_true, frz_bool, sem_mov, sem_pick, sem_lss, sem_eql, undef_t, g1, g2, g7, g8, hv'.len, List.length_map, clt, hk1, decide_false, cmpeq (b := (0 : Int)), x1, x3, hq]
      exact ⟨_, rfl, _, _, .weak weak_id, Nat.le_refl _, rfl, rfl⟩
end Go.AL.S
set_option maxRecDepth 100000
set_option maxHeartbeats 4000000
namespace Go.AL.S
open Go Go.AL Go.Proofs
/- umpire/umpirelaw25.given -/
def c15 : AC := (AC.seq (AC.reg [
  ⟨(some 0), .mov, [.c (.nilptr)], none⟩])
 (AC.seq (AC.reg [
  ⟨(some 2), .call 7, [], none⟩,
  ⟨(some 1), .mov, [.t 2], none⟩])
 (AC.seq (AC.seq (AC.reg [
  ⟨(some 3), .mov, [.t 1], none⟩,
  ⟨(some 4), .call 23, [.c (.int .u8 2)], none⟩,
  ⟨(some 5), .call 22, [.c (.int .u8 2), .c (.int .u16 6)], none⟩,
  ⟨(some 6), .bslice 3 2 (.agg [.bool false, .int .u8 0, .int .u16 0]) [0, 1], [.t 4, .t 5], none⟩,
  ⟨(some 7), .call 11, [.t 3, .c (.int .u8 0), .c (.int .u16 1), .t 6], none⟩,
  ⟨(some 8), .bin .neq, [.t 7, .c (.int .i64 0)], none⟩,
  ⟨(some 9), .mov, [.t 8], none⟩,
  ⟨(some 10), .mov, [.t 1], (some (9, false))⟩,
  ⟨(some 11), .call 22, [.c (.int .u8 2), .c (.int .u16 6)], (some (9, false))⟩,
  ⟨(some 12), .bslice 3 1 (.agg [.bool false, .int .u8 0, .int .u16 0]) [0], [.t 11], (some (9, false))⟩,
  ⟨(some 13), .call 11, [.t 10, .c (.int .u8 1), .c (.int .u16 2), .t 12], (some (9, false))⟩,
  ⟨(some 14), .bin .neq, [.t 13, .c (.int .i64 8)], (some (9, false))⟩,
  ⟨(some 15), .pick, [.t 9, .c (.bool true), .t 14], none⟩,
  ⟨(some 16), .mov, [.t 15], none⟩,
  ⟨(some 17), .mov, [.t 1], (some (16, false))⟩,
  ⟨(some 18), .call 22, [.c (.int .u8 3), .c (.int .u16 6)], (some (16, false))⟩,
  ⟨(some 19), .bslice 3 1 (.agg [.bool false, .int .u8 0, .int .u16 0]) [0], [.t 18], (some (16, false))⟩,
  ⟨(some 20), .call 11, [.t 17, .c (.int .u8 1), .c (.int .u16 1), .t 19], (some (16, false))⟩,
  ⟨(some 21), .bin .neq, [.t 20, .c (.int .i64 8)], (some (16, false))⟩,
  ⟨(some 22), .pick, [.t 16, .c (.bool true), .t 21], none⟩,
  ⟨(some 23), .mov, [.t 22], none⟩,
  ⟨(some 24), .mov, [.t 1], (some (23, false))⟩,
  ⟨(some 25), .call 22, [.c (.int .u8 3), .c (.int .u16 6)], (some (23, false))⟩,
  ⟨(some 26), .bslice 3 1 (.agg [.bool false, .int .u8 0, .int .u16 0]) [0], [.t 25], (some (23, false))⟩,
  ⟨(some 27), .call 11, [.t 24, .c (.int .u8 1), .c (.int .u16 2), .t 26], (some (23, false))⟩,
  ⟨(some 28), .bin .neq, [.t 27, .c (.int .i64 0)], (some (23, false))⟩,
  ⟨(some 29), .pick, [.t 23, .c (.bool true), .t 28], none⟩])
 (AC.cond (.t 29)
  (AC.seq (AC.reg [
   ⟨(some 0), .mov, [.c (.nilptr)], none⟩])
  AC.ret)
  AC.skip))
 (AC.seq (AC.reg [
  ⟨(some 30), .mov, [.t 1], none⟩,
  ⟨(some 0), .mov, [.t 30], none⟩])
 AC.ret))))
def r15 : AC × List RT × Nat := (c15, [.tmp 0], 31)
theorem ok15e : compF Tryz.prog Tryz.f15 ⟨false, false, []⟩ = some r15 := by kernel_rfl
/- umpire/umpirelaw25.add -/
def c22 : AC := (AC.seq (AC.reg [
  ⟨(some 4), .alloc [.bool false, .int .u8 0, .int .u16 0], [], none⟩])
 (AC.seq (AC.reg [
  ⟨(some 5), .mov, [.t 0], none⟩,
  ⟨(some 6), .mov, [.t 1], none⟩,
  ⟨(some 7), .build [.bool false, .int .u8 0, .int .u16 0] [(1, 1), (2, 1)], [.t 5, .t 6], none⟩,
  ⟨none, .store 3, [.t 4, .t 7], none⟩])
 AC.ret))
def r22 : AC × List RT × Nat := (c22, [.cell 4 true 3], 8)
theorem ok22e : compF Tryz.prog Tryz.f22 ⟨false, false, []⟩ = some r22 := by kernel_rfl
/- umpire/umpirelaw25.read -/
def c23 : AC := (AC.seq (AC.reg [
  ⟨(some 2), .alloc [.bool false, .int .u8 0, .int .u16 0], [], none⟩])
 (AC.seq (AC.reg [
  ⟨(some 3), .mov, [.t 0], none⟩,
  ⟨(some 4), .build [.bool false, .int .u8 0, .int .u16 0] [(0, 1), (1, 1)], [.c (.bool true), .t 3], none⟩,
  ⟨none, .store 3, [.t 2, .t 4], none⟩])
 AC.ret))
def r23 : AC × List RT × Nat := (c23, [.cell 2 true 3], 5)
theorem ok23e : compF Tryz.prog Tryz.f23 ⟨false, false, []⟩ = some r23 := by kernel_rfl
/- umpire/umpirelaw25.awake -/
def c6 : AC := (AC.seq (AC.reg [
  ⟨(some 0), .mov, [.c (.bool false)], none⟩])
 (AC.seq (AC.reg [
  ⟨(some 2), .call 15, [], none⟩,
  ⟨(some 1), .mov, [.t 2], none⟩])
 (AC.seq (AC.reg [
  ⟨(some 3), .mov, [.t 1], none⟩,
  ⟨(some 4), .eqn true 0, [.t 3, .c (.nilptr)], none⟩,
  ⟨(some 5), .mov, [.t 4], none⟩,
  ⟨(some 6), .mov, [.t 1], (some (5, true))⟩,
  ⟨(some 7), .call 25, [.t 6, .c (.int .u8 2), .c (.int .u16 6)], (some (5, true))⟩,
  ⟨(some 8), .bin .eql, [.t 7, .c (.int .i64 1)], (some (5, true))⟩,
  ⟨(some 9), .pick, [.t 5, .t 8, .c (.bool false)], none⟩,
  ⟨(some 10), .mov, [.t 9], none⟩,
  ⟨(some 11), .mov, [.t 1], (some (10, true))⟩,
  ⟨(some 12), .call 25, [.t 11, .c (.int .u8 3), .c (.int .u16 6)], (some (10, true))⟩,
  ⟨(some 13), .bin .eql, [.t 12, .c (.int .i64 2)], (some (10, true))⟩,
  ⟨(some 14), .pick, [.t 10, .t 13, .c (.bool false)], none⟩,
  ⟨(some 15), .mov, [.t 14], none⟩,
  ⟨(some 16), .mov, [.t 1], (some (15, true))⟩,
  ⟨(some 17), .call 25, [.t 16, .c (.int .u8 2), .c (.int .u16 7)], (some (15, true))⟩,
  ⟨(some 18), .bin .eql, [.t 17, .c (.int .i64 (-1))], (some (15, true))⟩,
  ⟨(some 19), .pick, [.t 15, .t 18, .c (.bool false)], none⟩,
  ⟨(some 20), .mov, [.t 19], none⟩,
  ⟨(some 21), .mov, [.t 1], (some (20, true))⟩,
  ⟨(some 22), .bslice 1 2 (.int .u16 0) [0, 1], [.c (.int .u16 4), .c (.int .u16 5)], (some (20, true))⟩,
  ⟨(some 23), .bslice 1 1 (.nilsl) [0], [.t 22], (some (20, true))⟩,
  ⟨(some 24), .call 8, [.t 21, .c (.int .u16 1), .t 23], (some (20, true))⟩,
  ⟨(some 25), .bin .eql, [.t 24, .c (.int .i64 0)], (some (20, true))⟩,
  ⟨(some 26), .pick, [.t 20, .t 25, .c (.bool false)], none⟩,
  ⟨(some 27), .mov, [.t 26], none⟩,
  ⟨(some 28), .mov, [.t 1], (some (27, true))⟩,
  ⟨(some 29), .call 20, [.t 28, .c (.int .u8 1)], (some (27, true))⟩,
  ⟨(some 30), .bin .eql, [.t 29, .c (.int .i64 1)], (some (27, true))⟩,
  ⟨(some 31), .pick, [.t 27, .t 30, .c (.bool false)], none⟩,
  ⟨(some 0), .mov, [.t 31], none⟩])
 AC.ret)))
def r6 : AC × List RT × Nat := (c6, [.tmp 0], 32)
theorem ok6e : compF Tryz.prog Tryz.f6 ⟨false, false, []⟩ = some r6 := by kernel_rfl
variable {E : Env}
/-- A store made since. -/
structure Nw (W W' : AW) (p ra rw : Nat) (s : Str) : Prop where
  st : St W' p ra rw s
  ex : Ex W W'
  hp : W.nx ≤ p
  ha : W.nx ≤ ra
  hw : W.nx ≤ rw
theorem Fr.cl {W W' : AW} {p ra rw : Nat} (h : Fr W W' p ra rw) (hC : Cl W) (hp : p < W.nx) (ha : ra < W.nx) (hw : rw < W.nx) : Cl W' := by
  intro x hx
  rw [h.nx] at hx
  rw [h.get x (by omega) (by omega) (by omega)]
  exact hC x hx
theorem Nw.fr {W W1 W2 : AW} {p ra rw : Nat} {s s' : Str} (h : Nw W W1 p ra rw s) (h2 : St W2 p ra rw s') (hf : Fr W1 W2 p ra rw) : Nw W W2 p ra rw s' := by
  have a := h.hp
  have b := h.ha
  have c := h.hw
  exact ⟨h2, ⟨hf.cl h.ex.cl h.st.lp h.st.la h.st.lw, by rw [hf.nx]; exact h.ex.nx, fun x hx => by rw [hf.get x (by omega) (by omega) (by omega)]; exact h.ex.get x hx⟩, a, b, c⟩
theorem Nw.exx {W W1 W2 : AW} {p ra rw : Nat} {s : Str} (h : Nw W W1 p ra rw s) (h2 : Ex W1 W2) : Nw W W2 p ra rw s := ⟨h.st.ex h2, h.ex.trans h2, h.hp, h.ha, h.hw⟩
theorem new_n (hP : E.P = Tryz.prog) (W : AW) : ACalls E 7 [] W fun Y W' => ∃ p ra rw, Y = .ptr p 0 ∧ Nw W W' p ra rw [] := by
  refine ACalls.of hP Tryz.func7 ok7e (by simp) fun _ hok => ?_
  refine awp_start hok ?_
  simp only [c7, e_seq, e_reg, e_ret, e_cons, e_nil, e_plain, evs_nil, evs_cons, ev_t, ev_c, e_putK, e_putd, e_put, e_then, retQ_ret, e_res1, ↓reduceIte, Nat.reduceEqDiff, Option.map_some, frz_ptr, sem_mov, sem_box, sem_mkmap, X_alloc, X_nx, optK_some, m_build, fillV_nil, fillV_cons, cells_int, cells_agg, cells_map, List.cons_append, List.nil_append, List.append_nil, List.length_cons, List.length_nil, Nat.zero_add, Nat.reduceAdd, Nat.reduceLeDiff, List.drop_succ_cons, List.drop_zero, List.drop_nil, List.take_succ_cons, List.take_zero]
  refine ⟨_, rfl, _, _, .weak weak_id, ?_, rf W.nx 2, rf W.nx 0, rf W.nx 1, rfl, ⟨?_, ?_, ⟨[], 0, ?_, ⟨(fun _ h => by cases h), fun _ _ => rfl⟩⟩, ?_, ?_, ?_, ?_, ⟨by simp, List.Pairwise.nil⟩⟩, Ex.x0, ?_, ?_, ?_⟩
  · simp [X_nx, rf]
  · simp only [List.getElem?_cons_zero, List.getElem?_cons_succ, X_get]; rfl
  · simp only [List.getElem?_cons_zero, X_get, List.length_nil]; rfl
  · simp only [List.getElem?_cons_zero, List.getElem?_cons_succ, X_get]
  all_goals simp [rf, X_nx]
theorem read_c (hP : E.P = Tryz.prog) (W : AW) (k : Int) : ACalls E 23 [.int .u8 k] W fun Y W' => Y = (Mi.mk true k 0).V ∧ W' = W := by
  refine ACalls.of hP Tryz.func23 ok23e (by simp) fun _ hok => ?_
  refine awp_start hok ?_
  simp (config := { maxSteps := 2000000 }) (disch := omega) only [c23, e_seq, e_reg, e_ret, e_cons, e_nil, e_plain, evs_nil, evs_cons, ev_t, ev_c, argsA_ap, e_putK, e_putd, e_putd0, e_put, e_then, retQ_ret, ↓reduceIte, Nat.reduceEqDiff, reduceCtorEq, Option.map_some, List.getElem?_cons_zero, frz_agg, sem_mov, sem_alloc, X_alloc, X_nx, X_get, X_put1, optK_some, partV_t, m_store, storeK_row, m_build, fillV_nil, fillV_cons, cells_int, cells_bool, cells_agg, one_int, one_bool, List.cons_append, List.nil_append, List.append_nil, List.length_cons, List.length_nil, Nat.zero_add, Nat.reduceAdd, Nat.reduceLeDiff, Nat.reduceLT, List.set_cons_zero, List.drop_succ_cons, List.drop_zero, List.drop_nil, List.take_succ_cons, List.take_zero, List.take_nil, List.all_cons, List.all_nil, Bool.and_self, undef_t, e_resc, rt_cell, rsem_load, cellV_row, partV_t]
  exact ⟨_, rfl, _, W, backX hok rfl, Nat.le_refl _, rfl, rfl⟩
theorem add_c (hP : E.P = Tryz.prog) (W : AW) (k v : Int) : ACalls E 22 [.int .u8 k, .int .u16 v] W fun Y W' => Y = (Mi.mk false k v).V ∧ W' = W := by
  refine ACalls.of hP Tryz.func22 ok22e (by simp) fun _ hok => ?_
  refine awp_start hok ?_
  simp (config := { maxSteps := 2000000 }) (disch := omega) only [c22, e_seq, e_reg, e_ret, e_cons, e_nil, e_plain, evs_nil, evs_cons, ev_t, argsA_ap, e_putK, e_putd, e_putd0, e_put, e_then, retQ_ret, ↓reduceIte, Nat.reduceEqDiff, reduceCtorEq, Option.map_some, List.getElem?_cons_zero, List.getElem?_cons_succ, frz_agg, sem_mov, sem_alloc, X_alloc, X_nx, X_get, X_put1, optK_some, partV_t, m_store, storeK_row, m_build, fillV_nil, fillV_cons, cells_int, cells_agg, one_int, one_bool, List.cons_append, List.nil_append, List.append_nil, List.length_cons, List.length_nil, Nat.zero_add, Nat.reduceAdd, Nat.reduceLeDiff, Nat.reduceLT, List.set_cons_zero, List.drop_succ_cons, List.drop_zero, List.drop_nil, List.take_succ_cons, List.take_zero, List.take_nil, List.all_cons, List.all_nil, Bool.and_self, undef_t, e_resc, rt_cell, rsem_load, cellV_row, partV_t]
  exact ⟨_, rfl, _, W, backX hok rfl, Nat.le_refl _, rfl, rfl⟩
theorem m_bs1 {W : AW} {K : V → AW → Prop} {m : Mi} : sem E (.bslice 3 1 (.agg [.bool false, .int .u8 0, .int .u16 0]) [0]) [m.V] W K = K (.sl 3 true [m.V]) W := by
  simp [sem, rsem, tsem, fillE, V.cells, Mi.V]
theorem m_bs2 {W : AW} {K : V → AW → Prop} {m m' : Mi} : sem E (.bslice 3 2 (.agg [.bool false, .int .u8 0, .int .u16 0]) [0, 1]) [m.V, m'.V] W K = K (.sl 3 true [m.V, m'.V]) W := by
  simp [sem, rsem, tsem, fillE, V.cells, Mi.V]
theorem isMs_sl {f : Bool} (l : List Mi) : isMs (.sl 3 f (l.map Mi.V)) l := .mk
def s1 : Str := [⟨1, 0, [⟨true, 2, 0⟩, ⟨false, 2, 6⟩], [], 0⟩]
def s2 : Str := [⟨1, 0, [⟨true, 2, 0⟩, ⟨false, 2, 6⟩], [], 0⟩, ⟨2, 1, [⟨false, 3, 6⟩], [], 0⟩]
theorem ok_mi {l : List Mi} (h : (l.all fun m => decide (0 ≤ m.key) && decide (m.key < 256) && decide (0 ≤ m.v) && decide (m.v < 65536)) = true) : ∀ m ∈ l, m.ok := by
  intro m hm
  have := List.all_eq_true.1 h m hm
  simp only [Bool.and_eq_true, decide_eq_true_eq] at this
  exact ⟨this.1.1.1, this.1.1.2, this.1.2, this.2⟩
theorem given_c (hP : E.P = Tryz.prog) (W : AW) : ACalls E 15 [] W fun Y W' => ∃ p ra rw, Y = .ptr p 0 ∧ Nw W W' p ra rw s2 := by
  refine ACalls.of hP Tryz.func15 ok15e (by simp) fun _ hok => ?_
  simp (config := { maxSteps := 2000000 }) (disch := omega) only [c15, e_seq, e_reg, e_cons, e_nil, e_plain, evs_nil, evs_cons, ev_c, e_putK, e_putd, e_then, List.map_nil, sem_mov, sem_call]
  refine (new_n hP W).mono ?_
  rintro _ W1 ⟨p, ra, rw, rfl, h⟩
  simp (config := { maxSteps := 2000000 }) (disch := omega) only [e_seq, e_reg, e_cons, e_nil, e_plain, evs_nil, evs_cons, ev_t, ev_c, e_putK, e_putd, e_put, e_then, ↓reduceIte, List.map_cons, List.map_nil, frz_int, sem_mov, sem_call]
  refine pc (read_c hP _ _) ?_
  simp (config := { maxSteps := 2000000 }) (disch := omega) only [e_cons, e_plain, evs_nil, evs_cons, ev_c, e_putK, e_putd, List.map_cons, List.map_nil, frz_int, sem_call]
  refine pc (add_c hP _ _ _) ?_
  simp (config := { maxSteps := 2000000 }) (disch := omega) only [e_cons, e_plain, evs_nil, evs_cons, ev_t, ev_c, e_putK, e_putd, e_put, ↓reduceIte, Nat.reduceEqDiff, List.map_cons, List.map_nil, frz_int, frz_sl, frz_ptr, sem_call, m_bs2]
  refine (begin_c hP _ h.st 0 1 (by decide) (by decide) (by decide) (by decide) (isMs_sl [⟨true, 2, 0⟩, ⟨false, 2, 6⟩]) (ok_mi (by decide)) (by decide)).mono ?_
  rintro _ W2 ⟨rfl, h2, f2⟩
  have h := h.fr h2 f2
  rw [show beginR [] 0 1 [⟨true, 2, 0⟩, ⟨false, 2, 6⟩] = (s1, 0) by decide +kernel] at h ⊢
  simp (config := { maxSteps := 2000000 }) (disch := omega) only [e_cons, e_plain, guard_if, evs_nil, evs_cons, ev_t, ev_c, e_putK, e_putd, e_put, ↓reduceIte, Nat.reduceEqDiff, List.map_cons, List.map_nil, frz_int, sem_mov, sem_neq, sem_call, show ((0 : Int) != 0) = false by decide]
  refine pc (add_c hP _ _ _) ?_
  simp (config := { maxSteps := 2000000 }) (disch := omega) only [e_cons, guard_if, evs_nil, evs_cons, ev_t, ev_c, e_putK, e_putd, e_put, ↓reduceIte, Nat.reduceEqDiff, List.map_cons, List.map_nil, frz_int, frz_sl, frz_ptr, sem_call, m_bs1]
  refine (begin_c hP _ h.st 1 2 (by decide) (by decide) (by decide) (by decide) (isMs_sl [⟨false, 2, 6⟩]) (ok_mi (by decide)) (by decide)).mono ?_
  rintro _ W3 ⟨rfl, h2, f2⟩
  have h := h.fr h2 f2
  rw [show beginR s1 1 2 [⟨false, 2, 6⟩] = (s1, 8) by decide +kernel] at h ⊢
  simp (config := { maxSteps := 2000000 }) (disch := omega) only [e_cons, e_plain, guard_if, evs_nil, evs_cons, ev_t, ev_c, e_putK, e_putd, e_put, ↓reduceIte, Nat.reduceEqDiff, List.map_cons, List.map_nil, Bool.false_eq_true, frz_int, sem_mov, sem_pick, sem_neq, sem_call, show ((8 : Int) != 8) = false by decide]
  refine pc (add_c hP _ _ _) ?_
  simp (config := { maxSteps := 2000000 }) (disch := omega) only [e_cons, guard_if, evs_nil, evs_cons, ev_t, ev_c, e_putK, e_putd, e_put, ↓reduceIte, Nat.reduceEqDiff, List.map_cons, List.map_nil, frz_int, frz_sl, frz_ptr, sem_call, m_bs1]
  refine (begin_c hP _ h.st 1 1 (by decide) (by decide) (by decide) (by decide) (isMs_sl [⟨false, 3, 6⟩]) (ok_mi (by decide)) (by decide)).mono ?_
  rintro _ W4 ⟨rfl, h2, f2⟩
  have h := h.fr h2 f2
  rw [show beginR s1 1 1 [⟨false, 3, 6⟩] = (s1, 8) by decide +kernel] at h ⊢
  simp (config := { maxSteps := 2000000 }) (disch := omega) only [e_cons, e_plain, guard_if, evs_nil, evs_cons, ev_t, ev_c, e_putK, e_putd, e_put, ↓reduceIte, Nat.reduceEqDiff, List.map_cons, List.map_nil, Bool.false_eq_true, frz_int, sem_mov, sem_pick, sem_neq, sem_call, show ((8 : Int) != 8) = false by decide]
  refine pc (add_c hP _ _ _) ?_
  simp (config := { maxSteps := 2000000 }) (disch := omega) only [e_cons, guard_if, evs_nil, evs_cons, ev_t, ev_c, e_putK, e_putd, e_put, ↓reduceIte, Nat.reduceEqDiff, List.map_cons, List.map_nil, frz_int, frz_sl, frz_ptr, sem_call, m_bs1]
  refine (begin_c hP _ h.st 1 2 (by decide) (by decide) (by decide) (by decide) (isMs_sl [⟨false, 3, 6⟩]) (ok_mi (by decide)) (by decide)).mono ?_
  rintro _ W5 ⟨rfl, h2, f2⟩
  have h := h.fr h2 f2
  rw [show beginR s1 1 2 [⟨false, 3, 6⟩] = (s2, 0) by decide +kernel] at h ⊢
  simp (config := { maxSteps := 2000000 }) (disch := omega) only [e_seq, e_reg, cond_if, e_ret, e_skip, e_cons, e_nil, e_plain, guard_if, evs_nil, evs_cons, ev_t, ev_c, e_putK, e_putd, e_put, e_then, retQ_ret, e_res1, ↓reduceIte, Nat.reduceEqDiff, Option.map_some, Bool.false_eq_true, frz_ptr, sem_mov, sem_pick, sem_neq, show ((0 : Int) != 0) = false by decide]
  exact ⟨_, rfl, _, _, .weak weak_id, h.ex.nx, p, ra, rw, rfl, h⟩
theorem eqn_pnT {W : AW} {K : V → AW → Prop} {r o : Nat} : sem E (.eqn true 0) [.ptr r o, .nilptr] W K = K (.bool true) W := id rfl
theorem awake_c (hP : E.P = Tryz.prog) (W : AW) : ACalls E 6 [] W fun Y W' => Y = .bool true ∧ W' = W := by
  refine ACalls.of hP Tryz.func6 ok6e (by simp) fun _ hok => ?_
  simp (config := { maxSteps := 2000000 }) (disch := omega) only [c6, e_seq, e_reg, e_cons, e_nil, e_plain, evs_nil, evs_cons, ev_c, e_putK, e_putd, e_then, List.map_nil, sem_mov, sem_call]
  refine (given_c hP W).mono ?_
  rintro _ W1 ⟨p, ra, rw, rfl, h⟩
  simp (config := { maxSteps := 2000000 }) (disch := omega) only [e_seq, e_reg, e_cons, e_nil, e_plain, guard_if, evs_nil, evs_cons, ev_t, ev_c, e_putK, e_putd, e_put, e_then, ↓reduceIte, Nat.reduceEqDiff, List.map_cons, List.map_nil, frz_int, frz_ptr, frz_tuple, sem_mov, sem_pick, sem_call, optK_some, m_eqn, eqNil_pn, Bool.not_false, undef_t, Bool.not_false]
  refine pc (whoI_c hP _ h.st 2 6 (by decide) (by decide) (by decide) (by decide)) ?_
  simp (config := { maxSteps := 2000000 }) (disch := omega) only [e_cons, e_plain, guard_if, evs_nil, evs_cons, ev_t, ev_c, e_putK, e_putd, e_put, ↓reduceIte, Nat.reduceEqDiff, List.map_cons, List.map_nil, frz_int, frz_ptr, sem_mov, sem_pick, sem_eql, sem_call, show (whoI s2 2 6 == 1) = true by decide +kernel]
  refine pc (whoI_c hP _ h.st 3 6 (by decide) (by decide) (by decide) (by decide)) ?_
  simp (config := { maxSteps := 2000000 }) (disch := omega) only [e_cons, e_plain, guard_if, evs_nil, evs_cons, ev_t, ev_c, e_putK, e_putd, e_put, ↓reduceIte, Nat.reduceEqDiff, List.map_cons, List.map_nil, frz_int, frz_ptr, sem_mov, sem_pick, sem_eql, sem_call, show (whoI s2 3 6 == 2) = true by decide +kernel]
  refine pc (whoI_c hP _ h.st 2 7 (by decide) (by decide) (by decide) (by decide)) ?_
  have hb1 : ∀ (W : AW) K, sem E (.bslice 1 2 (.int .u16 0) [0, 1]) [.int .u16 4, .int .u16 5] W K = K (.sl 1 true (intsV [4, 5])) W := fun W K => by
    simp [sem, rsem, tsem, fillE, V.cells, intsV]
  have hb2 : ∀ (W : AW) K, sem E (.bslice 1 1 .nilsl [0]) [.sl 1 true (intsV [4, 5])] W K = K (.sl 1 true [.sl 1 true (intsV [4, 5])]) W := fun W K => by
    simp [sem, rsem, tsem, fillE, V.cells]
  simp (config := { maxSteps := 2000000 }) (disch := omega) only [e_cons, e_plain, guard_if, evs_nil, evs_cons, ev_t, ev_c, e_putK, e_putd, e_put, ↓reduceIte, Nat.reduceEqDiff, List.map_cons, List.map_nil, frz_int, frz_sl, frz_ptr, sem_mov, sem_pick, sem_eql, sem_call, show (whoI s2 2 7 == -1) = true by decide +kernel, hb1, hb2]
  refine (commit_c hP _ h.st 1 (by decide) (by decide) (r := .sl 1 true [.sl 1 true (intsV [4, 5])]) (ls := [some [4, 5]]) ⟨_, .mk, rfl, ?_⟩ rfl (by decide) (by simp [nums])).mono ?_
  · intro k h1 h2
    have : k = 0 := by simp at h1; omega
    subst this
    exact .inr (.inr ⟨true, [4, 5], rfl, rfl⟩)
  rintro _ W2 ⟨rfl, h2, f2⟩
  have h := h.fr h2 f2
  obtain ⟨s3, hs3⟩ : ∃ s3, s3 = (commitR s2 1 [some [4, 5]]).1 := ⟨_, rfl⟩
  have hc3 : countB s3 1 = 1 := by rw [hs3]; decide +kernel
  rw [show (commitR s2 1 [some [4, 5]]).2 = 0 by decide +kernel]
  rw [← hs3] at h
  simp (config := { maxSteps := 2000000 }) (disch := omega) only [e_cons, e_plain, guard_if, evs_nil, evs_cons, ev_t, ev_c, e_putK, e_putd, e_put, ↓reduceIte, Nat.reduceEqDiff, List.map_cons, List.map_nil, frz_int, frz_ptr, sem_mov, sem_pick, sem_eql, sem_call, show ((0 : Int) == 0) = true by decide]
  refine pc (count_c hP _ h.st 1) ?_
  rw [hc3]
  simp (config := { maxSteps := 2000000 }) (disch := omega) only [e_ret, e_cons, e_nil, e_plain, guard_if, evs_nil, evs_cons, ev_t, ev_c, e_putK, e_putd, e_put, retQ_ret, e_res1, ↓reduceIte, Nat.reduceEqDiff, Option.map_some, frz_bool, sem_mov, sem_pick, sem_eql, show (((1 : Nat) : Int) == 1) = true by decide]
  exact ⟨_, rfl, _, W, h.ex.back hok rfl, Nat.le_refl _, rfl, rfl⟩
end Go.AL.S
set_option maxRecDepth 100000
namespace Go.AL.S
open Go Go.AL Go.Proofs
/-! the plain law of TxnOnce -/
def actR (s : Str) (a : Ac) : Str × Int :=
  if a.what.tmod 7 = 2 ∨ a.what.tmod 7 = 3 then commitR s a.id a.rdl
  else if a.what.tmod 7 = 4 then endR s a.id 2
  else if a.what.tmod 7 = 5 ∨ a.what.tmod 7 = 6 then endR s a.id 3
  else beginR s a.client a.id a.txl
def SInv (s : Str) : Prop := ∀ t ∈ s, ∀ m ∈ t.ms, m.read = false → whoI s m.key m.v = t.id ∧ timesN t.ms m = 1
/-- How a store may have changed. -/
inductive Step (s : Str) : Str → Int → Prop where
  | same {e : Int} : e ≠ 0 → Step s s e
  | upd {t x : Tx} : t ∈ s → t.st = 0 → x.st ≠ 0 → x.id = t.id → x.client = t.client → x.ms = t.ms → Step s (S.upd s x) 0
  | app {t : Tx} : freshB s t.ms = true → Step s (s ++ [t]) 0
theorem find_mem {s : Str} {i : Int} {t : Tx} (h : find s i = some t) : t ∈ s := by
  unfold find at h; exact List.mem_of_find?_eq_some h
theorem end_step (s : Str) (i st : Int) (h : st ≠ 0) : Step s (endR s i st).1 (endR s i st).2 := by
  unfold endR
  cases hf : find s i with
  | none => exact .same (by simp)
  | some t =>
    by_cases h0 : t.st = 0
    · simp only [if_pos h0]
      exact .upd (find_mem hf) h0 h rfl rfl rfl
    · simp only [if_neg h0]
      exact .same (by simp)
theorem act_step (s : Str) (a : Ac) : Step s (actR s a).1 (actR s a).2 := by
  unfold actR
  split
  · unfold commitR
    cases hf : find s a.id with
    | none => exact .same (by simp)
    | some t =>
      by_cases h0 : t.st = 0
      · by_cases h1 : okC a.rdl = true
        · by_cases h2 : reads t.ms = a.rdl.length
          · simp only [if_pos h0, if_pos h1, if_pos h2]
            exact .upd (find_mem hf) h0 (by simp) rfl rfl rfl
          · simp only [if_pos h0, if_pos h1, if_neg h2]
            exact .same (by simp)
        · simp only [if_pos h0, if_neg h1]
          exact .same (by simp)
      · simp only [if_neg h0]
        exact .same (by simp)
  · split
    · exact end_step s a.id 2 (by simp)
    · split
      · exact end_step s a.id 3 (by simp)
      · unfold beginR
        by_cases h1 : okB a.client a.txl = true
        · by_cases h2 : a.id ≤ lastId s
          · simp only [if_pos h1, if_pos h2]
            exact .same (by simp)
          · by_cases h3 : freshB s a.txl = true
            · simp only [if_pos h1, if_neg h2, if_pos h3]
              exact .app h3
            · simp only [if_pos h1, if_neg h2, if_neg h3]
              exact .same (by simp)
        · simp only [if_neg h1]
          exact .same (by simp)
theorem whoI_upd {s : Str} (hs : s.Pairwise fun a b => a.id < b.id) {t x : Tx} (ht : t ∈ s) (hi : x.id = t.id) (hm : x.ms = t.ms) (k v : Int) : whoI (upd s x) k v = whoI s k v := by
  have := upd_who hs ht hi hm k v
  unfold whoI
  cases h1 : who (upd s x) k v <;> cases h2 : who s k v <;> simp [h1, h2] at this ⊢
  exact this
theorem times_one : ∀ {l : List Mi} {m : Mi}, (addsOf l).Nodup → m ∈ l → m.read = false → timesN l m = 1
  | [], _, _, h, _ => by simp at h
  | x :: l, m, hn, hm, hr => by
    have hz : ∀ l : List Mi, (m.key, m.v) ∉ addsOf l → timesN l m = 0 := by
      intro l h
      simp only [timesN, List.length_eq_zero_iff, List.filter_eq_nil_iff, decide_eq_true_eq]
      intro y hy e
      subst e
      exact h (adds_mem.2 ⟨y, hy, hr, rfl, rfl⟩)
    by_cases e : x = m
    · subst e
      have hn' : addsOf (x :: l) = (x.key, x.v) :: addsOf l := by simp [addsOf, hr]
      rw [hn'] at hn
      have := hz l (List.nodup_cons.1 hn).1
      simp only [timesN, List.filter_cons, decide_true, if_true, List.length_cons] at this ⊢
      omega
    · have hm' : m ∈ l := by
        rcases List.mem_cons.1 hm with h | h
        · exact absurd h.symm e
        · exact h
      have hn' : (addsOf l).Nodup := by
        simp only [addsOf, List.filter_cons] at hn
        split at hn
        · exact (List.nodup_cons.1 hn).2
        · exact hn
      have := times_one hn' hm' hr
      simp only [timesN, List.filter_cons, decide_eq_false e, Bool.false_eq_true, if_false] at this ⊢
      exact this
theorem step_inv {s s' : Str} {e : Int} (h : Step s s' e) (hs : SOk s) (hs' : SOk s') (hi : SInv s) : SInv s' := by
  cases h with
  | same => exact hi
  | upd ht h0 h1 h2 h3 h4 =>
    rename_i t x
    intro y hy m hm hr
    rw [whoI_upd hs.lt ht h2 h4]
    rcases upd_mem hy with rfl | hy
    · rw [h4] at hm ⊢
      rw [h2]
      exact hi t ht m hm hr
    · exact hi y hy m hm hr
  | app hf =>
    rename_i t
    simp only [freshB, Bool.and_eq_true, decide_eq_true_eq, List.all_eq_true] at hf
    intro y hy m hm hr
    have hw : ∀ k v, whoI (s ++ [t]) k v = if (who s k v).isSome then whoI s k v else if S.has t k v then t.id else -1 := by
      intro k v
      have happ : who (s ++ [t]) k v = (who s k v).or (if S.has t k v = true then some t else none) := by
        unfold who
        rw [List.find?_append]
        congr 1
        simp only [List.find?_cons, List.find?_nil]
        cases S.has t k v <;> simp
      unfold whoI
      rw [happ]
      cases h1 : who s k v with
      | some _ => rfl
      | none => cases S.has t k v <;> rfl
    rcases List.mem_append.1 hy with hy | hy
    · obtain ⟨h1, h2⟩ := hi y hy m hm hr
      refine ⟨?_, h2⟩
      have hsome : (who s m.key m.v).isSome = true := by
        unfold whoI at h1
        cases hw' : who s m.key m.v with
        | some _ => rfl
        | none =>
          rw [hw'] at h1
          have := (hs.ok y hy).id0
          simp only at h1
          omega
      rw [hw, hsome, if_pos rfl]
      exact h1
    · rw [List.mem_singleton.1 hy] at hm ⊢
      have hin : (m.key, m.v) ∈ addsOf t.ms := adds_mem.2 ⟨m, hm, hr, rfl, rfl⟩
      have hnone := hf.2 _ hin
      have hhas : S.has t m.key m.v = true := by rw [has_iff]; simpa using hin
      refine ⟨?_, times_one hf.1 hm hr⟩
      rw [hw]
      cases hx : who s m.key m.v with
      | some _ => rw [hx] at hnone; simp at hnone
      | none => simp [hhas]
theorem diff_same : ∀ (s r : Str), diffN (s.zip (s ++ r)) = 0
  | [], r => rfl
  | x :: s, r => by
    have := diff_same s r
    simp only [diffN, List.cons_append, List.zip_cons_cons, List.filter_cons, decide_true, Bool.not_true, Bool.false_eq_true, if_false] at this ⊢
    exact this
theorem diff_upd {x : Tx} : ∀ {s : Str} {t : Tx}, (s.Pairwise fun a b => a.id < b.id) → t ∈ s → t.id = x.id → t ≠ x → diffN (s.zip (upd s x)) = 1
  | [], _, _, h, _, _ => by simp at h
  | y :: s, t, hp, ht, hi, hne => by
    have hp' := List.pairwise_cons.1 hp
    by_cases e : y.id = x.id
    · have hy : y = t := by
        rcases List.mem_cons.1 ht with h | h
        · exact h.symm
        · have := hp'.1 t h; omega
      subst hy
      have := diff_same s []
      rw [List.append_nil] at this
      simp only [diffN] at this
      simp only [upd, if_pos e, diffN, List.zip_cons_cons, List.filter_cons, decide_eq_false hne, Bool.not_false, if_true, List.length_cons, this]
    · have ht' : t ∈ s := by
        rcases List.mem_cons.1 ht with h | h
        · subst h; exact absurd hi e
        · exact h
      have := diff_upd hp'.2 ht' hi hne
      simp only [diffN] at this
      simp only [upd, if_neg e, diffN, List.zip_cons_cons, List.filter_cons, decide_true, Bool.not_true, Bool.false_eq_true, if_false, this]
theorem goes_upd {x : Tx} : ∀ {s : Str} {t : Tx}, (s.Pairwise fun a b => a.id < b.id) → t ∈ s → t.id = x.id → t.st = 0 → x.st ≠ 0 → x.client = t.client → x.ms = t.ms → ∀ i (h : i < s.length) (h' : i < (upd s x).length), goesOn s[i] (upd s x)[i]
  | [], _, _, _, _, _, _, _, _, i, h, _ => by simp at h
  | y :: s, t, hp, ht, hi, h0, h1, h2, h3, i, h, h' => by
    have hp' := List.pairwise_cons.1 hp
    by_cases e : y.id = x.id
    · have hy : y = t := by
        rcases List.mem_cons.1 ht with h | h
        · exact h.symm
        · have := hp'.1 t h; omega
      subst hy
      have hu : upd (y :: s) x = x :: s := by simp only [upd, if_pos e]
      cases i with
      | zero => simp only [hu, List.getElem_cons_zero]; exact .inr ⟨h0, h1, e, h2.symm, by rw [h3]⟩
      | succ i => simp only [hu, List.getElem_cons_succ]; exact .inl rfl
    · have ht' : t ∈ s := by
        rcases List.mem_cons.1 ht with h | h
        · subst h; exact absurd hi e
        · exact h
      have hu : upd (y :: s) x = y :: upd s x := by simp only [upd, if_neg e]
      cases i with
      | zero => simp only [hu, List.getElem_cons_zero]; exact .inl rfl
      | succ i =>
        simp only [hu, List.getElem_cons_succ]
        exact goes_upd hp'.2 ht' hi h0 h1 h2 h3 i _ _
theorem step_grown {s s' : Str} {e : Int} (h : Step s s' e) (hs : SOk s) : s.length ≤ s'.length ∧ s'.length ≤ s.length + 1 ∧ (∀ i (h : i < s.length) (h' : i < s'.length), goesOn s[i] s'[i]) ∧
    ((decide (e = 0) == decide (s'.length - s.length + diffN (s.zip s') = 1)) && decide (s'.length - s.length + diffN (s.zip s') ≤ 1)) = true := by
  cases h with
  | same he =>
    have := diff_same s []
    rw [List.append_nil] at this
    exact ⟨Nat.le_refl _, by omega, fun i h h' => .inl rfl, by rw [this]; simp [he]⟩
  | upd ht h0 h1 h2 h3 h4 =>
    rename_i t x
    have hl := upd_len s x
    have hd := diff_upd hs.lt ht h2.symm (fun e => h1 (by rw [← e]; exact h0))
    exact ⟨by omega, by omega, goes_upd hs.lt ht h2.symm h0 h1 h3 h4, by rw [hd, hl]; simp⟩
  | app hf =>
    rename_i t
    refine ⟨by simp, by simp, fun i h h' => .inl ?_, by rw [diff_same]; simp⟩
    rw [List.getElem_append_left h]
end Go.AL.S
set_option maxRecDepth 100000
set_option maxHeartbeats 2000000
namespace Go.AL.S
open Go Go.AL Go.Proofs
def c3_B2 : AC := (AC.block 2
     (AC.seq (AC.seq (AC.reg [
      ⟨(some 40), .bin .eql, [.t 30, .c (.int .u8 2)], none⟩,
      ⟨(some 39), .mov, [.t 40], none⟩])
     (AC.cond (.t 39)
      AC.skip
      (AC.reg [
       ⟨(some 41), .bin .eql, [.t 30, .c (.int .u8 3)], none⟩,
       ⟨(some 39), .mov, [.t 41], none⟩])))
     (AC.cond (.t 39)
      (AC.reg [
       ⟨(some 42), .mov, [.t 3], none⟩,
       ⟨(some 43), .fld 2, [.t 6], none⟩,
       ⟨(some 44), .load false 1, [.t 43], none⟩,
       ⟨(some 45), .fld 4, [.t 6], none⟩,
       ⟨(some 46), .load false 1, [.t 45], none⟩,
       ⟨(some 47), .call 8, [.t 42, .t 44, .t 46], none⟩,
       ⟨(some 7), .mov, [.t 47], none⟩])
      (AC.seq (AC.reg [
       ⟨(some 49), .bin .eql, [.t 30, .c (.int .u8 4)], none⟩,
       ⟨(some 48), .mov, [.t 49], none⟩])
      (AC.cond (.t 48)
       (AC.reg [
        ⟨(some 50), .mov, [.t 3], none⟩,
        ⟨(some 51), .fld 2, [.t 6], none⟩,
        ⟨(some 52), .load false 1, [.t 51], none⟩,
        ⟨(some 53), .call 9, [.t 50, .t 52], none⟩,
        ⟨(some 7), .mov, [.t 53], none⟩])
       (AC.seq (AC.seq (AC.reg [
        ⟨(some 55), .bin .eql, [.t 30, .c (.int .u8 5)], none⟩,
        ⟨(some 54), .mov, [.t 55], none⟩])
       (AC.cond (.t 54)
        AC.skip
        (AC.reg [
         ⟨(some 56), .bin .eql, [.t 30, .c (.int .u8 6)], none⟩,
         ⟨(some 54), .mov, [.t 56], none⟩])))
       (AC.cond (.t 54)
        (AC.reg [
         ⟨(some 57), .mov, [.t 3], none⟩,
         ⟨(some 58), .fld 2, [.t 6], none⟩,
         ⟨(some 59), .load false 1, [.t 58], none⟩,
         ⟨(some 60), .call 10, [.t 57, .t 59], none⟩,
         ⟨(some 7), .mov, [.t 60], none⟩])
        (AC.reg [
         ⟨(some 31), .mov, [.t 3], none⟩,
         ⟨(some 32), .fld 1, [.t 6], none⟩,
         ⟨(some 33), .load false 1, [.t 32], none⟩,
         ⟨(some 34), .fld 2, [.t 6], none⟩,
         ⟨(some 35), .load false 1, [.t 34], none⟩,
         ⟨(some 36), .fld 3, [.t 6], none⟩,
         ⟨(some 37), .load false 1, [.t 36], none⟩,
         ⟨(some 38), .call 11, [.t 31, .t 33, .t 35, .t 37], none⟩,
         ⟨(some 7), .mov, [.t 38], none⟩]))))))))
def c3_B3 : AC := (AC.block 3
     (AC.rangef (.t 65) [66]
      (AC.reg [
       ⟨(some 10), .alloc [.int .u16 0, .int .u8 0, .nilsl, .nilsl, .int .u8 0], [], none⟩,
       ⟨none, .store 5, [.t 10, .t 66], none⟩])
      (AC.block 4
       (AC.reg [
        ⟨(some 67), .load false 1, [.t 9], none⟩,
        ⟨(some 68), .load true 5, [.t 10], none⟩,
        ⟨(some 69), .bslice 5 1 (.agg [.int .u16 0, .int .u8 0, .nilsl, .nilsl, .int .u8 0]) [0], [.t 68], none⟩,
        ⟨(some 70), .append 5 64, [.t 67, .t 69], none⟩,
        ⟨none, .store 1, [.t 9, .t 70], none⟩]))))
def c3_0 : AC := (AC.seq (AC.seq (AC.reg [
    ⟨(some 18), .mov, [.t 5], none⟩,
    ⟨(some 19), .mov, [.t 0], none⟩,
    ⟨(some 20), .len 1 0, [.t 19], none⟩,
    ⟨(some 21), .bin .lss, [.t 18, .t 20], none⟩])
   (AC.cond (.t 21)
    AC.skip
    (AC.exit 0)))
   (AC.seq (AC.block 1
    (AC.seq (AC.reg [
     ⟨(some 24), .mov, [.t 0], none⟩,
     ⟨(some 25), .mov, [.t 5], none⟩,
     ⟨(some 26), .idxp 5, [.t 24, .t 25], none⟩,
     ⟨(some 27), .load true 5, [.t 26], none⟩,
     ⟨(some 6), .alloc [.int .u8 0, .int .u8 0, .int .u16 0, .nilsl, .nilsl], [], none⟩,
     ⟨none, .store 5, [.t 6, .t 27], none⟩])
    (AC.seq (AC.reg [
     ⟨(some 7), .mov, [.c (.int .i64 0)], none⟩])
    (AC.seq (AC.seq (AC.reg [
     ⟨(some 28), .fld 0, [.t 6], none⟩,
     ⟨(some 29), .load false 1, [.t 28], none⟩,
     ⟨(some 30), .bin .rem, [.t 29, .c (.int .u8 7)], none⟩])
    c3_B2)
    (AC.seq (AC.reg [
     ⟨(some 61), .mov, [.t 3], none⟩,
     ⟨(some 62), .call 12, [.t 61], none⟩,
     ⟨(some 8), .mov, [.t 62], none⟩])
    (AC.seq (AC.seq (AC.reg [
     ⟨(some 63), .mov, [.t 8], none⟩,
     ⟨(some 64), .eqn false 3, [.t 63, .c (.nilfn)], none⟩])
    (AC.cond (.t 64)
     (AC.seq (AC.reg [
      ⟨(some 2), .mov, [.c (.bool false)], none⟩])
     AC.ret)
     AC.skip))
    (AC.seq (AC.reg [
     ⟨(some 9), .alloc [.nilsl], [], none⟩])
    (AC.seq (AC.seq (AC.reg [
     ⟨(some 65), .mov, [.t 8], none⟩])
    c3_B3)
    (AC.seq (AC.seq (AC.reg [
     ⟨(some 71), .mov, [.t 4], none⟩,
     ⟨(some 72), .load false 1, [.t 9], none⟩,
     ⟨(some 73), .mov, [.t 7], none⟩,
     ⟨(some 74), .call 13, [.t 71, .t 72, .t 73], none⟩,
     ⟨(some 75), .un .not, [.t 74], none⟩,
     ⟨(some 76), .mov, [.t 75], none⟩,
     ⟨(some 77), .mov, [.t 3], (some (76, false))⟩,
     ⟨(some 78), .load false 1, [.t 9], (some (76, false))⟩,
     ⟨(some 79), .call 14, [.t 77, .t 78], (some (76, false))⟩,
     ⟨(some 80), .un .not, [.t 79], (some (76, false))⟩,
     ⟨(some 81), .pick, [.t 76, .c (.bool true), .t 80], none⟩])
    (AC.cond (.t 81)
     (AC.seq (AC.reg [
      ⟨(some 2), .mov, [.c (.bool false)], none⟩])
     AC.ret)
     AC.skip))
    (AC.reg [
     ⟨(some 82), .load false 1, [.t 9], none⟩,
     ⟨(some 4), .mov, [.t 82], none⟩]))))))))))
   (AC.reg [
    ⟨(some 22), .mov, [.t 5], none⟩,
    ⟨(some 23), .bin .add, [.t 22, .c (.int .i64 1)], none⟩,
    ⟨(some 5), .mov, [.t 23], none⟩])))
/- umpire/umpirelaw25.TxnOnce -/
def c3 : AC := (AC.seq (AC.reg [
  ⟨(some 2), .mov, [.c (.bool false)], none⟩])
 (AC.seq (AC.seq (AC.reg [
  ⟨(some 11), .mov, [.t 0], none⟩,
  ⟨(some 12), .call 5, [.t 11], none⟩,
  ⟨(some 13), .un .not, [.t 12], none⟩])
 (AC.cond (.t 13)
  (AC.seq (AC.reg [
   ⟨(some 14), .call 6, [], none⟩,
   ⟨(some 2), .mov, [.t 14], none⟩])
  AC.ret)
  AC.skip))
 (AC.seq (AC.reg [
  ⟨(some 15), .call 7, [], none⟩,
  ⟨(some 3), .mov, [.t 15], none⟩])
 (AC.seq (AC.seq (AC.reg [
  ⟨(some 16), .mov, [.t 3], none⟩,
  ⟨(some 17), .eqn false 0, [.t 16, .c (.nilptr)], none⟩])
 (AC.cond (.t 17)
  (AC.seq (AC.reg [
   ⟨(some 2), .mov, [.c (.bool false)], none⟩])
  AC.ret)
  AC.skip))
 (AC.seq (AC.reg [
  ⟨(some 4), .mov, [.c (.nilsl)], none⟩])
 (AC.seq (AC.seq (AC.reg [
  ⟨(some 5), .mov, [.c (.int .i64 0)], none⟩])
 (AC.block 0
  (AC.loop c3_0)))
 (AC.seq (AC.reg [
  ⟨(some 83), .call 6, [], none⟩,
  ⟨(some 2), .mov, [.t 83], none⟩])
 AC.ret)))))))
def r3 : AC × List RT × Nat := (c3, [.tmp 2], 84)
theorem ok3e : compF Tryz.prog Tryz.f3 ⟨false, false, []⟩ = some r3 := by kernel_rfl
variable {E : Env}
def nowV (W : AW) (h : V) (l : List Tx) (lo : Nat) : Prop := (h = .nilsl ∧ l = []) ∨ ∃ r, lo ≤ r ∧ r < W.nx ∧ h = .buf true r 5 l.length ∧ l ≠ [] ∧ W.get r = some (.buf true 5 (l.map Tx.V))
def nowS (l : List Tx) : V := if l = [] then .nilsl else .sl 5 false (l.map Tx.V)
theorem nowS_S (l : List Tx) : isS 5 (nowS l) (l.map Tx.V) := by
  unfold nowS
  split
  · rename_i h; subst h; exact .inl ⟨rfl, rfl⟩
  · exact .mk
theorem nowV.frz {W : AW} {h : V} {l : List Tx} {lo : Nat} (hn : nowV W h l lo) : W.frz h = nowS l := by
  rcases hn with ⟨rfl, rfl⟩ | ⟨r, _, _, rfl, hne, hg⟩
  · rfl
  · have he : (l.map Tx.V).isEmpty = false := by cases l <;> simp_all
    simp [AW.frz, hg, nowS, hne]
theorem nowV.to {W W' : AW} {h : V} {l : List Tx} {lo : Nat} (hn : nowV W h l lo) (hx : W.nx ≤ W'.nx) (hg : ∀ r, lo ≤ r → r < W.nx → (∃ xs, W.get r = some (.buf true 5 xs)) → W'.get r = W.get r) : nowV W' h l lo := by
  rcases hn with ⟨rfl, rfl⟩ | ⟨r, h1, h2, h3, h4, h5⟩
  · exact .inl ⟨rfl, rfl⟩
  · exact .inr ⟨r, h1, by omega, h3, h4, by rw [hg r h1 h2 ⟨_, h5⟩]; exact h5⟩
theorem m_rem7 {W : AW} {K : V → AW → Prop} {k : IntKind} {a : Int} : sem E (.bin .rem) [.int k a, .int k 7] W K = K (.int k (a.tmod 7)) W := by
  simp [sem, rsem, tsem, binI]
theorem sw_c (hP : E.P = Tryz.prog) {W : AW} {p ra rw q : Nat} {s : Str} (h : St W p ra rw s) {a : Ac} (ha : a.ok) (hsm : a.small) {A : AFr} {Q : Exit → AFr → AW → Prop}
    (a3 : A 3 = some (.ptr p 0)) (a6 : A 6 = some (.ptr q 0)) (a30 : A 30 = some (.int .u8 (a.what.tmod 7))) (hq : W.get q = some (.row [.int .u8 a.what, .int .u8 a.client, .int .u16 a.id, a.tx, a.rd]))
    (hQ : ∀ A' W', A' 0 = A 0 → A' 3 = A 3 → A' 4 = A 4 → A' 5 = A 5 → A' 7 = some (.int .i64 (actR s a).2) → St W' p ra rw (actR s a).1 → Fr W W' p ra rw → Q .normal A' W') : awp E c3_B2 Q A W := by
  obtain ⟨xs, i1, i2, i3⟩ := ha.rdS
  obtain ⟨z1, z2, z3⟩ := hsm
  have hcm : (actR s a) = commitR s a.id a.rdl → awp E (.reg []) (fun _ _ _ => True) A W := fun _ => trivial
  by_cases w2 : a.what.tmod 7 = 2
  · have e : actR s a = commitR s a.id a.rdl := by simp [actR, w2]
    rw [e] at hQ
    simp (config := { maxSteps := 2000000 }) (disch := omega) only [c3_B2, e_seq, e_reg, cond_if, e_block, e_skip, e_cons, e_nil, e_plain, evs_nil, evs_cons, ev_t, ev_c, e_putK, e_putd, e_put, e_then, e_blk, ↓reduceIte, Nat.reduceEqDiff, List.map_cons, List.map_nil, List.getElem?_cons_zero, List.getElem?_cons_succ, frz_int, frz_ptr, sem_mov, sem_eql, sem_call, sem_fld_ptr, m_load, loadK_f, optK_some, Nat.zero_add, a30, a3, a6, w2, hq, show ((2 : Int) == 2) = true by decide, i1.frz]
    refine (commit_c hP _ h a.id ha.id.1 ha.id.2 ha.rd ha.bel (by omega) fun o ho => ⟨by have := z3 o ho; omega, ha.ns o ho⟩).mono ?_
    rintro _ W' ⟨rfl, g1, g2⟩
    simp (config := { maxSteps := 2000000 }) (disch := omega) only [e_cons, e_nil, e_plain, evs_nil, evs_cons, ev_t, e_putK, e_putd, e_put, ↓reduceIte, sem_mov]
    exact hQ _ _ rfl rfl rfl rfl rfl g1 g2
  by_cases w3 : a.what.tmod 7 = 3
  · have e : actR s a = commitR s a.id a.rdl := by simp [actR, w3]
    rw [e] at hQ
    simp (config := { maxSteps := 2000000 }) (disch := omega) only [c3_B2, e_seq, e_reg, cond_if, e_block, e_cons, e_nil, e_plain, evs_nil, evs_cons, ev_t, ev_c, e_putK, e_putd, e_put, e_then, e_blk, ↓reduceIte, Nat.reduceEqDiff, List.map_cons, List.map_nil, List.getElem?_cons_zero, List.getElem?_cons_succ, Bool.false_eq_true, frz_int, frz_ptr, sem_mov, sem_eql, sem_call, sem_fld_ptr, m_load, loadK_f, optK_some, Nat.zero_add, a30, a3, a6, w3, hq, show ((3 : Int) == 2) = false by decide, show ((3 : Int) == 3) = true by decide, i1.frz]
    refine (commit_c hP _ h a.id ha.id.1 ha.id.2 ha.rd ha.bel (by omega) fun o ho => ⟨by have := z3 o ho; omega, ha.ns o ho⟩).mono ?_
    rintro _ W' ⟨rfl, g1, g2⟩
    simp (config := { maxSteps := 2000000 }) (disch := omega) only [e_cons, e_nil, e_plain, evs_nil, evs_cons, ev_t, e_putK, e_putd, e_put, ↓reduceIte, sem_mov]
    exact hQ _ _ rfl rfl rfl rfl rfl g1 g2
  have b2 : (a.what.tmod 7 == 2) = false := by simp [w2]
  have b3 : (a.what.tmod 7 == 3) = false := by simp [w3]
  by_cases w4 : a.what.tmod 7 = 4
  · have e : actR s a = endR s a.id 2 := by simp [actR, w4]
    rw [e] at hQ
    simp (config := { maxSteps := 2000000 }) (disch := omega) only [c3_B2, e_seq, e_reg, cond_if, e_block, e_cons, e_nil, e_plain, evs_nil, evs_cons, ev_t, ev_c, e_putK, e_putd, e_put, e_then, e_blk, ↓reduceIte, Nat.reduceEqDiff, List.map_cons, List.map_nil, List.getElem?_cons_zero, List.getElem?_cons_succ, Bool.false_eq_true, frz_int, frz_ptr, sem_mov, sem_eql, sem_call, sem_fld_ptr, m_load, loadK_f, optK_some, Nat.zero_add, a30, a3, a6, w4, hq, show ((4 : Int) == 2) = false by decide, show ((4 : Int) == 3) = false by decide, show ((4 : Int) == 4) = true by decide]
    refine (abort_c hP _ h a.id ha.id.1 ha.id.2).mono ?_
    rintro _ W' ⟨rfl, g1, g2⟩
    simp (config := { maxSteps := 2000000 }) (disch := omega) only [e_cons, e_nil, e_plain, evs_nil, evs_cons, ev_t, e_putK, e_putd, e_put, ↓reduceIte, sem_mov]
    exact hQ _ _ rfl rfl rfl rfl rfl g1 g2
  have b4 : (a.what.tmod 7 == 4) = false := by simp [w4]
  by_cases w5 : a.what.tmod 7 = 5
  · have e : actR s a = endR s a.id 3 := by simp [actR, w5]
    rw [e] at hQ
    simp (config := { maxSteps := 2000000 }) (disch := omega) only [c3_B2, e_seq, e_reg, cond_if, e_block, e_skip, e_cons, e_nil, e_plain, evs_nil, evs_cons, ev_t, ev_c, e_putK, e_putd, e_put, e_then, e_blk, ↓reduceIte, Nat.reduceEqDiff, List.map_cons, List.map_nil, List.getElem?_cons_zero, List.getElem?_cons_succ, Bool.false_eq_true, frz_int, frz_ptr, sem_mov, sem_eql, sem_call, sem_fld_ptr, m_load, loadK_f, optK_some, Nat.zero_add, a30, a3, a6, w5, hq, show ((5 : Int) == 2) = false by decide, show ((5 : Int) == 3) = false by decide, show ((5 : Int) == 4) = false by decide, show ((5 : Int) == 5) = true by decide]
    refine (info_c hP _ h a.id ha.id.1 ha.id.2).mono ?_
    rintro _ W' ⟨rfl, g1, g2⟩
    simp (config := { maxSteps := 2000000 }) (disch := omega) only [e_cons, e_nil, e_plain, evs_nil, evs_cons, ev_t, e_putK, e_putd, e_put, ↓reduceIte, sem_mov]
    exact hQ _ _ rfl rfl rfl rfl rfl g1 g2
  have b5 : (a.what.tmod 7 == 5) = false := by simp [w5]
  by_cases w6 : a.what.tmod 7 = 6
  · have e : actR s a = endR s a.id 3 := by simp [actR, w6]
    rw [e] at hQ
    simp (config := { maxSteps := 2000000 }) (disch := omega) only [c3_B2, e_seq, e_reg, cond_if, e_block, e_cons, e_nil, e_plain, evs_nil, evs_cons, ev_t, ev_c, e_putK, e_putd, e_put, e_then, e_blk, ↓reduceIte, Nat.reduceEqDiff, List.map_cons, List.map_nil, List.getElem?_cons_zero, List.getElem?_cons_succ, Bool.false_eq_true, frz_int, frz_ptr, sem_mov, sem_eql, sem_call, sem_fld_ptr, m_load, loadK_f, optK_some, Nat.zero_add, a30, a3, a6, w6, hq, show ((6 : Int) == 2) = false by decide, show ((6 : Int) == 3) = false by decide, show ((6 : Int) == 4) = false by decide, show ((6 : Int) == 5) = false by decide, show ((6 : Int) == 6) = true by decide]
    refine (info_c hP _ h a.id ha.id.1 ha.id.2).mono ?_
    rintro _ W' ⟨rfl, g1, g2⟩
    simp (config := { maxSteps := 2000000 }) (disch := omega) only [e_cons, e_nil, e_plain, evs_nil, evs_cons, ev_t, e_putK, e_putd, e_put, ↓reduceIte, sem_mov]
    exact hQ _ _ rfl rfl rfl rfl rfl g1 g2
  have b6 : (a.what.tmod 7 == 6) = false := by simp [w6]
  have e : actR s a = beginR s a.client a.id a.txl := by simp [actR, w2, w3, w4, w5, w6]
  rw [e] at hQ
  simp (config := { maxSteps := 2000000 }) (disch := omega) only [c3_B2, e_seq, e_reg, cond_if, e_block, e_cons, e_nil, e_plain, evs_nil, evs_cons, ev_t, ev_c, e_putK, e_putd, e_put, e_then, e_blk, ↓reduceIte, Nat.reduceEqDiff, List.map_cons, List.map_nil, List.getElem?_cons_zero, List.getElem?_cons_succ, Bool.false_eq_true, frz_int, frz_ptr, sem_mov, sem_eql, sem_call, sem_fld_ptr, m_load, loadK_f, optK_some, Nat.zero_add, a30, a3, a6, b2, b3, b4, b5, b6, hq, ha.tx.frz]
  refine (begin_c hP _ h a.client a.id ha.id.1 ha.id.2 ha.cl.1 ha.cl.2 ha.tx ha.ms (by omega)).mono ?_
  rintro _ W' ⟨rfl, g1, g2⟩
  simp (config := { maxSteps := 2000000 }) (disch := omega) only [e_cons, e_nil, e_plain, evs_nil, evs_cons, ev_t, e_putK, e_putd, e_put, ↓reduceIte, sem_mov]
  exact hQ _ _ rfl rfl rfl rfl rfl g1 g2
end Go.AL.S
set_option maxRecDepth 100000
set_option maxHeartbeats 2000000
namespace Go.AL.S
open Go Go.AL Go.Proofs
variable {E : Env}
theorem m_bs5 {W : AW} {K : V → AW → Prop} {t : Tx} : sem E (.bslice 5 1 (.agg [.int .u16 0, .int .u8 0, .nilsl, .nilsl, .int .u8 0]) [0]) [.agg [.int .u16 t.id, .int .u8 t.client, msV t.ms, lsV t.ls, .int .u8 t.st]] W K = K (.sl 5 true [t.V]) W := by
  simp [sem, rsem, tsem, fillE, V.cells, Tx.V]
theorem app5_nil {W : AW} {K : V → AW → Prop} {x : V} : sem E (.append 5 64) [.nilsl, .sl 5 true [x]] W K = K (.buf true W.nx 5 1) (W.alloc (.buf true 5 [x])) := by
  simp [sem, elemsV]
theorem app5_buf {W : AW} {K : V → AW → Prop} {r n : Nat} {xs : List V} {t : Tx} (hg : W.get r = some (.buf true 5 xs)) (hn : n = xs.length) (hl : n < 2 ^ 20) : sem E (.append 5 64) [.buf true r 5 n, .sl 5 true [t.V]] W K = K (.buf true r 5 (n + 1)) (W.put r (.buf true 5 (xs ++ [t.V]))) := by
  subst hn
  have h1 : (t.V.cells.all V.one) = true := by simp only [Tx.V, cells_agg, List.all_cons, List.all_nil, one_int, msV_one, lsV_one, Bool.and_true]
  simp [sem, elemsV, hg, h1]
  omega
theorem cells_buf {b : Bool} {r s n : Nat} : (V.buf b r s n).cells = [.buf b r s n] := id rfl
theorem one_buf {b : Bool} {r s n : Nat} : (V.buf b r s n).one = true := id rfl
theorem now_c (hP : E.P = Tryz.prog) {W : AW} (hC : Cl W) {p ra rw q c9 lo : Nat} {s : Str} (h : St W p ra rw s) {A : AFr} {Q : Exit → AFr → AW → Prop}
    (a65 : A 65 = some (.fn (.func 33) [] [.ptr q 0])) (a9 : A 9 = some (.ptr c9 0)) (hq : W.get q = some (.row [.ptr p 0])) (h9 : W.get c9 = some (.row [.nilsl])) (hqn : q < W.nx) (h9n : c9 < W.nx) (hlo : lo ≤ W.nx)
    (hQ : ∀ W' h', nowV W' h' s lo → W'.get c9 = some (.row [h']) → Cl W' → W.nx < W'.nx → (∀ x, x < W.nx → x ≠ c9 → W'.get x = W.get x) → Q .normal A W') : awp E c3_B3 Q A W := by
  have hp9 : p ≠ c9 := by rintro rfl; have := h.hp.symm.trans h9; simp at this
  have ha9 : ra ≠ c9 := by rintro rfl; have := h.ha.symm.trans h9; simp at this
  have hq9 : q ≠ c9 := by rintro rfl; have := hq.symm.trans h9; simp at this
  have hsl := st_len h.ok
  have hlp := h.lp
  have hla := h.la
  simp only [c3_B3, e_block]
  refine range_all hP (q := q) (s := s) (by simp only [ev_t, a65]) hq hqn hC h (fun k W1 => Cl W1 ∧ (∀ x, x < W.nx → x ≠ c9 → W1.get x = W.get x) ∧ ((k = 0 ∧ W1.get c9 = some (.row [.nilsl])) ∨ ∃ r, W.nx < r ∧ r < W1.nx ∧ 0 < k ∧ W1.get c9 = some (.row [.buf true r 5 k]) ∧ W1.get r = some (.buf true 5 ((s.take k).map Tx.V)))) ?_ ?_ ?_ ?_
  · intro W1 hE
    exact ⟨hE.cl, fun x hx _ => hE.get x hx, .inl ⟨rfl, by rw [hE.get _ h9n]; exact h9⟩⟩
  · rintro k W1 ⟨j0, j1, j2⟩
    exact ⟨j0, j1 _ hqn hq9, j1 _ hlp hp9, j1 _ hla ha9⟩
  · rintro k hk W1 ⟨j0, j1, j2⟩ hl hn
    have htk : (s.take (k + 1)).map Tx.V = (s.take k).map Tx.V ++ [s[k].V] := by
      rw [List.take_add_one, List.getElem?_eq_getElem hk]; simp only [Option.toList_some, List.map_append, List.map_cons, List.map_nil]
    have hlk : ((s.take k).map Tx.V).length = k := by simp; omega
    refine awp_startC j0 ?_
    have hne9 : c9 ≠ W.nx := by omega
    rcases j2 with ⟨rfl, j2⟩ | ⟨r, r1, r2, r3, j2, j3⟩
    · simp (config := { maxSteps := 2000000 }) (disch := omega) only [e_reg, e_block, e_cons, e_nil, e_plain, evs_nil, evs_cons, ev_t, e_putK, e_putd, e_putd0, e_put, e_then, e_blk, ↓reduceIte, Nat.reduceEqDiff, reduceCtorEq, List.getElem?_cons_zero, sem_alloc, X_alloc, X_nx, X_get, X_put1, X_old, X_putold, m_load, loadK_f, loadK_t, optK_some, m_store, storeK_row, cells_agg, one_int, List.cons_append, List.nil_append, List.append_nil, List.length_cons, List.length_nil, Nat.zero_add, Nat.reduceAdd, Nat.reduceLeDiff, Nat.reduceLT, List.set_cons_zero, List.drop_succ_cons, List.drop_zero, List.drop_nil, List.take_succ_cons, List.take_zero, List.take_nil, List.all_cons, List.all_nil, Bool.and_self, undef_t, msV_one, lsV_one, Tx.V, put_at, put_ne, hl, a9, j2, m_bs5, app5_nil, cells_buf, one_buf]
      refine ⟨trivial, trivial, trivial, (by first | omega | (simp only [rf]; omega) | (simp only [rf, X, List.length_cons, List.length_nil, Nat.zero_add]; omega) | (simp [rf, X]; omega)), Cl.X, fun x hx hx9 => ?_, .inr ⟨rf W1.nx 1, by simp only [rf]; omega, by simp [rf], (by first | trivial | rfl | omega), ?_, ?_⟩⟩
      · (try simp (config := { maxSteps := 2000000 }) (disch := omega) only [X_old, put_ne]); exact j1 x hx hx9
      · (try simp (config := { maxSteps := 2000000 }) (disch := omega) only [X_old])
      · rw [htk]; (try rw [X_get]); rfl
    · have hrc : r ≠ c9 := by omega
      have hg : ∀ (o : List AObj) o', (X (W1.put W.nx o') W1.nx o).get r = some (.buf true 5 ((s.take k).map Tx.V)) := fun o o' => by
        rw [X_old (by omega), put_ne (by omega)]; exact j3
      have happ : ∀ (o : List AObj) o' K, sem E (.append 5 64) [.buf true r 5 k, .sl 5 true [.agg [.int .u16 s[k].id, .int .u8 s[k].client, msV s[k].ms, lsV s[k].ls, .int .u8 s[k].st]]] (X (W1.put W.nx o') W1.nx o) K = K (.buf true r 5 (k + 1)) (X ((W1.put W.nx o').put r (.buf true 5 ((s.take (k + 1)).map Tx.V))) W1.nx o) := fun o o' K => by
        rw [show V.agg [.int .u16 s[k].id, .int .u8 s[k].client, msV s[k].ms, lsV s[k].ls, .int .u8 s[k].st] = s[k].V from rfl, app5_buf (hg o o') hlk.symm (by omega), ← htk, X_putold (by omega)]
      simp (config := { maxSteps := 2000000 }) (disch := omega) only [e_reg, e_block, e_cons, e_nil, e_plain, evs_nil, evs_cons, ev_t, e_putK, e_putd, e_putd0, e_put, e_then, e_blk, ↓reduceIte, Nat.reduceEqDiff, reduceCtorEq, List.getElem?_cons_zero, sem_alloc, X_alloc, X_nx, X_get, X_put1, X_old, X_putold, m_load, loadK_f, loadK_t, optK_some, m_store, storeK_row, cells_agg, one_int, List.nil_append, List.append_nil, List.length_cons, List.length_nil, Nat.zero_add, Nat.reduceAdd, Nat.reduceLeDiff, Nat.reduceLT, List.set_cons_zero, List.drop_succ_cons, List.drop_zero, List.drop_nil, List.take_succ_cons, List.take_zero, List.take_nil, List.all_cons, List.all_nil, Bool.and_self, undef_t, msV_one, lsV_one, Tx.V, put_at, put_ne, hl, a9, j2, m_bs5, happ, cells_buf, one_buf]
      refine ⟨trivial, trivial, trivial, (by first | omega | (simp only [rf]; omega) | (simp only [rf, X, List.length_cons, List.length_nil, Nat.zero_add]; omega) | (simp [rf, X]; omega)), Cl.X, fun x hx hx9 => ?_, .inr ⟨r, r1, (by first | omega | (simp only [rf]; omega) | (simp only [rf, X, List.length_cons, List.length_nil, Nat.zero_add]; omega) | (simp [rf, X]; omega)), by omega, ?_, ?_⟩⟩
      · (try simp (config := { maxSteps := 2000000 }) (disch := omega) only [X_old, put_ne]); exact j1 x hx hx9
      · (try simp (config := { maxSteps := 2000000 }) (disch := omega) only [X_old])
      · (try simp (config := { maxSteps := 2000000 }) (disch := omega) only [X_old, put_ne, put_at])
  · rintro W1 ⟨j0, j1, j2⟩ hl hn
    have hne9 : c9 ≠ W.nx := by omega
    rw [e_blk]
    rcases j2 with ⟨e0, j2⟩ | ⟨r, r1, r2, r3, j2, j3⟩
    · refine hQ _ .nilsl (.inl ⟨rfl, List.length_eq_zero_iff.1 e0⟩) ?_ (j0.put (by omega)) (by rw [put_nx]; omega) fun x hx hx9 => ?_
      · rw [put_ne hne9]; exact j2
      · rw [put_ne (by omega)]; exact j1 x hx hx9
    · rw [List.take_length] at j3
      refine hQ _ (.buf true r 5 s.length) (.inr ⟨r, by omega, by rw [put_nx]; exact r2, rfl, fun e => by subst e; simp at r3, by rw [put_ne (by omega)]; exact j3⟩) ?_ (j0.put (by omega)) (by rw [put_nx]; omega) fun x hx hx9 => ?_
      · rw [put_ne hne9]; exact j2
      · rw [put_ne (by omega)]; exact j1 x hx hx9
end Go.AL.S
set_option maxRecDepth 100000
set_option maxHeartbeats 4000000
namespace Go.AL.S
open Go Go.AL Go.Proofs
variable {E : Env}
theorem nowV.keep {W1 W2 : AW} {h : V} {l : List Tx} {lo p ra rw : Nat} {s : Str} (hn : nowV W1 h l lo) (hs : St W1 p ra rw s) (hx : W1.nx ≤ W2.nx) (hg : ∀ x, x < W1.nx → x ≠ p → x ≠ ra → x ≠ rw → W2.get x = W1.get x) : nowV W2 h l lo := by
  refine hn.to hx fun r h1 h2 ⟨xs, h3⟩ => hg r h2 ?_ ?_ ?_
  · rintro rfl; rw [hs.hp] at h3; cases h3
  · rintro rfl; rw [hs.ha] at h3; cases h3
  · rintro rfl; obtain ⟨ws, cw, hw, _⟩ := hs.hw; rw [hw] at h3; cases h3
theorem txnOnce_c (hP : E.P = Tryz.prog) (W : AW) {v : V} {l : List Ac} (hv : isS 5 v (l.map Ac.V)) (ha : ∀ a ∈ l, a.ok) (hl : l.length < 2 ^ 48) :
    ACalls E 3 [v] W fun Y W' => Y = .bool true := by
  refine ACalls.of hP Tryz.func3 ok3e (by simp) fun _ hok => ?_
  simp only [c3, e_seq, e_reg, e_cons, e_nil, e_plain, evs_nil, evs_cons, ev_t, ev_c, argsA_ap, e_putK, e_putd, e_put, e_then, ↓reduceIte, reduceCtorEq, List.map_cons, List.map_nil, List.getElem?_cons_zero, sem_mov, sem_call, hv.frz]
  refine (few_c hP W hv ha hl).mono ?_
  rintro _ W' ⟨rfl, b, rfl, hb⟩
  cases b with
  | false =>
    simp only [e_seq, e_reg, cond_if, e_cons, e_nil, e_plain, evs_nil, evs_cons, ev_t, e_putK, e_putd, e_put, e_then, ↓reduceIte, List.map_nil, sem_not, sem_call, Bool.not_false]
    refine pc (awake_c hP _) ?_
    simp only [e_ret, e_cons, e_nil, e_plain, evs_nil, evs_cons, ev_t, e_putK, e_putd, e_put, e_then_ret, retQ_ret, e_res1, ↓reduceIte, Option.map_some, frz_bool, sem_mov]
    exact ⟨_, rfl, _, _, .weak weak_id, Nat.le_refl _, rfl⟩
  | true =>
    obtain ⟨hl80, hsm⟩ := hb rfl
    simp only [e_seq, e_reg, cond_if, e_skip, e_cons, e_nil, e_plain, evs_nil, evs_cons, ev_t, e_putK, e_putd, e_put, e_then, ↓reduceIte, List.map_nil, Bool.false_eq_true, sem_not, sem_call, Bool.not_true]
    refine (new_n hP W').mono ?_
    rintro _ W0 ⟨p, ra, rw, rfl, h0⟩
    simp only [e_seq, e_reg, cond_if, e_block, e_ret, e_skip, e_cons, e_nil, e_plain, evs_nil, evs_cons, ev_t, ev_c, e_putK, e_putd, e_put, e_then, e_then_ret, retQ_ret, e_res1, ↓reduceIte, Option.map_some, Bool.false_eq_true, frz_bool, sem_mov, optK_some, m_eqn, eqNil_pn]
    rw [e_loop]
    refine ALoop.go (B := awp E _) (fun h => awp_mono _ h) (fun (σ : Nat × Str) A1 W1 => A1 0 = some v ∧ A1 3 = some (.ptr p 0) ∧ A1 5 = some (.int .i64 σ.1) ∧ σ.1 ≤ l.length ∧ Nw W' W1 p ra rw σ.2 ∧ SInv σ.2 ∧ ∃ h, A1 4 = some h ∧ nowV W1 h σ.2 W'.nx) (fun σ => l.length - σ.1) (0, [])
      ⟨rfl, rfl, rfl, Nat.zero_le _, h0, (fun t ht => by simp at ht), .nilsl, rfl, .inl ⟨rfl, rfl⟩⟩ ?_
    rintro ⟨k, s⟩ A1 W1 ⟨g0, g3, g5, gk, gN, gI, h, g4, gh⟩ hn1
    simp only at g5 gk gN gI gh
    by_cases hk1 : k < l.length
    · have hat : (l.map Ac.V)[k]? = some l[k].V := by simp [hk1]
      have hak := ha l[k] (List.getElem_mem hk1)
      have hks := hsm l[k] (List.getElem_mem hk1)
      obtain ⟨xs, i1, i2, i3⟩ := hak.rdS
      have hC1 := gN.ex.cl
      refine awp_startC hC1 ?_
      simp (config := { maxSteps := 2000000 }) (disch := omega) only [c3_0, e_seq, e_reg, cond_if, e_block, e_skip, e_cons, e_nil, e_plain, evs_nil, evs_cons, ev_t, ev_c, e_putK, e_putd, e_putd0, e_put, e_then, ↓reduceIte, Nat.reduceEqDiff, reduceCtorEq, List.getElem?_cons_zero, sem_mov, sem_lss, sem_alloc, sem_fld_ptr, X_alloc, X_nx, X_get, X_put1, m_load, loadK_f, optK_some, m_loadct, m_store, storeK_row, cells_agg, one_int, List.nil_append, List.append_nil, List.length_cons, List.length_nil, Nat.zero_add, Nat.add_zero, Nat.reduceAdd, Nat.reduceLeDiff, Nat.reduceLT, List.set_cons_zero, List.drop_succ_cons, List.drop_nil, List.take_succ_cons, List.take_zero, List.take_nil, List.all_cons, List.all_nil, Bool.and_self, undef_t, g0, g5, hv.len, List.length_map, clt, hk1, decide_true, hv.idx hat, Ac.V, hak.tx.one, i1.one, m_rem7]
      have hst1 := gN.st
      refine sw_c hP (hst1.ex .x0) hak hks g3 rfl rfl (by rw [X_get]; rfl) ?_
      intro A2 W2 q0 q3 q4 q5 q7 hst2 hfr2
      have hN2 := (gN.exx (W2 := X W1 W1.nx [.row [.int .u8 l[k].what, .int .u8 l[k].client, .int .u16 l[k].id, l[k].tx, l[k].rd]]) .x0).fr hst2 hfr2
      have hC2 := hN2.ex.cl
      obtain ⟨s', hs'⟩ : ∃ s', s' = (actR s l[k]).1 := ⟨_, rfl⟩
      obtain ⟨e, he⟩ : ∃ e, e = (actR s l[k]).2 := ⟨_, rfl⟩
      have hstep := act_step s l[k]
      rw [← hs'] at hst2 hN2 hstep
      rw [← he] at hstep q7
      have r0 : A2 0 = some v := q0.trans g0
      have r3 : A2 3 = some (.ptr p 0) := q3.trans g3
      have r4 : A2 4 = some h := q4.trans g4
      have r5 : A2 5 = some (.int .i64 k) := q5.trans g5
      have hn12 : W1.nx ≤ W2.nx := by rw [hfr2.nx]; simp [X]
      have gh2 : nowV W2 h s W'.nx := gh.keep hst1 hn12 fun x hx a b c => by rw [hfr2.get x a b c, X_old hx]
      rw [hC2.start]
      simp (config := { maxSteps := 2000000 }) (disch := omega) only [e_seq, e_reg, e_cons, e_plain, evs_nil, evs_cons, ev_t, e_putK, e_putd, e_put, e_then, ↓reduceIte, List.map_cons, List.map_nil, frz_ptr, sem_mov, sem_call, r3]
      refine (all_c hP _ p).mono ?_
      rintro _ W3 ⟨rfl, rfl⟩
      simp (config := { maxSteps := 2000000 }) (disch := omega) only [e_seq, e_reg, cond_if, e_ret, e_skip, e_cons, e_nil, e_plain, evs_nil, evs_cons, ev_t, ev_c, e_putK, e_putd, e_put, e_then, e_then_ret, e_blk_ret, retQ_ret, e_res1, ↓reduceIte, Nat.reduceEqDiff, Option.map_some, Bool.false_eq_true, frz_bool, sem_mov, sem_alloc, X_alloc, X_nx, optK_some, m_eqn, eqNil_fn, List.cons_append, List.nil_append, List.length_cons, List.length_nil, Nat.zero_add]
      have hlp2 := hst2.lp
      have hla2 := hst2.la
      have hlw2 := hst2.lw
      have hnw2 := hN2.ex.nx
      refine now_c hP (W := X W2 W2.nx [.row [.ptr p 0], .row [.nilsl]]) (q := rf W2.nx 0) (c9 := rf W2.nx 1) (lo := W'.nx) Cl.X (hst2.ex .x0) rfl rfl (by rw [X_get]; rfl) (by rw [X_get]; rfl) (by simp [X, rf]) (by simp [X, rf]) (by simp only [X]; omega) ?_
      intro W4 h' gh' h9 hC4 hn4 hfr4
      have hn24 : W2.nx < W4.nx := by simp only [X] at hn4; omega
      have hE24 : Ex W2 W4 := ⟨hC4, by omega, fun x hx => by rw [hfr4 x (by simp only [X]; omega) (by simp only [rf]; omega), X_old hx]⟩
      have hN4 := hN2.exx hE24
      have gh4 : nowV W4 h s W'.nx := gh2.to (by omega) fun r _ h2 _ => hE24.get r h2
      have hstp := step_grown hstep gN.st.ok
      obtain ⟨t1, t2, t3, t4⟩ := hstp
      have hl20 := st_len gN.st.ok
      have hl21 := st_len hN4.st.ok
      have gI' := step_inv hstep gN.st.ok hN4.st.ok gI
      have f1 := gh4.frz
      have f2 := gh'.frz
      simp (config := { maxSteps := 2000000 }) (disch := omega) only [e_seq, e_reg, e_cons, e_plain, evs_nil, evs_cons, ev_t, e_putK, e_putd, e_put, e_then, ↓reduceIte, Nat.reduceEqDiff, List.map_cons, List.map_nil, List.getElem?_cons_zero, frz_int, sem_mov, sem_call, m_load, loadK_f, optK_some, r4, q7, h9, f1, f2]
      refine pc (grown_c hP W4 (nowS_S s) (nowS_S s') (fun t ht => gN.st.ok.ok t ht) (fun t ht => hN4.st.ok.ok t ht) (by omega) t1 t2 hN4.st.ok.lt t3 e _ rfl) ?_
      rw [t4]
      simp (config := { maxSteps := 2000000 }) (disch := omega) only [e_cons, e_plain, guard_if, evs_nil, evs_cons, ev_t, e_putK, e_putd, e_put, ↓reduceIte, Nat.reduceEqDiff, List.map_cons, List.map_nil, List.getElem?_cons_zero, frz_ptr, sem_mov, sem_not, sem_call, m_load, loadK_f, optK_some, Bool.not_true, r3, h9, f2]
      refine pc (once_c hP W4 hN4.st (nowS_S s') (fun t ht => hN4.st.ok.ok t ht) (by omega) gI') ?_
      simp (config := { maxSteps := 2000000 }) (disch := omega) only [e_reg, cond_if, e_skip, e_cons, e_nil, e_plain, guard_if, evs_nil, evs_cons, ev_t, ev_c, e_putK, e_putd, e_put, e_then, e_blk, ↓reduceIte, Nat.reduceEqDiff, reduceCtorEq, List.getElem?_cons_zero, Bool.false_eq_true, sem_mov, sem_pick, sem_add, sem_not, m_load, loadK_f, optK_some, Bool.not_true, r0, r3, r5, h9, wadd1]
      have hn1' := hn1
      refine ⟨(k + 1, s'), ⟨(by first | trivial | rfl | omega), (by first | trivial | rfl | omega), (by first | trivial | rfl | omega), ?_, hN4, gI', h', rfl, gh'⟩, ?_, ?_⟩
      · show k + 1 ≤ l.length; omega
      · show l.length - (k + 1) < l.length - k; omega
      · omega
    · simp (config := { maxSteps := 2000000 }) (disch := omega) only [c3_0, e_seq, e_reg, cond_if, e_exit, e_cons, e_nil, e_plain, evs_nil, evs_cons, ev_t, e_putK, e_putd, e_put, e_then, e_then_exit, e_blk_exit, ↓reduceIte, Nat.reduceEqDiff, reduceCtorEq, List.map_nil, Bool.false_eq_true, sem_mov, sem_lss, sem_call, g0, g5, hv.len, List.length_map, clt, hk1, decide_false]
      refine pc (awake_c hP _) ?_
      simp only [e_ret, e_cons, e_nil, e_plain, evs_nil, evs_cons, ev_t, e_putK, e_putd, e_put, retQ_ret, e_res1, ↓reduceIte, Option.map_some, frz_bool, sem_mov]
      exact ⟨_, rfl, _, _, .weak weak_id, gN.ex.nx, rfl⟩
end Go.AL.S
