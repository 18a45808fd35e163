/- What the program's functions do, part 3. Conditions: none. -/
import Derived.Test.YtpclhmihehcniaaGreatDoorBb
open Nat renaming reduceEqDiff → nE, reduceLeDiff → nL, reduceAdd → nA, reduceLT → nT, le_refl → lr
open List renaming getElem?_eq_getElem → gEg, length_map → lmp, getElem_mem → gmm, length_append → lap, length_cons → lcs, mem_singleton → msg, append_nil → apn, mem_append → map', take_length → tkl, map_cons → mcs, map_append → mpp, mem_map → mmp, any_eq_true → aet, length_replicate → lrp, take_add_one → tao, length_take → ltk, mem_filter → mfl
set_option maxRecDepth 100000
namespace Go.AL.S
open Go Go.AL Go.Proofs
theorem mem_edgeP {f t k : Int} {x : Ek} : x ∈ edgeP f t k ↔ f ≠ t ∧ x = (f, t, k) := by
 unfold edgeP
 split
 ·rename_i h; simp [h]
 ·rename_i h; simp [h]
theorem mem_lastP {s : Str} {b : Int} {r : Rd} {x : Ek} : x ∈ lastP s b r ↔ ∃ v, (nums r.2).getLast? = some v ∧ (wrR s r.1 v).2 = true ∧ (wrR s r.1 v).1 ≠ b ∧ x = ((wrR s r.1 v).1, b, 1) := by
 unfold lastP
 cases h : (nums r.2).getLast? with
 | none => simp
 | some v =>
  simp only [Option.some.injEq]
  constructor
  ·intro h2
   split at h2
   ·rename_i h3
    obtain ⟨h4, h5⟩ := mem_edgeP.1 h2
    exact ⟨v, rfl, h3, h4, h5⟩
   ·simp at h2
  ·rintro ⟨_, rfl, h3, h4, h5⟩
   rw [if_pos h3]; exact mem_edgeP.2 ⟨h4, h5⟩
theorem mem_nextP {s : Str} {o : Ods} {b : Int} {r : Rd} {x : Ek} : x ∈ nextP s o b r ↔ ∃ v, (keyO o r.1)[(nums r.2).length]? = some v ∧ (wrR s r.1 v).2 = true ∧ b ≠ (wrR s r.1 v).1 ∧ x = (b, (wrR s r.1 v).1, 2) := by
 unfold nextP
 cases h : (keyO o r.1)[(nums r.2).length]? with
 | none => simp
 | some v =>
  simp only [Option.some.injEq]
  constructor
  ·intro h2
   split at h2
   ·rename_i h3
    obtain ⟨h4, h5⟩ := mem_edgeP.1 h2
    exact ⟨v, rfl, h3, h4, h5⟩
   ·simp at h2
  ·rintro ⟨_, rfl, h3, h4, h5⟩
   rw [if_pos h3]; exact mem_edgeP.2 ⟨h4, h5⟩
end Go.AL.S
namespace Go.AL.SE
open Go Go.AL Go.AL.S Go.Proofs Go.Sort
structure Ed where
 fr : Int
 to : Int
 kd : Int
 deriving DecidableEq, Inhabited
def Ed.V (e : Ed) : V := .agg [.int .u16 e.fr, .int .u16 e.to, .int .u8 e.kd]
def sgn (a b : Int) : Int := if a < b then -1 else if a > b then 1 else 0
def cmpE (a b : Ed) : Int := if sgn a.fr b.fr ≠ 0 then sgn a.fr b.fr else if sgn a.to b.to ≠ 0 then sgn a.to b.to else sgn a.kd b.kd
instance : LT Ed := ⟨fun a b => cmpE a b < 0⟩
instance (a b : Ed) : Decidable (a < b) := inferInstanceAs (Decidable (cmpE a b < 0))
def ltE (a b : Ed) : Bool := decide (a < b)
theorem cmp_lt {a b : Ed} : decide (cmpE a b < 0) = decide (a < b) := id rfl
theorem sgn_neg {a b : Int} : sgn a b < 0 ↔ a < b := by unfold sgn; split <;> (try split) <;> omega
theorem sgn_zero {a b : Int} : sgn a b = 0 ↔ a = b := by unfold sgn; split <;> (try split) <;> omega
theorem lt_iff {a b : Ed} : a < b ↔ a.fr < b.fr ∨ (a.fr = b.fr ∧ (a.to < b.to ∨ (a.to = b.to ∧ a.kd < b.kd))) := by
 show cmpE a b < 0 ↔ _
 unfold cmpE
 by_cases h1 : a.fr = b.fr
 ·have e1 : sgn a.fr b.fr = 0 := sgn_zero.2 h1
  simp only [e1, ne_eq, not_true, if_false]
  by_cases h2 : a.to = b.to
  ·have e2 : sgn a.to b.to = 0 := sgn_zero.2 h2
   simp only [e2, not_true, if_false, sgn_neg]
   omega
  ·have e2 : ¬ sgn a.to b.to = 0 := fun h => h2 (sgn_zero.1 h)
   simp only [e2, not_false_iff, if_true, sgn_neg]
   omega
 ·have e1 : ¬ sgn a.fr b.fr = 0 := fun h => h1 (sgn_zero.1 h)
  simp only [e1, ne_eq, not_false_iff, if_true, sgn_neg]
  omega
theorem ed_ext {a b : Ed} (h1 : a.fr = b.fr) (h2 : a.to = b.to) (h3 : a.kd = b.kd) : a = b := by
 cases a; cases b; simp at h1 h2 h3; simp [h1, h2, h3]
theorem swo_ltE : SWO ltE where
 irrefl x := by simp only [ltE, decide_eq_false_iff_not, lt_iff]; omega
 trans x y z h1 h2 := by simp only [ltE, decide_eq_true_eq, lt_iff] at *; omega
 ntrans x y z h1 h2 := by simp only [ltE, decide_eq_false_iff_not, lt_iff] at *; omega
theorem ltE_anti {a b : Ed} (h1 : ltE a b = false) (h2 : ltE b a = false) : a = b := by
 simp only [ltE, decide_eq_false_iff_not, lt_iff] at *
 exact ed_ext (by omega) (by omega) (by omega)
def cE (e : Ed) : List V := [.int .u16 e.fr, .int .u16 e.to, .int .u8 e.kd]
def cellsL (l : List Ed) : List V := l.flatMap cE
theorem cellsL_len : ∀ l : List Ed, (cellsL l).length = l.length * 3
 | [] => rfl
 | e :: l => by
  have := cellsL_len l
  simp only [cellsL, List.flatMap_cons, lap, cE, lcs, List.length_nil] at this ⊢
  omega
theorem cellsL_at : ∀ {l : List Ed} {i : Nat} (h : i < l.length), ((cellsL l).drop (i * 3)).take 3 = cE l[i]
 | e :: l, 0, _ => by simp [cellsL, cE]
 | e :: l, i + 1, h => by
  have := cellsL_at (l := l) (i := i) (by simpa using h)
  have h3 : (i + 1) * 3 = 3 + i * 3 := by omega
  rw [h3, ← List.drop_drop]
  simpa [cellsL, cE] using this
theorem cellsL_set : ∀ {l : List Ed} {i : Nat} {v : Ed}, i < l.length → (cellsL l).take (i * 3) ++ cE v ++ (cellsL l).drop (i * 3 + 3) = cellsL (l.set i v)
 | e :: l, 0, v, _ => by simp [cellsL, cE]
 | e :: l, i + 1, v, h => by
  have := cellsL_set (l := l) (i := i) (v := v) (by simpa using h)
  have h3 : (i + 1) * 3 = 3 + i * 3 := by omega
  rw [List.set_cons_succ]
  show _ = cE e ++ cellsL (l.set i v)
  rw [← this, h3]
  have h4 : cellsL (e :: l) = cE e ++ cellsL l := rfl
  have h5 : (cE e).length = 3 := rfl
  rw [h4, List.take_append, List.drop_append, h5, Nat.add_sub_cancel_left, show 3 + i * 3 + 3 - 3 = i * 3 + 3 by omega, List.take_of_length_le (by rw [h5]; omega), List.drop_of_length_le (by rw [h5]; omega)]
  simp
def cellsE (d : Array Ed) : List V := cellsL d.toList
theorem cellsE_len (d : Array Ed) : (cellsE d).length = d.size * 3 := by simp [cellsE, cellsL_len]
theorem part_cellsE {d : Array Ed} {i : Nat} (h : i < d.size) : partV (cellsE d) (i * 3) 3 true = some d[i]!.V := by
 have h1 : i < d.toList.length := by simpa using h
 rw [partV_t, if_pos (by rw [cellsE_len]; omega), cellsE, cellsL_at h1]
 simp [Ed.V, cE, h]
def pv (W : AW) (r : Nat) (d : Array Ed) : AW := W.put r (.vec 3 (cellsE d))
theorem pv_get {W : AW} {r : Nat} {d : Array Ed} : (pv W r d).get r = some (.vec 3 (cellsE d)) := by simp [pv, AW.put]
theorem pv_nx {W : AW} {r : Nat} {d : Array Ed} : (pv W r d).nx = W.nx := id rfl
theorem pv_pv {W : AW} {r : Nat} {d d' : Array Ed} : pv (pv W r d) r d' = pv W r d' := by
 simp only [pv, AW.put, AW.mk.injEq, and_true]
 funext x
 by_cases h : x = r <;> simp [h]
theorem pv_self {W : AW} {r : Nat} {d : Array Ed} (h : W.get r = some (.vec 3 (cellsE d))) : pv W r d = W := put_same h
section
variable {E : Env}
theorem ix {W : AW} {K : V → AW → Prop} {r n i : Nat} (h : i < n) : sem E (.idxp 3) [.slr r 0 n 3, .int .i64 (i : Int)] W K = K (.vptr r (i * 3)) W := by
 rw [sem_idxp_slr (by omega) (by omega)]; simp
theorem ld {W : AW} {K : V → AW → Prop} {r i : Nat} {d : Array Ed} (h : i < d.size) : sem E (.load true 3) [.vptr r (i * 3)] (pv W r d) K = K d[i]!.V (pv W r d) :=
 sem_load_vec pv_get (part_cellsE h)
theorem st {W : AW} {K : V → AW → Prop} {r i : Nat} {d : Array Ed} {v : Ed} (h : i < d.size) : sem E (.store 3) [.vptr r (i * 3), v.V] (pv W r d) K = K .undef (pv W r (d.setIfInBounds i v)) := by
 rw [sem_store_vec (s := 3) (x := v.V) pv_get rfl rfl (by rw [cellsE_len]; omega)]
 congr 1
 have h1 : i < d.toList.length := by simpa using h
 have e : (cellsE d).take (i * 3) ++ v.V.cells ++ (cellsE d).drop (i * 3 + 3) = cellsE (d.setIfInBounds i v) := by
  rw [cellsE, cellsE, Array.toList_setIfInBounds]
  exact cellsL_set h1
 rw [e]
 exact pv_pv
theorem ed_frz {W : AW} {e : Ed} : W.frz e.V = e.V := id rfl
end
theorem pcall_go {E : Env} {W : AW} {K : V → AW → Prop} {f : FuncId} {vs ws : List V} {v : V} (hw : vs.map W.frz = ws) (h : ACalls E f ws W (fun X W' => X = v ∧ W' = W)) (hk : K v W) : sem E (.pcall f) vs W K := by
 subst hw; exact ⟨v, h, hk⟩
theorem sz_set {d : Array Ed} {i : Nat} {v : Ed} : (d.setIfInBounds i v).size = d.size := by simp
theorem sw {d : Array Ed} {i j : Nat} : (d.setIfInBounds i d[j]!).setIfInBounds j d[i]! = swp d i j := id rfl
def c_nan8 : AC := (.r [.v 2 (.bool false)] (.r [.m 3 0,.m 4 0,.b 5 (.bin .neq) 3 4,.m 2 5] .ret))
theorem ok_nan8e : compF Tryz.prog Tryz.f126 ⟨true, false, []⟩ = some (c_nan8, [.tmp 2], 6) := by kernel_rfl
def c_cmp16 : AC := (.r [.v 4 (.int .i64 0)] (.r [.m 7 0,.u 8 (.call 116) 7,.m 5 8] (.r [.m 9 1,.u 10 (.call 116) 9,.m 6 10] (.seq (.r [.m 11 5] (.cond (.t 11) (.seq (.r [.m 12 6] (.cond (.t 12) (.r [.v 4 (.int .i64 0)] .ret) .skip)) (.r [.v 4 (.int .i64 (-1))] .ret)) .skip)) (.seq (.r [.m 13 6] (.cond (.t 13) (.r [.v 4 (.int .i64 1)] .ret) .skip)) (.seq (.r [.m 14 0,.m 15 1,.b 16 (.bin .lss) 14 15] (.cond (.t 16) (.r [.v 4 (.int .i64 (-1))] .ret) .skip)) (.seq (.r [.m 17 0,.m 18 1,.b 19 (.bin .gtr) 17 18] (.cond (.t 19) (.r [.v 4 (.int .i64 1)] .ret) .skip)) (.r [.v 4 (.int .i64 0)] .ret))))))))
theorem ok_cmp16e : compF Tryz.prog Tryz.f111 ⟨true, false, []⟩ = some (c_cmp16, [.tmp 4], 20) := by kernel_rfl
def c_cmp8 : AC := (.r [.v 4 (.int .i64 0)] (.r [.m 7 0,.u 8 (.call 126) 7,.m 5 8] (.r [.m 9 1,.u 10 (.call 126) 9,.m 6 10] (.seq (.r [.m 11 5] (.cond (.t 11) (.seq (.r [.m 12 6] (.cond (.t 12) (.r [.v 4 (.int .i64 0)] .ret) .skip)) (.r [.v 4 (.int .i64 (-1))] .ret)) .skip)) (.seq (.r [.m 13 6] (.cond (.t 13) (.r [.v 4 (.int .i64 1)] .ret) .skip)) (.seq (.r [.m 14 0,.m 15 1,.b 16 (.bin .lss) 14 15] (.cond (.t 16) (.r [.v 4 (.int .i64 (-1))] .ret) .skip)) (.seq (.r [.m 17 0,.m 18 1,.b 19 (.bin .gtr) 17 18] (.cond (.t 19) (.r [.v 4 (.int .i64 1)] .ret) .skip)) (.r [.v 4 (.int .i64 0)] .ret))))))))
theorem ok_cmp8e : compF Tryz.prog Tryz.f112 ⟨true, false, []⟩ = some (c_cmp8, [.tmp 4], 20) := by kernel_rfl
def c_cmpOr : AC := (.r [.v 2 (.int .i64 0)] (.r [.v 3 (.int .i64 0)] (.seq (.r [.m 6 0,.u 7 (.len 1 0) 6,.v 8 (.int .i64 0)] (.block 0 (.loop (.r [.b 9 (.bin .lss) 8 7] (.seq (.w 9 0) (.seq (.block 1 (.r [.b 10 (.idxp 1) 6 8,.u 11 (.load false 1) 10,.m 5 11] (.r [.m 12 5,.m 13 3,.b 14 (.bin .neq) 12 13] (.cond (.t 14) (.r [.m 15 5,.m 2 15] .ret) .skip)))) (.reg [.a 16 (.bin .add) 8 1,.m 8 16]))))))) (.r [.m 17 3,.m 2 17] .ret))))
theorem ok_cmpOre : compF Tryz.prog Tryz.f110 ⟨true, false, []⟩ = some (c_cmpOr, [.tmp 2], 18) := by kernel_rfl
def c_cmpE : AC := (.r [.u 2 .box 0,.u 3 .box 1,.v 4 (.int .i64 0)] (.seq (.par (.step 0 (.u 5 (.fld 0) 2) (.step 2 (.u 7 (.fld 0) 3) (.step 5 (.u 10 (.fld 1) 2) (.step 7 (.u 12 (.fld 1) 3) (.step 10 (.u 15 (.fld 2) 2) (.step 12 (.u 17 (.fld 2) 3) (.step 1 (.u 6 (.load false 1) 5) (.step 3 (.u 8 (.load false 1) 7) (.step 4 (.b 9 (.pcall 111) 6 8) (.step 6 (.u 11 (.load false 1) 10) (.step 8 (.u 13 (.load false 1) 12) (.step 9 (.b 14 (.pcall 111) 11 13) (.step 11 (.u 16 (.load false 1) 15) (.step 13 (.u 18 (.load false 1) 17) (.step 14 (.b 19 (.pcall 112) 16 18) (.step 15 (.p 20 (.bslice 1 3 (.int .i64 0) [0, 1, 2]) [.t 9,.t 14,.t 19]) (.step 16 (.u 21 (.pcall 110) 20) (.step 17 (.m 4 21) .done))))))))))))))))))) .ret))
theorem ok_cmpEe : compF Tryz.prog Tryz.f109 ⟨true, false, []⟩ = some (c_cmpE, [.tmp 4], 22) := by kernel_rfl
variable {E : Env}
theorem nan8_c (hP : PE E) (W : AW) (a : Int) : ACalls E 126 [.int .u8 a] W fun Y W' => Y = .bool false ∧ W' = W := by
 refine ACalls.of hP Tryz.func126 ok_nan8e (by simp) fun _ _ => ?_
 simp only [c_nan8, BZ, ↓reduceIte, nE, reduceCtorEq]
 exact ⟨_, rfl, _, _, .weak weak_id, lr _, by simp, rfl⟩
theorem cmp16_c (hP : PE E) (W : AW) (a b : Int) : ACalls E 111 [.int .u16 a, .int .u16 b] W fun Y W' => Y = .int .i64 (sgn a b) ∧ W' = W := by
 refine ACalls.of hP Tryz.func111 ok_cmp16e (by simp) fun _ _ => ?_
 simp only [c_cmp16, BZ, ↓reduceIte, reduceCtorEq]
 refine pc (isNaN_c hP _ _) ?_
 simp only [BZ, ↓reduceIte, nE]
 refine pc (isNaN_c hP _ _) ?_
 by_cases h1 : a < b
 ·simp only [BX, ↓reduceIte, nE, reduceCtorEq, decide_eq_true h1]
  exact ⟨_, rfl, _, _, .weak weak_id, lr _, by simp [sgn, h1], rfl⟩
 ·by_cases h2 : a > b
  ·simp only [BX, ↓reduceIte, nE, reduceCtorEq, decide_eq_false h1, decide_eq_true h2]
   exact ⟨_, rfl, _, _, .weak weak_id, lr _, by simp [sgn, h1, h2], rfl⟩
  ·simp only [BX, ↓reduceIte, nE, reduceCtorEq, decide_eq_false h1, decide_eq_false h2]
   exact ⟨_, rfl, _, _, .weak weak_id, lr _, by simp [sgn, h1, h2], rfl⟩
theorem cmp8_c (hP : PE E) (W : AW) (a b : Int) : ACalls E 112 [.int .u8 a, .int .u8 b] W fun Y W' => Y = .int .i64 (sgn a b) ∧ W' = W := by
 refine ACalls.of hP Tryz.func112 ok_cmp8e (by simp) fun _ _ => ?_
 simp only [c_cmp8, BZ, ↓reduceIte, reduceCtorEq]
 refine pc (nan8_c hP _ _) ?_
 simp only [BZ, ↓reduceIte, nE]
 refine pc (nan8_c hP _ _) ?_
 by_cases h1 : a < b
 ·simp only [BX, ↓reduceIte, nE, reduceCtorEq, decide_eq_true h1]
  exact ⟨_, rfl, _, _, .weak weak_id, lr _, by simp [sgn, h1], rfl⟩
 ·by_cases h2 : a > b
  ·simp only [BX, ↓reduceIte, nE, reduceCtorEq, decide_eq_false h1, decide_eq_true h2]
   exact ⟨_, rfl, _, _, .weak weak_id, lr _, by simp [sgn, h1, h2], rfl⟩
  ·simp only [BX, ↓reduceIte, nE, reduceCtorEq, decide_eq_false h1, decide_eq_false h2]
   exact ⟨_, rfl, _, _, .weak weak_id, lr _, by simp [sgn, h1, h2], rfl⟩
theorem b3 {W : AW} {K : V → AW → Prop} {a b c : Int} : sem E (.bslice 1 3 (.int .i64 0) [0, 1, 2]) [.int .i64 a, .int .i64 b, .int .i64 c] W K = K (.sl 1 true [.int .i64 a, .int .i64 b, .int .i64 c]) W := by
 simp [sem, rsem, tsem, fillE, V.cells]
theorem or3_c (hP : PE E) (W : AW) (a b c : Int) : ACalls E 110 [.sl 1 true [.int .i64 a, .int .i64 b, .int .i64 c]] W fun Y W' => Y = .int .i64 (if a ≠ 0 then a else if b ≠ 0 then b else c) ∧ W' = W := by
 refine ACalls.of hP Tryz.func110 ok_cmpOre (by simp) fun _ _ => ?_
 simp only [c_cmpOr, BZ, ↓reduceIte, reduceCtorEq, BD, nA]
 rw [e_loop]
 refine alp (fun (k : Nat) A1 W1 => A1 3 = some (.int .i64 0) ∧ A1 6 = some (.sl 1 true [.int .i64 a, .int .i64 b, .int .i64 c]) ∧ A1 7 = some (.int .i64 (3 : Nat)) ∧ A1 8 = some (.int .i64 k) ∧ k ≤ 3 ∧ W1 = W ∧ (0 < k → a = 0) ∧ (1 < k → b = 0) ∧ (2 < k → c = 0)) (fun k => 3 - k) 0
  ⟨rfl, rfl, rfl, rfl, by omega, rfl, by omega, by omega, by omega⟩ ?_
 rintro k A1 W1 ⟨g3, g6, g7, g8, gk, rfl, ga, gb, gc⟩ _
 have hk : k = 0 ∨ k = 1 ∨ k = 2 ∨ k = 3 := by omega
 rcases hk with rfl | rfl | rfl | rfl
 ·by_cases h : a = 0
  ·simp (maxSteps:=9^9) (disch:=omega) only [BX, ↓reduceIte, nE, BM, BD, nT, g3, g6, g7, g8, clt, nT, dT, cmpne, h, ne_eq, not_true, dF, wadd1]
   exact ⟨1, ⟨tt, tt, tt, tt, tt, tt, by (first | omega | simp | simp [h]), by (first | omega | simp | simp [h]), by (first | omega | simp | simp [h])⟩, by omega, lr _⟩
  ·simp (maxSteps:=9^9) (disch:=omega) only [BX, ↓reduceIte, nE, BM, nT, g3, g6, g7, g8, clt, nT, dT, cmpne, ne_eq, h, not_false_iff]
   exact ⟨_, rfl, _, _, .weak weak_id, lr _, by simp, rfl⟩
 ·have h0 := ga (by omega)
  by_cases h : b = 0
  ·simp (maxSteps:=9^9) (disch:=omega) only [BX, ↓reduceIte, nE, BM, nA, nT, g3, g6, g7, g8, clt, nT, dT, cmpne, h, ne_eq, not_true, dF, wadd1]
   exact ⟨2, ⟨tt, tt, tt, tt, tt, tt, by (first | omega | simp | simp [h]), by (first | omega | simp | simp [h]), by (first | omega | simp | simp [h])⟩, by omega, lr _⟩
  ·simp (maxSteps:=9^9) (disch:=omega) only [BX, ↓reduceIte, nE, BM, nT, g3, g6, g7, g8, clt, nT, dT, cmpne, ne_eq, h, not_false_iff]
   exact ⟨_, rfl, _, _, .weak weak_id, lr _, by simp [h0], rfl⟩
 ·have h0 := ga (by omega)
  have h1 := gb (by omega)
  by_cases h : c = 0
  ·simp (maxSteps:=9^9) (disch:=omega) only [BX, ↓reduceIte, nE, BM, nA, nT, g3, g6, g7, g8, clt, nT, dT, cmpne, h, ne_eq, not_true, dF, wadd1]
   exact ⟨3, ⟨tt, tt, tt, tt, tt, tt, by (first | omega | simp | simp [h]), by (first | omega | simp | simp [h]), by (first | omega | simp | simp [h])⟩, by omega, lr _⟩
  ·simp (maxSteps:=9^9) (disch:=omega) only [BX, ↓reduceIte, nE, BM, nT, g3, g6, g7, g8, clt, nT, dT, cmpne, ne_eq, h, not_false_iff]
   exact ⟨_, rfl, _, _, .weak weak_id, lr _, by simp [h0, h1], rfl⟩
 ·have h0 := ga (by omega)
  have h1 := gb (by omega)
  have h2 := gc (by omega)
  simp (maxSteps:=9^9) (disch:=omega) only [BX, ↓reduceIte, nE, g3, g7, g8, clt, Nat.lt_irrefl, dF]
  exact ⟨_, rfl, _, _, .weak weak_id, lr _, by simp [h0, h1, h2], rfl⟩
theorem less_c (hP : PE E) (W : AW) (a b : Ed) : ACalls E 109 [a.V, b.V] W fun Y W' => Y = .int .i64 (cmpE a b) ∧ W' = W := by
 refine ACalls.of hP Tryz.func109 ok_cmpEe (by simp) fun _ hok => ?_
 refine awp_start hok ?_
 simp (maxSteps:=9^9) (disch:=omega) only [c_cmpE, BZ, ↓reduceIte, nE, BM, BD, Ed.V]
 refine pcall_go rfl (cmp16_c hP _ _ _) ?_
 simp (maxSteps:=9^9) (disch:=omega) only [BS, BC, ↓reduceIte, nE, BM]
 refine pcall_go rfl (cmp16_c hP _ _ _) ?_
 simp (maxSteps:=9^9) (disch:=omega) only [BS, BC, ↓reduceIte, nE, BM]
 refine pcall_go rfl (cmp8_c hP _ _ _) ?_
 simp (maxSteps:=9^9) (disch:=omega) only [BS, ↓reduceIte, nE, b3]
 refine pcall_go rfl (or3_c hP _ _ _ _) ?_
 simp (maxSteps:=9^9) (disch:=omega) only [BS, BC, ↓reduceIte]
 exact ⟨_, rfl, _, W, backX hok rfl, lr _, rfl, rfl⟩
set_option maxHeartbeats 2000000
def c_e114 : AC := (.r [.m 12 1,.m 10 12] (.block 0 (.loop (.block 1 (.r [.m 13 10,.p 14 (.bin .mul) [.i 2,.t 13],.a 15 (.bin .add) 14 1,.m 11 15] (.seq (.r [.m 16 11,.m 17 2,.b 18 (.bin .geq) 16 17] (.cond (.t 18) (.exit 0) .skip)) (.seq (.seq (.par (.step 0 (.m 19 11) (.step 1 (.a 20 (.bin .add) 19 1) (.step 2 (.m 21 2) (.step 3 (.b 22 (.bin .lss) 20 21) (.step 4 (.m 23 22) (.step 5 (.M 24 4 23 true) (.step 6 (.M 25 0 23 true) (.step 7 (.M 26 3 23 true) (.step 8 (.M 27 11 23 true) (.step 9 (.B 28 (.bin .add) 26 27 23 true) (.step 12 (.M 31 0 23 true) (.step 13 (.M 32 3 23 true) (.step 14 (.M 33 11 23 true) (.step 15 (.B 34 (.bin .add) 32 33 23 true) (.step 16 (.P 35 (.bin .add) [.t 34,.i 1] 23 true) (.step 10 (.B 29 (.idxp 3) 25 28 23 true) (.step 11 (.U 30 (.load true 3) 29 23 true) (.step 17 (.B 36 (.idxp 3) 31 35 23 true) (.step 18 (.U 37 (.load true 3) 36 23 true) (.step 19 (.P 38 .callv [.t 24,.t 30,.t 37] 23 true) (.step 20 (.P 39 (.bin .lss) [.t 38,.i 0] 23 true) (.step 21 (.p 40 .pick [.t 23,.t 39,.F]) .done))))))))))))))))))))))) (.cond (.t 40) (.reg [.m 41 11,.a 42 (.bin .add) 41 1,.m 11 42]) .skip)) (.seq (.seq (.par (.step 0 (.m 43 4) (.step 1 (.m 44 0) (.step 2 (.m 45 3) (.step 3 (.m 46 10) (.step 4 (.b 47 (.bin .add) 45 46) (.step 7 (.m 50 0) (.step 8 (.m 51 3) (.step 9 (.m 52 11) (.step 10 (.b 53 (.bin .add) 51 52) (.step 5 (.b 48 (.idxp 3) 44 47) (.step 6 (.u 49 (.load true 3) 48) (.step 11 (.b 54 (.idxp 3) 50 53) (.step 12 (.u 55 (.load true 3) 54) (.step 13 (.p 56 .callv [.t 43,.t 49,.t 55]) (.step 14 (.a 57 (.bin .lss) 56 0) (.step 15 (.u 58 (.un .not) 57) .done))))))))))))))))) (.cond (.t 58) .ret .skip)) (.seq (.par (.step 0 (.m 59 0) (.step 1 (.m 60 3) (.step 2 (.m 61 10) (.step 3 (.b 62 (.bin .add) 60 61) (.step 4 (.m 63 0) (.step 5 (.m 64 3) (.step 6 (.m 65 11) (.step 7 (.b 66 (.bin .add) 64 65) (.step 8 (.m 67 0) (.step 9 (.m 68 3) (.step 10 (.m 69 11) (.step 11 (.b 70 (.bin .add) 68 69) (.step 14 (.m 73 0) (.step 15 (.m 74 3) (.step 16 (.m 75 10) (.step 17 (.b 76 (.bin .add) 74 75) (.step 12 (.b 71 (.idxp 3) 67 70) (.step 13 (.u 72 (.load true 3) 71) (.step 18 (.b 77 (.idxp 3) 73 76) (.step 19 (.u 78 (.load true 3) 77) (.step 20 (.b 79 (.idxp 3) 59 62) (.step 21 ⟨none,.store 3, [.t 79,.t 72], none⟩ (.step 22 (.b 80 (.idxp 3) 63 66) (.step 23 ⟨none,.store 3, [.t 80,.t 78], none⟩ .done))))))))))))))))))))))))) (.reg [.m 81 11,.m 10 81]))))))))))
theorem ok_e114e : compF Tryz.prog Tryz.f215 ⟨true, false, []⟩ = some (c_e114, [], 82) := by kernel_rfl
def c_e82 : AC := (.r [.m 13 1,.m 8 13] (.r [.v 9 (.int .i64 0)] (.r [.m 14 2,.m 15 1,.b 16 (.bin .sub) 14 15,.m 10 16] (.seq (.r [.m 17 10,.a 18 (.bin .sub) 17 1,.a 19 (.bin .quo) 18 2,.m 11 19] (.block 0 (.loop (.seq (.r [.m 20 11,.a 21 (.bin .geq) 20 0] (.w 21 0)) (.seq (.block 1 (.reg [.m 24 0,.m 25 11,.m 26 10,.m 27 8,.m 28 3,.p 29 (.call 215) [.t 24,.t 25,.t 26,.t 27,.t 28]])) (.reg [.m 22 11,.a 23 (.bin .sub) 22 1,.m 11 23])))))) (.r [.m 30 10,.a 31 (.bin .sub) 30 1,.m 12 31] (.block 2 (.loop (.seq (.r [.m 32 12,.a 33 (.bin .geq) 32 0] (.w 33 2)) (.seq (.block 3 (.seq (.par (.step 0 (.m 36 0) (.step 1 (.m 37 8) (.step 2 (.m 38 0) (.step 3 (.m 39 8) (.step 4 (.m 40 12) (.step 5 (.b 41 (.bin .add) 39 40) (.step 6 (.m 42 0) (.step 7 (.m 43 8) (.step 8 (.m 44 12) (.step 9 (.b 45 (.bin .add) 43 44) (.step 12 (.m 48 0) (.step 13 (.m 49 8) (.step 10 (.b 46 (.idxp 3) 42 45) (.step 11 (.u 47 (.load true 3) 46) (.step 14 (.b 50 (.idxp 3) 48 49) (.step 15 (.u 51 (.load true 3) 50) (.step 16 (.b 52 (.idxp 3) 36 37) (.step 17 ⟨none,.store 3, [.t 52,.t 47], none⟩ (.step 18 (.b 53 (.idxp 3) 38 41) (.step 19 ⟨none,.store 3, [.t 53,.t 51], none⟩ .done))))))))))))))))))))) (.reg [.m 54 0,.m 55 9,.m 56 12,.m 57 8,.m 58 3,.p 59 (.call 215) [.t 54,.t 55,.t 56,.t 57,.t 58]]))) (.reg [.m 34 12,.a 35 (.bin .sub) 34 1,.m 12 35]))))))))))
theorem ok_e82e : compF Tryz.prog Tryz.f193 ⟨true, false, []⟩ = some (c_e82, [], 60) := by kernel_rfl
def c_e85 : AC := (.r [.m 10 1,.m 8 10] (.r [.m 11 2,.a 12 (.bin .sub) 11 1,.m 9 12] (.block 0 (.loop (.seq (.r [.m 13 8,.m 14 9,.b 15 (.bin .lss) 13 14] (.w 15 0)) (.block 1 (.seq (.par (.step 0 (.m 16 0) (.step 1 (.m 17 8) (.step 2 (.m 18 0) (.step 3 (.m 19 9) (.step 4 (.m 20 0) (.step 5 (.m 21 9) (.step 8 (.m 24 0) (.step 9 (.m 25 8) (.step 6 (.b 22 (.idxp 3) 20 21) (.step 7 (.u 23 (.load true 3) 22) (.step 10 (.b 26 (.idxp 3) 24 25) (.step 11 (.u 27 (.load true 3) 26) (.step 12 (.b 28 (.idxp 3) 16 17) (.step 13 ⟨none,.store 3, [.t 28,.t 23], none⟩ (.step 14 (.b 29 (.idxp 3) 18 19) (.step 15 ⟨none,.store 3, [.t 29,.t 27], none⟩ .done))))))))))))))))) (.r [.m 30 8,.a 31 (.bin .add) 30 1,.m 8 31] (.reg [.m 32 9,.a 33 (.bin .sub) 32 1,.m 9 33])))))))))
theorem ok_e85e : compF Tryz.prog Tryz.f196 ⟨true, false, []⟩ = some (c_e85, [], 34) := by kernel_rfl
theorem reverseRange_c (hP : PE E) (W : AW) (r n a b : Nat) (d : Array Ed) (hn : d.size = n) (hb : b ≤ n) (hb1 : 1 ≤ b) (hsm : n < 2 ^ 48) :
  ACalls E 196 [.slr r 0 n 3, .int .i64 a, .int .i64 b, (.fn (.func 109) [] [])] (pv W r d) fun X W' => X = .tuple [] ∧ W' = pv W r (reverseRange d a b) := by
 refine ACalls.of hP Tryz.func196 ok_e85e (by simp) fun _ _ => ?_
 simp (maxSteps:=9^9) (disch:=omega) only [c_e85, BZ, ↓reduceIte, nE, wsub1, e_loop]
 refine alp (fun (s : Nat × Nat × Array Ed) A1 W1 => A1 0 = some (.slr r 0 n 3) ∧ A1 3 = some (.fn (.func 109) [] []) ∧ A1 8 = some (.int .i64 s.1) ∧ A1 9 = some (.int .i64 s.2.1) ∧
  W1 = pv W r s.2.2 ∧ s.2.1 < n ∧ s.2.2.size = n ∧ reverseLoop s.1 s.2.1 s.2.2 = reverseRange d a b) (fun s => s.2.1 - s.1) (a, b - 1, d)
  ⟨rfl, rfl, rfl, rfl, rfl, by simp; omega, hn, rfl⟩ ?_
 rintro ⟨i, j, d1⟩ A1 W1 ⟨g0, gc, g6, g7, rfl, gj, gs, gt⟩ _
 simp only at g6 g7 gj gs gt
 simp only [BS, e_seq, cond_if, ↓reduceIte, nE, reduceCtorEq, g0, g6, g7, clt]
 by_cases h : i < j
 ·simp (disch := (try simp only [sz_set]) <;> omega) only [BS, e_seq, ↓reduceIte, nE, reduceCtorEq, undef_t, h, dT, g0, gc, g6, g7, ix, ld, st, wadd1, wsub1, sw]
  refine ⟨(i + 1, j - 1, swp d1 i j), ⟨tt, tt, rfl, rfl, rfl, by simp; omega, by simp [swp, gs], ?_⟩, by simp; omega, lr _⟩
  rw [← gt, reverseLoop.eq_def i j d1, if_pos h]
 ·simp only [BC, ↓reduceIte, h, dF]
  refine ⟨_, rfl, _, _, .weak weak_id, lr _, rfl, ?_⟩
  rw [← gt, reverseLoop, if_neg h]
theorem siftDown_c (hP : PE E) (W : AW) (r n lo hi first : Nat) (d : Array Ed) (hn : d.size = n) (hh : first + hi ≤ n) (hlo : lo ≤ n) (hsm : n < 2 ^ 48) :
  ACalls E 215 [.slr r 0 n 3, .int .i64 lo, .int .i64 hi, .int .i64 first, (.fn (.func 109) [] [])] (pv W r d) fun X W' => X = .tuple [] ∧ W' = pv W r (siftDown ltE hi first lo d) := by
 refine ACalls.of hP Tryz.func215 ok_e114e (by simp) fun _ _ => ?_
 simp only [c_e114, BZ, ↓reduceIte, e_loop]
 refine alp (fun (s : Nat × Array Ed) A1 W1 => A1 0 = some (.slr r 0 n 3) ∧ A1 4 = some (.fn (.func 109) [] []) ∧ A1 2 = some (.int .i64 hi) ∧ A1 3 = some (.int .i64 first) ∧ A1 10 = some (.int .i64 s.1) ∧
  W1 = pv W r s.2 ∧ s.1 ≤ n ∧ s.2.size = n ∧ siftDown ltE hi first s.1 s.2 = siftDown ltE hi first lo d) (fun s => n - s.1) (lo, d)
  ⟨rfl, rfl, rfl, rfl, rfl, rfl, hlo, hn, rfl⟩ ?_
 rintro ⟨root, d1⟩ A1 W1 ⟨g0, gc, g2, g3, g8, rfl, gr, gs, gt⟩ _
 simp only at g8 gr gs gt
 rw [siftDown.eq_def ltE hi first root d1] at gt
 by_cases h1 : 2 * root + 1 ≥ hi
 ·simp (maxSteps:=9^9) (disch:=omega) only [BS, e_seq, cond_if, ↓reduceIte, nE, reduceCtorEq, g2, g8, wmul2, wadd1, cge, h1, dT]
  rw [dif_pos h1] at gt
  exact ⟨_, rfl, _, _, .weak weak_id, lr _, rfl, by rw [← gt]⟩
 rw [dif_neg h1] at gt
 have fin : ∀ c, root < c → c < hi → (if !ltE d1[first + root]! d1[first + c]! then d1 else siftDown ltE hi first c (swp d1 (first + root) (first + c))) = siftDown ltE hi first lo d →
   (¬ d1[first + root]! < d1[first + c]! → d1 = siftDown ltE hi first lo d) ∧ (d1[first + root]! < d1[first + c]! → siftDown ltE hi first c (swp d1 (first + root) (first + c)) = siftDown ltE hi first lo d) := by
  intro c _ _ h
  by_cases h4 : d1[first + root]! < d1[first + c]!
  ·simp [ltE, h4] at h; exact ⟨fun h' => absurd h4 h', fun _ => h⟩
  ·simp [ltE, h4] at h; exact ⟨fun _ => h, fun h' => absurd h' h4⟩
 by_cases h2 : 2 * root + 1 + 1 < hi
 ·simp (maxSteps:=9^9) (disch:=omega) only [BX, guard_if, ↓reduceIte, nE, reduceCtorEq, ed_frz, List.nil_append, apn, h1, dF, h2, dT, g0, gc, g2, g3, g8, wmul2, wadd1, wadd, cge, clt, ix, ld]
  refine (less_c hP _ _ _).mono ?_
  rintro X W' ⟨rfl, rfl⟩
  by_cases h3 : d1[first + (2 * root + 1)]! < d1[first + (2 * root + 1) + 1]!
  ·obtain ⟨c, hc⟩ : ∃ c, c = 2 * root + 2 := ⟨_, rfl⟩
   have wc : IntKind.i64.wrap (((2 * root + 1 : Nat) : Int) + 1) = (c : Int) := by rw [wadd1 (by omega), hc]
   rw [if_pos (by simp [h2, ltE, h3])] at gt
   have f := fin c (by omega) (by omega) (by rw [← gt, hc, dif_pos (by omega)])
   simp (maxSteps:=9^9) (disch:=omega) only [BX, guard_if, ↓reduceIte, nE, reduceCtorEq, ed_frz, List.nil_append, apn, cmp_lt, h3, dT, g0, gc, g3, g8, wc, wadd, ix, ld]
   refine (less_c hP _ _ _).mono ?_
   rintro X W' ⟨rfl, rfl⟩
   by_cases h4 : d1[first + root]! < d1[first + c]!
   ·simp (disch := (try simp only [sz_set]) <;> omega) only [BX, ↓reduceIte, nE, reduceCtorEq, cmp_lt, undef_t, h4, dT, Bool.not_true, g0, gc, g2, g3, g8, wadd, ix, ld, st, sw]
    exact ⟨(c, swp d1 (first + root) (first + c)), ⟨tt, tt, tt, tt, rfl, rfl, by simp; omega, by simp [swp, gs], f.2 h4⟩, by simp; omega, lr _⟩
   ·simp only [BS, cond_if, ↓reduceIte, cmp_lt, h4, dF, Bool.not_false]
    exact ⟨_, rfl, _, _, .weak weak_id, lr _, rfl, by rw [← f.1 h4]⟩
  ·obtain ⟨c, hc⟩ : ∃ c, c = 2 * root + 1 := ⟨_, rfl⟩
   rw [if_neg (by simp [h2, ltE, h3])] at gt
   have f := fin c (by omega) (by omega) (by rw [← gt, hc])
   rw [← hc] at h3
   simp (maxSteps:=9^9) (disch:=omega) only [BX, guard_if, ↓reduceIte, nE, reduceCtorEq, ed_frz, List.nil_append, apn, cmp_lt, h3, dF, g0, gc, g3, g8, ← hc, wadd, ix, ld]
   refine (less_c hP _ _ _).mono ?_
   rintro X W' ⟨rfl, rfl⟩
   by_cases h4 : d1[first + root]! < d1[first + c]!
   ·simp (disch := (try simp only [sz_set]) <;> omega) only [BX, ↓reduceIte, nE, reduceCtorEq, cmp_lt, undef_t, h4, dT, Bool.not_true, g0, gc, g2, g3, g8, wadd, ix, ld, st, sw]
    exact ⟨(c, swp d1 (first + root) (first + c)), ⟨tt, tt, tt, tt, rfl, rfl, by simp; omega, by simp [swp, gs], f.2 h4⟩, by simp; omega, lr _⟩
   ·simp only [BS, cond_if, ↓reduceIte, cmp_lt, h4, dF, Bool.not_false]
    exact ⟨_, rfl, _, _, .weak weak_id, lr _, rfl, by rw [← f.1 h4]⟩
 ·obtain ⟨c, hc⟩ : ∃ c, c = 2 * root + 1 := ⟨_, rfl⟩
  rw [if_neg (by simp [h2])] at gt
  have f := fin c (by omega) (by omega) (by rw [← gt, hc])
  rw [← hc] at h1 h2
  simp (maxSteps:=9^9) (disch:=omega) only [BX, guard_if, ↓reduceIte, nE, reduceCtorEq, ed_frz, List.nil_append, apn, undef_t, h1, dF, h2, g0, gc, g2, g3, g8, wmul2, wadd1, wadd, cge, clt, ← hc, ix, ld]
  refine (less_c hP _ _ _).mono ?_
  rintro X W' ⟨rfl, rfl⟩
  by_cases h4 : d1[first + root]! < d1[first + c]!
  ·simp (disch := (try simp only [sz_set]) <;> omega) only [BX, ↓reduceIte, nE, reduceCtorEq, cmp_lt, undef_t, h4, dT, Bool.not_true, g0, gc, g2, g3, g8, wadd, ix, ld, st, sw]
   exact ⟨(c, swp d1 (first + root) (first + c)), ⟨tt, tt, tt, tt, rfl, rfl, by simp; omega, by simp [swp, gs], f.2 h4⟩, by simp; omega, lr _⟩
  ·simp only [BS, cond_if, ↓reduceIte, cmp_lt, h4, dF, Bool.not_false]
   exact ⟨_, rfl, _, _, .weak weak_id, lr _, rfl, by rw [← f.1 h4]⟩
theorem siftDown_size (lt : Ed → Ed → Bool) (hi first : Nat) : ∀ (m root : Nat) (d : Array Ed), hi - root ≤ m → (siftDown lt hi first root d).size = d.size := by
 intro m
 induction m with
 | zero => intro root d h; rw [siftDown.eq_def, dif_pos (by omega)]
 | succ m ih =>
  intro root d h
  rw [siftDown.eq_def]
  split
  ·rfl
  split
  ·split
   ·rfl
   split
   ·rw [ih _ _ (by omega)]; simp [swp]
   ·rfl
  ·split
   ·rfl
   ·rw [ih _ _ (by omega)]; simp [swp]
theorem heapSort_c (hP : PE E) (W : AW) (r n a b : Nat) (d : Array Ed) (hn : d.size = n) (hab : a < b) (hb : b ≤ n) (hsm : n < 2 ^ 48) :
  ACalls E 193 [.slr r 0 n 3, .int .i64 a, .int .i64 b, (.fn (.func 109) [] [])] (pv W r d) fun X W' => X = .tuple [] ∧ W' = pv W r (heapSort ltE d a b) := by
 refine ACalls.of hP Tryz.func193 ok_e82e (by simp) fun _ _ => ?_
 obtain ⟨hi, hhi⟩ : ∃ hi, hi = b - a := ⟨_, rfl⟩
 simp (maxSteps:=9^9) (disch:=omega) only [c_e82, BZ, ↓reduceIte, nE, e_loop, wsub, wsub1, quo2, ← hhi]
 refine alp (fun (s : Nat × Array Ed) A1 W1 => A1 0 = some (.slr r 0 n 3) ∧ A1 3 = some (.fn (.func 109) [] []) ∧ A1 8 = some (.int .i64 a) ∧ A1 9 = some (.int .i64 0) ∧ A1 10 = some (.int .i64 hi) ∧ A1 11 = some (.int .i64 ((s.1 : Int) - 1)) ∧
  W1 = pv W r s.2 ∧ s.1 ≤ n ∧ s.2.size = n ∧ heapPop ltE a hi (heapBuild ltE hi a s.1 s.2) = heapSort ltE d a b) (fun s => s.1) ((hi - 1) / 2 + 1, d)
  ⟨rfl, rfl, rfl, rfl, rfl, by rw [succ_pred]; rfl, rfl, by simp; omega, hn, by rw [heapSort, hhi]⟩ ?_
 rintro ⟨k, d1⟩ A1 W1 ⟨g0, gc, g6, g7, g8, g9, rfl, gk, gs, gt⟩ _
 simp only at g9 gk gs gt
 cases k with
 | succ k =>
  rw [succ_pred] at g9
  simp (maxSteps:=9^9) (disch:=omega) only [BX, ↓reduceIte, nE, reduceCtorEq, g0, gc, g6, g8, g9, cge0]
  refine (siftDown_c hP W r n k hi a d1 gs (by omega) (by omega) hsm).mono ?_
  rintro X W' ⟨rfl, rfl⟩
  simp (maxSteps:=9^9) (disch:=omega) only [BS, ↓reduceIte, nE, reduceCtorEq, g0, gc, g6, g7, g8, g9, wsubm]
  exact ⟨(k, siftDown ltE hi a k d1), ⟨tt, tt, tt, tt, tt, rfl, rfl, by simp; omega, by rw [siftDown_size _ _ _ _ _ _ (lr _), gs], gt⟩, by simp, lr _⟩
 | zero =>
  have c0 : decide ((((0 : Nat) : Int) - 1) ≥ 0) = false := by decide
  simp (maxSteps:=9^9) (disch:=omega) only [BX, ↓reduceIte, nE, g8, g9, c0, wsubm, e_loop]
  refine alp (fun (s : Nat × Array Ed) A1 W1 => A1 0 = some (.slr r 0 n 3) ∧ A1 3 = some (.fn (.func 109) [] []) ∧ A1 8 = some (.int .i64 a) ∧ A1 9 = some (.int .i64 0) ∧ A1 12 = some (.int .i64 ((s.1 : Int) - 1)) ∧
   W1 = pv W r s.2 ∧ s.1 ≤ hi ∧ s.2.size = n ∧ heapPop ltE a s.1 s.2 = heapSort ltE d a b) (fun s => s.1) (hi, d1)
   ⟨g0, gc, g6, g7, rfl, rfl, lr _, gs, gt⟩ ?_
  rintro ⟨k, d2⟩ A2 W2 ⟨q0, qc, q6, q7, q10, rfl, qk, qs, qt⟩ _
  simp only at q10 qk qs qt
  cases k with
  | succ k =>
   rw [succ_pred] at q10
   have z : (0 : Int) = ((0 : Nat) : Int) := rfl
   simp (disch := (try simp only [sz_set]) <;> omega) only [BX, ↓reduceIte, nE, reduceCtorEq, undef_t, q0, qc, q6, q7, q10, cge0, wadd, ix, ld, st, sw]
   refine (siftDown_c hP W r n 0 k a (swp d2 a (a + k)) (by simp [swp, qs]) (by omega) (by omega) hsm).mono ?_
   rintro X W' ⟨rfl, rfl⟩
   simp (maxSteps:=9^9) (disch:=omega) only [BS, ↓reduceIte, nE, reduceCtorEq, q0, qc, q6, q7, q10, wsubm]
   exact ⟨(k, siftDown ltE k a 0 (swp d2 a (a + k))), ⟨tt, tt, tt, tt, rfl, rfl, by simp; omega, by rw [siftDown_size _ _ _ _ _ _ (lr _)]; simp [swp, qs], qt⟩, by simp, lr _⟩
  | zero =>
   have c0 : decide ((((0 : Nat) : Int) - 1) ≥ 0) = false := by decide
   simp (maxSteps:=9^9) (disch:=omega) only [BX, ↓reduceIte, q10, c0]
   exact ⟨_, rfl, _, _, .weak weak_id, lr _, rfl, by rw [← qt]; rfl⟩
def c_e134 : AC := (.r [.v 10 (.int .i64 0),.v 11 (.int .i64 0)] (.seq (.seq (.par (.step 0 (.m 12 4) (.step 1 (.m 13 0) (.step 2 (.m 14 2) (.step 5 (.m 17 0) (.step 6 (.m 18 1) (.step 3 (.b 15 (.idxp 3) 13 14) (.step 4 (.u 16 (.load true 3) 15) (.step 7 (.b 19 (.idxp 3) 17 18) (.step 8 (.u 20 (.load true 3) 19) (.step 9 (.p 21 .callv [.t 12,.t 16,.t 20]) (.step 10 (.a 22 (.bin .lss) 21 0) .done)))))))))))) (.cond (.t 22) (.r [.m 23 3,.u 24 .nilck 23,.u 25 (.load false 1) 24,.a 26 (.bin .add) 25 1,.u 27 .nilck 23,⟨none,.store 1, [.t 27,.t 26], none⟩] (.r [.m 28 2,.m 29 1,.m 10 28,.m 11 29] .ret)) .skip)) (.r [.m 30 1,.m 31 2,.m 10 30,.m 11 31] .ret)))
theorem ok_e134e : compF Tryz.prog Tryz.f218 ⟨true, false, []⟩ = some (c_e134, [.tmp 10, .tmp 11], 32) := by kernel_rfl
def c_e118 : AC := (.r [.v 12 (.int .i64 0)] (.r [.m 14 0,.m 15 1,.m 16 2,.m 17 4,.m 18 5,.p 19 (.call 218) [.t 14,.t 15,.t 16,.t 17,.t 18],.m 13 19,.u 20 (.ext 0) 13,.u 21 (.ext 1) 13,.m 1 20,.m 2 21] (.r [.m 23 0,.m 24 2,.m 25 3,.m 26 4,.m 27 5,.p 28 (.call 218) [.t 23,.t 24,.t 25,.t 26,.t 27],.m 22 28,.u 29 (.ext 0) 22,.u 30 (.ext 1) 22,.m 2 29,.m 3 30] (.r [.m 32 0,.m 33 1,.m 34 2,.m 35 4,.m 36 5,.p 37 (.call 218) [.t 32,.t 33,.t 34,.t 35,.t 36],.m 31 37,.u 38 (.ext 0) 31,.u 39 (.ext 1) 31,.m 1 38,.m 2 39] (.r [.m 40 2,.m 12 40] .ret)))))
theorem ok_e118e : compF Tryz.prog Tryz.f217 ⟨true, false, []⟩ = some (c_e118, [.tmp 12], 41) := by kernel_rfl
def c_e117 : AC := (.r [.v 8 (.int .i64 0)] (.r [.m 9 0,.m 10 1,.a 11 (.bin .sub) 10 1,.m 12 1,.m 13 1,.a 14 (.bin .add) 13 1,.m 15 2,.m 16 3,.p 17 (.call 217) [.t 9,.t 11,.t 12,.t 14,.t 15,.t 16],.m 8 17] .ret))
theorem ok_e117e : compF Tryz.prog Tryz.f216 ⟨true, false, []⟩ = some (c_e117, [.tmp 8], 18) := by kernel_rfl
def c_e84 : AC := (.r [.v 8 (.int .i64 0),.v 9 (.int .i64 0)] (.r [.m 15 2,.m 16 1,.b 17 (.bin .sub) 15 16,.m 10 17] (.r [.p 11 (.alloc [.int .i64 0]) []] (.r [.m 18 1,.m 19 10,.a 20 (.bin .quo) 19 4,.a 21 (.bin .mul) 20 1,.b 22 (.bin .add) 18 21,.m 12 22] (.r [.m 23 1,.m 24 10,.a 25 (.bin .quo) 24 4,.a 26 (.bin .mul) 25 2,.b 27 (.bin .add) 23 26,.m 13 27] (.r [.m 28 1,.m 29 10,.a 30 (.bin .quo) 29 4,.a 31 (.bin .mul) 30 3,.b 32 (.bin .add) 28 31,.m 14 32] (.seq (.r [.m 33 10,.a 34 (.bin .geq) 33 8] (.cond (.t 34) (.seq (.r [.m 35 10,.a 36 (.bin .geq) 35 50] (.cond (.t 36) (.r [.m 37 0,.m 38 12,.m 39 3,.p 40 (.call 216) [.t 37,.t 38,.t 11,.t 39],.m 12 40] (.r [.m 41 0,.m 42 13,.m 43 3,.p 44 (.call 216) [.t 41,.t 42,.t 11,.t 43],.m 13 44] (.reg [.m 45 0,.m 46 14,.m 47 3,.p 48 (.call 216) [.t 45,.t 46,.t 11,.t 47],.m 14 48]))) .skip)) (.reg [.m 49 0,.m 50 12,.m 51 13,.m 52 14,.m 53 3,.p 54 (.call 217) [.t 49,.t 50,.t 51,.t 52,.t 11,.t 53],.m 13 54])) .skip)) (.r [.u 55 (.load false 1) 11] (.block 0 (.r [.a 58 (.bin .eql) 55 0,.m 57 58] (.cond (.t 57) (.r [.m 59 13,.m 8 59,.v 9 (.int .i64 1)] .ret) (.r [.a 61 (.bin .eql) 55 12,.m 60 61] (.cond (.t 60) (.r [.m 62 13,.m 8 62,.v 9 (.int .i64 2)] .ret) (.r [.m 56 13,.m 8 56,.v 9 (.int .i64 0)] .ret))))))))))))))
theorem ok_e84e : compF Tryz.prog Tryz.f195 ⟨true, false, []⟩ = some (c_e84, [.tmp 8, .tmp 9], 63) := by kernel_rfl
theorem ldq {A : AW} {K : V → AW → Prop} {r p s i : Nat} {d : Array Ed} (hA : A.get r = some (.vec 3 (cellsE d))) (hp : r ≠ p) (h : i < d.size) :
  sem E (.load true 3) [.vptr r (i * 3)] (pq A p s) K = K (d[i]!.V) (pq A p s) :=
 sem_load_vec (s' := 3) (cells := cellsE d) (by simp [pq, AW.put, hp, hA]) (part_cellsE h)
theorem order2_c (hP : PE E) {A : AW} {r p s n a b : Nat} {d : Array Ed} (hA : A.get r = some (.vec 3 (cellsE d))) (hp : r ≠ p) (hn : d.size = n) (ha : a < n) (hb : b < n) (hs : s < 1000) :
  ACalls E 218 [.slr r 0 n 3, .int .i64 a, .int .i64 b, .ptr p 0, (.fn (.func 109) [] [])] (pq A p s) fun X W' => X = .tuple [.int .i64 (order2 ltE d a b s).1, .int .i64 (order2 ltE d a b s).2.1] ∧ W' = pq A p (order2 ltE d a b s).2.2 := by
 refine ACalls.of hP Tryz.func218 ok_e134e (by simp) fun _ _ => ?_
 simp (maxSteps:=9^9) (disch:=omega) only [c_e134, BZ, ↓reduceIte, nE, reduceCtorEq, ed_frz, List.nil_append, apn, ix, ldq hA hp]
 refine (less_c hP _ _ _).mono ?_
 rintro X W' ⟨rfl, rfl⟩
 by_cases h : d[b]! < d[a]!
 ·simp (maxSteps:=9^9) (disch:=omega) only [BX, ↓reduceIte, nE, cmp_lt, undef_t, h, dT, ldp, wadd1, stp]
  exact ⟨_, rfl, _, _, .weak weak_id, lr _, by simp [order2, ltE, h], by simp [order2, ltE, h]⟩
 ·simp (maxSteps:=9^9) (disch:=omega) only [BX, ↓reduceIte, nE, cmp_lt, h, dF]
  exact ⟨_, rfl, _, _, .weak weak_id, lr _, by simp [order2, ltE, h], by simp [order2, ltE, h]⟩
theorem order2_le {d : Array Ed} {a b s n : Nat} (ha : a < n) (hb : b < n) : (order2 ltE d a b s).1 < n ∧ (order2 ltE d a b s).2.1 < n ∧ (order2 ltE d a b s).2.2 ≤ s + 1 := by
 unfold order2
 split <;> simp [ha, hb]
theorem median_c (hP : PE E) {A : AW} {r p s n a b c : Nat} {d : Array Ed} (hA : A.get r = some (.vec 3 (cellsE d))) (hp : r ≠ p) (hn : d.size = n) (ha : a < n) (hb : b < n) (hc : c < n) (hs : s < 900) :
  ACalls E 217 [.slr r 0 n 3, .int .i64 a, .int .i64 b, .int .i64 c, .ptr p 0, (.fn (.func 109) [] [])] (pq A p s) fun X W' => X = .int .i64 (median ltE d a b c s).1 ∧ W' = pq A p (median ltE d a b c s).2 := by
 refine ACalls.of hP Tryz.func217 ok_e118e (by simp) fun _ _ => ?_
 obtain ⟨l1, l2, l3⟩ := order2_le (d := d) (s := s) ha hb
 obtain ⟨m1, m2, m3⟩ := order2_le (d := d) (s := (order2 ltE d a b s).2.2) l2 hc
 obtain ⟨n1, n2, n3⟩ := order2_le (d := d) (s := (order2 ltE d (order2 ltE d a b s).2.1 c (order2 ltE d a b s).2.2).2.2) l1 m1
 simp only [c_e118, BZ, ↓reduceIte, nE, reduceCtorEq]
 refine (order2_c hP hA hp hn ha hb (by omega)).mono ?_
 rintro X W' ⟨rfl, rfl⟩
 simp only [BZ, ↓reduceIte, nE, reduceCtorEq]
 refine (order2_c hP hA hp hn l2 hc (by omega)).mono ?_
 rintro X W' ⟨rfl, rfl⟩
 simp only [BZ, ↓reduceIte, nE, reduceCtorEq]
 refine (order2_c hP hA hp hn l1 m1 (by omega)).mono ?_
 rintro X W' ⟨rfl, rfl⟩
 simp only [BZ, ↓reduceIte, nE]
 exact ⟨_, rfl, _, _, .weak weak_id, lr _, rfl, rfl⟩
theorem median_le {d : Array Ed} {a b c s n : Nat} (ha : a < n) (hb : b < n) (hc : c < n) : (median ltE d a b c s).1 < n ∧ (median ltE d a b c s).2 ≤ s + 3 := by
 obtain ⟨l1, l2, l3⟩ := order2_le (d := d) (s := s) ha hb
 obtain ⟨m1, m2, m3⟩ := order2_le (d := d) (s := (order2 ltE d a b s).2.2) l2 hc
 obtain ⟨n1, n2, n3⟩ := order2_le (d := d) (s := (order2 ltE d (order2 ltE d a b s).2.1 c (order2 ltE d a b s).2.2).2.2) l1 m1
 exact ⟨n2, by simp only [median]; omega⟩
theorem medianAdjacent_c (hP : PE E) {A : AW} {r p s n a : Nat} {d : Array Ed} (hA : A.get r = some (.vec 3 (cellsE d))) (hp : r ≠ p) (hn : d.size = n) (ha : 1 ≤ a) (hb : a + 1 < n) (hs : s < 900) (hsm : n < 2 ^ 48) :
  ACalls E 216 [.slr r 0 n 3, .int .i64 a, .ptr p 0, (.fn (.func 109) [] [])] (pq A p s) fun X W' => X = .int .i64 (medianAdjacent ltE d a s).1 ∧ W' = pq A p (medianAdjacent ltE d a s).2 := by
 refine ACalls.of hP Tryz.func216 ok_e117e (by simp) fun _ _ => ?_
 simp (maxSteps:=9^9) (disch:=omega) only [c_e117, BZ, ↓reduceIte, nE, reduceCtorEq, wsub1, wadd1]
 refine (median_c hP hA hp hn (by omega) (by omega) (by omega) hs).mono ?_
 rintro X W' ⟨rfl, rfl⟩
 simp only [BS, BC, ↓reduceIte]
 exact ⟨_, rfl, _, _, .weak weak_id, lr _, rfl, rfl⟩
theorem choosePivot_c (hP : PE E) (W : AW) (r n a b : Nat) (d : Array Ed) (hn : d.size = n) (hr : r < W.nx) (hab : a < b) (hb : b ≤ n) (hl : 8 ≤ b - a) (hsm : n < 2 ^ 48) :
  ACalls E 195 [.slr r 0 n 3, .int .i64 a, .int .i64 b, (.fn (.func 109) [] [])] (pv W r d) fun X W' => X = .tuple [.int .i64 (choosePivot ltE d a b).1, .int .i64 (hintN (choosePivot ltE d a b).2)] ∧ W' = pv W r d := by
 refine ACalls.of hP Tryz.func195 ok_e84e (by simp) fun _ hok => ?_
 obtain ⟨l, hl'⟩ : ∃ l, l = b - a := ⟨_, rfl⟩
 obtain ⟨A, hAd⟩ : ∃ A, A = (pv W r d).alloc (.row [.int .i64 0]) := ⟨_, rfl⟩
 have hA : A.get r = some (.vec 3 (cellsE d)) := by
  rw [hAd]; simp only [AW.alloc, pv_nx]; rw [if_neg (by omega)]; exact pv_get
 have hp : r ≠ W.nx := by omega
 have hA0 : A = pq A W.nx 0 := by
  rw [hAd]
  simp only [pq, AW.alloc, AW.put, AW.mk.injEq, and_true]
  funext x
  by_cases h : x = W.nx <;> simp [h, pv_nx]
 have hback : ∀ s x, x < (pv W r d).nx → (pq A W.nx s).get x = (pv W r d).get x := by
  intro s x hx
  rw [pv_nx] at hx
  rw [hAd]
  simp only [pq, AW.alloc, AW.put, pv_nx]
  rw [if_neg (by omega), if_neg (by omega)]
 -- behind the medians
 have hn1 : a + l / 4 * 1 + 1 < n := by omega
 have hn2 : a + l / 4 * 2 + 1 < n := by omega
 have hn3 : a + l / 4 * 3 + 1 < n := by omega
 have hg8 : l ≥ 8 := by omega
 by_cases h50 : l ≥ 50
 ·have k1 := median_le (d := d) (s := 0) (n := n) (a := a + l / 4 * 1 - 1) (b := a + l / 4 * 1) (c := a + l / 4 * 1 + 1) (by omega) (by omega) (by omega)
  obtain ⟨R1, hR1⟩ : ∃ R1, R1 = medianAdjacent ltE d (a + l / 4 * 1) 0 := ⟨_, rfl⟩
  have k2 := median_le (d := d) (s := R1.2) (n := n) (a := a + l / 4 * 2 - 1) (b := a + l / 4 * 2) (c := a + l / 4 * 2 + 1) (by omega) (by omega) (by omega)
  obtain ⟨R2, hR2⟩ : ∃ R2, R2 = medianAdjacent ltE d (a + l / 4 * 2) R1.2 := ⟨_, rfl⟩
  have k3 := median_le (d := d) (s := R2.2) (n := n) (a := a + l / 4 * 3 - 1) (b := a + l / 4 * 3) (c := a + l / 4 * 3 + 1) (by omega) (by omega) (by omega)
  obtain ⟨R3, hR3⟩ : ∃ R3, R3 = medianAdjacent ltE d (a + l / 4 * 3) R2.2 := ⟨_, rfl⟩
  obtain ⟨R, hR⟩ : ∃ R, R = median ltE d R1.1 R2.1 R3.1 R3.2 := ⟨_, rfl⟩
  change (medianAdjacent ltE d (a + l / 4 * 1) 0).1 < n ∧ (medianAdjacent ltE d (a + l / 4 * 1) 0).2 ≤ 0 + 3 at k1
  change (medianAdjacent ltE d (a + l / 4 * 2) R1.2).1 < n ∧ (medianAdjacent ltE d (a + l / 4 * 2) R1.2).2 ≤ R1.2 + 3 at k2
  change (medianAdjacent ltE d (a + l / 4 * 3) R2.2).1 < n ∧ (medianAdjacent ltE d (a + l / 4 * 3) R2.2).2 ≤ R2.2 + 3 at k3
  rw [← hR1] at k1; rw [← hR2] at k2; rw [← hR3] at k3
  simp (maxSteps:=9^9) (disch:=omega) only [c_e84, BX, ↓reduceIte, nE, reduceCtorEq, wsub, ← hl', quo4, wmul1, wmulr2, wmulr3, wadd, cge8, cge50, hg8, h50, dT, pv_nx, ← hAd]
  rw [hA0]
  refine (medianAdjacent_c hP hA hp hn (by omega) (by omega) (by omega) hsm).mono ?_
  rintro X W' ⟨rfl, rfl⟩
  rw [← hR1]
  simp (maxSteps:=9^9) (disch:=omega) only [BZ, ↓reduceIte, nE, reduceCtorEq]
  refine (medianAdjacent_c hP hA hp hn (by omega) (by omega) (by omega) hsm).mono ?_
  rintro X W' ⟨rfl, rfl⟩
  rw [← hR2]
  simp (maxSteps:=9^9) (disch:=omega) only [BS, BC, ↓reduceIte, nE, reduceCtorEq]
  refine (medianAdjacent_c hP hA hp hn (by omega) (by omega) (by omega) hsm).mono ?_
  rintro X W' ⟨rfl, rfl⟩
  rw [← hR3]
  simp (maxSteps:=9^9) (disch:=omega) only [BS, BC, ↓reduceIte, nE, reduceCtorEq]
  refine (median_c hP hA hp hn k1.1 k2.1 k3.1 (by omega)).mono ?_
  rintro X W' ⟨rfl, rfl⟩
  rw [← hR]
  have hR' : R = median ltE d (medianAdjacent ltE d (a + l / 4 * 1) 0).1 (medianAdjacent ltE d (a + l / 4 * 2) (medianAdjacent ltE d (a + l / 4 * 1) 0).2).1 (medianAdjacent ltE d (a + l / 4 * 3) (medianAdjacent ltE d (a + l / 4 * 2) (medianAdjacent ltE d (a + l / 4 * 1) 0).2).2).1 (medianAdjacent ltE d (a + l / 4 * 3) (medianAdjacent ltE d (a + l / 4 * 2) (medianAdjacent ltE d (a + l / 4 * 1) 0).2).2).2 := by
   rw [hR, hR3, hR2, hR1]
  have hcp : choosePivot ltE d a b = (R.1, if R.2 = 0 then .increasing else if R.2 = 12 then .decreasing else .unknown) := by
   simp only [choosePivot, ← hl', hg8, h50, ↓reduceIte, ← hR']
  by_cases h0 : R.2 = 0
  ·simp only [BS, e_seq, cond_if, ↓reduceIte, nE, ldp, eq0, h0, dT]
   exact ⟨_, rfl, _, _, .weak (weak_back hok rfl (hback _)), lr _, by simp [hcp, h0, hintN], rfl⟩
  by_cases h12 : R.2 = 12
  ·simp only [BX, ↓reduceIte, nE, reduceCtorEq, ldp, eq0, eq12, dF, h12, dT]
   exact ⟨_, rfl, _, _, .weak (weak_back hok rfl (hback _)), lr _, by simp [hcp, h12, hintN], rfl⟩
  ·simp only [BX, ↓reduceIte, nE, ldp, eq0, eq12, h0, dF, h12]
   exact ⟨_, rfl, _, _, .weak (weak_back hok rfl (hback _)), lr _, by simp [hcp, h0, h12, hintN], rfl⟩
 ·obtain ⟨R, hR⟩ : ∃ R, R = median ltE d (a + l / 4 * 1) (a + l / 4 * 2) (a + l / 4 * 3) 0 := ⟨_, rfl⟩
  simp (maxSteps:=9^9) (disch:=omega) only [c_e84, BX, ↓reduceIte, nE, reduceCtorEq, wsub, ← hl', quo4, wmul1, wmulr2, wmulr3, wadd, cge8, cge50, hg8, h50, dT, dF, pv_nx, ← hAd]
  rw [hA0]
  refine (median_c hP hA hp hn (by omega) (by omega) (by omega) (by omega)).mono ?_
  rintro X W' ⟨rfl, rfl⟩
  rw [← hR]
  have hcp : choosePivot ltE d a b = (R.1, if R.2 = 0 then .increasing else if R.2 = 12 then .decreasing else .unknown) := by
   simp only [choosePivot, ← hl', hg8, h50, ↓reduceIte, ← hR]
  by_cases h0 : R.2 = 0
  ·simp only [BS, e_seq, cond_if, ↓reduceIte, nE, ldp, eq0, h0, dT]
   exact ⟨_, rfl, _, _, .weak (weak_back hok rfl (hback _)), lr _, by simp [hcp, h0, hintN], rfl⟩
  by_cases h12 : R.2 = 12
  ·simp only [BX, ↓reduceIte, nE, reduceCtorEq, ldp, eq0, eq12, dF, h12, dT]
   exact ⟨_, rfl, _, _, .weak (weak_back hok rfl (hback _)), lr _, by simp [hcp, h12, hintN], rfl⟩
  ·simp only [BX, ↓reduceIte, nE, ldp, eq0, eq12, h0, dF, h12]
   exact ⟨_, rfl, _, _, .weak (weak_back hok rfl (hback _)), lr _, by simp [hcp, h0, h12, hintN], rfl⟩
def c_e88 : AC := (.r [.v 10 (.int .i64 0)] (.seq (.par (.step 0 (.m 13 0) (.step 1 (.m 14 1) (.step 2 (.m 15 0) (.step 3 (.m 16 3) (.step 4 (.m 17 0) (.step 5 (.m 18 3) (.step 8 (.m 21 0) (.step 9 (.m 22 1) (.step 6 (.b 19 (.idxp 3) 17 18) (.step 7 (.u 20 (.load true 3) 19) (.step 10 (.b 23 (.idxp 3) 21 22) (.step 11 (.u 24 (.load true 3) 23) (.step 12 (.b 25 (.idxp 3) 13 14) (.step 13 ⟨none,.store 3, [.t 25,.t 20], none⟩ (.step 14 (.b 26 (.idxp 3) 15 16) (.step 15 ⟨none,.store 3, [.t 26,.t 24], none⟩ .done))))))))))))))))) (.r [.m 27 1,.a 28 (.bin .add) 27 1,.m 29 2,.a 30 (.bin .sub) 29 1,.m 11 28,.m 12 30] (.seq (.block 0 (.loop (.block 1 (.seq (.block 2 (.loop (.seq (.seq (.par (.step 0 (.m 31 11) (.step 1 (.m 32 12) (.step 2 (.b 33 (.bin .leq) 31 32) (.step 3 (.m 34 33) (.step 4 (.M 35 4 34 true) (.step 5 (.M 36 0 34 true) (.step 6 (.M 37 1 34 true) (.step 9 (.M 40 0 34 true) (.step 10 (.M 41 11 34 true) (.step 7 (.B 38 (.idxp 3) 36 37 34 true) (.step 8 (.U 39 (.load true 3) 38 34 true) (.step 11 (.B 42 (.idxp 3) 40 41 34 true) (.step 12 (.U 43 (.load true 3) 42 34 true) (.step 13 (.P 44 .callv [.t 35,.t 39,.t 43] 34 true) (.step 14 (.P 45 (.bin .lss) [.t 44,.i 0] 34 true) (.step 15 (.U 46 (.un .not) 45 34 true) (.step 16 (.p 47 .pick [.t 34,.t 46,.F]) .done)))))))))))))))))) (.w 47 2)) (.block 3 (.reg [.m 48 11,.a 49 (.bin .add) 48 1,.m 11 49]))))) (.seq (.block 4 (.loop (.seq (.seq (.par (.step 0 (.m 50 11) (.step 1 (.m 51 12) (.step 2 (.b 52 (.bin .leq) 50 51) (.step 3 (.m 53 52) (.step 4 (.M 54 4 53 true) (.step 5 (.M 55 0 53 true) (.step 6 (.M 56 1 53 true) (.step 9 (.M 59 0 53 true) (.step 10 (.M 60 12 53 true) (.step 7 (.B 57 (.idxp 3) 55 56 53 true) (.step 8 (.U 58 (.load true 3) 57 53 true) (.step 11 (.B 61 (.idxp 3) 59 60 53 true) (.step 12 (.U 62 (.load true 3) 61 53 true) (.step 13 (.P 63 .callv [.t 54,.t 58,.t 62] 53 true) (.step 14 (.P 64 (.bin .lss) [.t 63,.i 0] 53 true) (.step 15 (.p 65 .pick [.t 53,.t 64,.F]) .done))))))))))))))))) (.w 65 4)) (.block 5 (.reg [.m 66 12,.a 67 (.bin .sub) 66 1,.m 12 67]))))) (.seq (.r [.m 68 11,.m 69 12,.b 70 (.bin .gtr) 68 69] (.cond (.t 70) (.exit 0) .skip)) (.seq (.par (.step 0 (.m 71 0) (.step 1 (.m 72 11) (.step 2 (.m 73 0) (.step 3 (.m 74 12) (.step 4 (.m 75 0) (.step 5 (.m 76 12) (.step 8 (.m 79 0) (.step 9 (.m 80 11) (.step 6 (.b 77 (.idxp 3) 75 76) (.step 7 (.u 78 (.load true 3) 77) (.step 10 (.b 81 (.idxp 3) 79 80) (.step 11 (.u 82 (.load true 3) 81) (.step 12 (.b 83 (.idxp 3) 71 72) (.step 13 ⟨none,.store 3, [.t 83,.t 78], none⟩ (.step 14 (.b 84 (.idxp 3) 73 74) (.step 15 ⟨none,.store 3, [.t 84,.t 82], none⟩ .done))))))))))))))))) (.r [.m 85 11,.a 86 (.bin .add) 85 1,.m 11 86] (.reg [.m 87 12,.a 88 (.bin .sub) 87 1,.m 12 88]))))))))) (.r [.m 89 11,.m 10 89] .ret)))))
theorem ok_e88e : compF Tryz.prog Tryz.f198 ⟨true, false, []⟩ = some (c_e88, [.tmp 10], 90) := by kernel_rfl
theorem partitionEqual_c (hP : PE E) (W : AW) (r n a b pivot : Nat) (d : Array Ed) (hn : d.size = n) (hab : a < b) (hb : b ≤ n) (hpv : pivot < n) (hsm : n < 2 ^ 48) :
  ACalls E 198 [.slr r 0 n 3, .int .i64 a, .int .i64 b, .int .i64 pivot, (.fn (.func 109) [] [])] (pv W r d) fun X W' => X = .int .i64 (partitionEqual ltE d a b pivot).1 ∧ W' = pv W r (partitionEqual ltE d a b pivot).2 := by
 refine ACalls.of hP Tryz.func198 ok_e88e (by simp) fun _ hok => ?_
 simp (disch := (try simp only [sz_set]) <;> omega) only [c_e88, BZ, ↓reduceIte, nE, reduceCtorEq, undef_t, ix, ld, st, sw, wadd1, wsub1, e_loop]
 refine alp (fun (s : Nat × Nat × Array Ed) A1 W1 => A1 0 = some (.slr r 0 n 3) ∧ A1 4 = some (.fn (.func 109) [] []) ∧ A1 1 = some (.int .i64 a) ∧ A1 11 = some (.int .i64 s.1) ∧ A1 12 = some (.int .i64 s.2.1) ∧
  W1 = pv W r s.2.2 ∧ a < s.1 ∧ s.1 ≤ n ∧ s.2.1 < n ∧ s.2.2.size = n ∧ partEqLoop ltE a s.1 s.2.1 s.2.2 = partitionEqual ltE d a b pivot) (fun s => s.2.1 + 1 - s.1) (a + 1, b - 1, swp d a pivot)
  ⟨rfl, rfl, rfl, rfl, rfl, rfl, by simp, by simp; omega, by simp; omega, by simp [swp, hn], rfl⟩ ?_
 rintro ⟨i, j, d1⟩ A1 W1 ⟨g0, gc, g1, g9, g10, rfl, gi, gin, gj, gs, gt⟩ _
 simp only at g9 g10 gi gin gj gs gt
 rw [partEqLoop_eq] at gt
 simp only [BS, e_seq]
 refine awp_mono _ (Q := fun e A' W' => e = .exit 2 ∧ A' 0 = some (.slr r 0 n 3) ∧ A' 4 = some (.fn (.func 109) [] []) ∧ A' 1 = some (.int .i64 a) ∧ A' 11 = some (.int .i64 ((scanUp (fun x => !ltE d1[a]! x) d1 j i : Nat) : Int)) ∧ A' 12 = some (.int .i64 (j : Nat)) ∧ W' = pv W r d1 ∧ i ≤ scanUp (fun x => !ltE d1[a]! x) d1 j i ∧ scanUp (fun x => !ltE d1[a]! x) d1 j i ≤ n) ?_ ?_
 rotate_left
 ·rw [e_loop]
  refine alp (fun (s : Nat) A2 W2 => A2 0 = some (.slr r 0 n 3) ∧ A2 4 = some (.fn (.func 109) [] []) ∧ A2 1 = some (.int .i64 a) ∧ A2 11 = some (.int .i64 (s : Int)) ∧ A2 12 = some (.int .i64 (j : Nat)) ∧ W2 = pv W r d1 ∧ i ≤ s ∧ s ≤ n ∧ scanUp (fun x => !ltE d1[a]! x) d1 j s = scanUp (fun x => !ltE d1[a]! x) d1 j i) (fun s => j + 1 - s) i
   ⟨by assumption, by assumption, by assumption, by assumption, by assumption, rfl, lr _, by omega, rfl⟩ ?_
  rintro s A2 W2 ⟨q0, qc, q1, qm, qf, rfl, qi, qin, qt⟩ _
  rw [scanUp.eq_def (fun x => !ltE d1[a]! x) d1 j s] at qt
  by_cases h1 : s ≤ j
  ·simp (maxSteps:=9^9) (disch:=omega) only [BZ, guard_if, ↓reduceIte, nE, reduceCtorEq, ed_frz, List.nil_append, apn, q0, qc, q1, qm, qf, cle, h1, dT, ix, ld]
   refine (less_c hP _ _ _).mono ?_
   rintro X W' ⟨rfl, rfl⟩
   by_cases h2 : d1[a]! < d1[s]!
   ·rw [if_neg (by simp [ltE, h2])] at qt
    simp (maxSteps:=9^9) (disch:=omega) only [BS, BC, cond_if, guard_if, ↓reduceIte, nE, reduceCtorEq, cmp_lt, h2, dT, Bool.not_true, q0, qc, q1, qm, qf]
    exact ⟨tt, tt, tt, tt, by rw [← qt], tt, tt, by rw [← qt]; exact qi, by rw [← qt]; exact qin⟩
   ·simp (maxSteps:=9^9) (disch:=omega) only [BS, cond_if, guard_if, ↓reduceIte, nE, reduceCtorEq, cmp_lt, h2, dF, Bool.not_false, q0, qc, q1, qm, qf, wadd1]
    exact ⟨s + 1, ⟨tt, tt, tt, rfl, tt, tt, by omega, by omega, by rw [← qt, if_pos (by simp [h1, ltE, h2])]⟩, by omega, lr _⟩
  ·rw [if_neg (by simp [h1])] at qt
   simp (maxSteps:=9^9) (disch:=omega) only [BX, guard_if, ↓reduceIte, nE, reduceCtorEq, undef_t, q0, qc, q1, qm, qf, cle, h1, dF]
   exact ⟨tt, tt, tt, tt, by rw [← qt], tt, tt, by rw [← qt]; exact qi, by rw [← qt]; exact qin⟩
 rintro e A2 W2 ⟨rfl, u0, uc, u1, u9, u10, rfl, ui, uin⟩
 simp only [BS, e_seq, ↓reduceIte]
 obtain ⟨i2, hi2⟩ : ∃ i2, i2 = scanUp (fun x => !ltE d1[a]! x) d1 j i := ⟨_, rfl⟩
 rw [← hi2] at u9 ui uin gt
 refine awp_mono _ (Q := fun e A' W' => e = .exit 4 ∧ A' 0 = some (.slr r 0 n 3) ∧ A' 4 = some (.fn (.func 109) [] []) ∧ A' 1 = some (.int .i64 a) ∧ A' 12 = some (.int .i64 ((scanDown (fun x => ltE d1[a]! x) d1 i2 j : Nat) : Int)) ∧ A' 11 = some (.int .i64 (i2 : Nat)) ∧ W' = pv W r d1 ∧ scanDown (fun x => ltE d1[a]! x) d1 i2 j ≤ j) ?_ ?_
 rotate_left
 ·rw [e_loop]
  refine alp (fun (s : Nat) A2 W2 => A2 0 = some (.slr r 0 n 3) ∧ A2 4 = some (.fn (.func 109) [] []) ∧ A2 1 = some (.int .i64 a) ∧ A2 12 = some (.int .i64 (s : Int)) ∧ A2 11 = some (.int .i64 (i2 : Nat)) ∧ W2 = pv W r d1 ∧ s ≤ j ∧ scanDown (fun x => ltE d1[a]! x) d1 i2 s = scanDown (fun x => ltE d1[a]! x) d1 i2 j) (fun s => s) j
   ⟨by assumption, by assumption, by assumption, by assumption, by assumption, rfl, lr _, rfl⟩ ?_
  rintro s A2 W2 ⟨q0, qc, q1, qm, qf, rfl, qi, qt⟩ _
  by_cases h1 : i2 ≤ s
  ·obtain ⟨s, rfl⟩ : ∃ s', s = s' + 1 := ⟨s - 1, by omega⟩
   rw [scanDown] at qt
   simp (maxSteps:=9^9) (disch:=omega) only [BZ, guard_if, ↓reduceIte, nE, reduceCtorEq, ed_frz, List.nil_append, apn, q0, qc, q1, qm, qf, cle, h1, dT, ix, ld]
   refine (less_c hP _ _ _).mono ?_
   rintro X W' ⟨rfl, rfl⟩
   by_cases h2 : d1[a]! < d1[s + 1]!
   ·simp (maxSteps:=9^9) (disch:=omega) only [BS, cond_if, guard_if, ↓reduceIte, nE, reduceCtorEq, cmp_lt, h2, dT, q0, qc, q1, qm, qf, wsub1, Nat.add_sub_cancel]
    exact ⟨s, ⟨tt, tt, tt, rfl, tt, tt, by omega, by rw [← qt, if_pos (by simp [h1, ltE, h2])]⟩, by omega, lr _⟩
   ·rw [if_neg (by simp [ltE, h2])] at qt
    simp (maxSteps:=9^9) (disch:=omega) only [BS, BC, cond_if, guard_if, ↓reduceIte, nE, reduceCtorEq, cmp_lt, h2, dF, q0, qc, q1, qm, qf]
    exact ⟨tt, tt, tt, tt, by rw [← qt], tt, tt, by rw [← qt]; exact qi⟩
  ·replace qt : s = scanDown (fun x => ltE d1[a]! x) d1 i2 j := by
    rw [← qt]; cases s with
    | zero => rfl
    | succ s => rw [scanDown, if_neg (by simp [h1])]
   simp (maxSteps:=9^9) (disch:=omega) only [BX, guard_if, ↓reduceIte, nE, reduceCtorEq, undef_t, q0, qc, q1, qm, qf, cle, h1, dF]
   exact ⟨tt, tt, tt, tt, by rw [← qt], tt, tt, by rw [← qt]; exact qi⟩
 rintro e A2 W2 ⟨rfl, v0, vc, v1, v10, v9, rfl, vj⟩
 obtain ⟨j2, hj2⟩ : ∃ j2, j2 = scanDown (fun x => ltE d1[a]! x) d1 i2 j := ⟨_, rfl⟩
 rw [← hj2] at v10 vj gt
 by_cases h3 : i2 > j2
 ·rw [if_pos h3] at gt
  simp (maxSteps:=9^9) (disch:=omega) only [BX, ↓reduceIte, nE, reduceCtorEq, v9, v10, cgt, h3, dT]
  exact ⟨_, rfl, _, _, .weak weak_id, lr _, by rw [← gt], by rw [← gt]⟩
 ·rw [if_neg h3] at gt
  simp (disch := (try simp only [sz_set]) <;> omega) only [BX, ↓reduceIte, nE, reduceCtorEq, undef_t, v0, vc, v1, v9, v10, cgt, h3, dF, ix, ld, st, sw, wadd1, wsub1]
  exact ⟨(i2 + 1, j2 - 1, swp d1 i2 j2), ⟨tt, tt, tt, rfl, rfl, rfl, by simp; omega, by simp; omega, by simp; omega, by simp [swp, gs], gt⟩, by simp; omega, lr _⟩
def c_e89 : AC := (.r [.v 10 (.int .i64 0),.v 11 (.bool false)] (.seq (.par (.step 0 (.m 14 0) (.step 1 (.m 15 1) (.step 2 (.m 16 0) (.step 3 (.m 17 3) (.step 4 (.m 18 0) (.step 5 (.m 19 3) (.step 8 (.m 22 0) (.step 9 (.m 23 1) (.step 6 (.b 20 (.idxp 3) 18 19) (.step 7 (.u 21 (.load true 3) 20) (.step 10 (.b 24 (.idxp 3) 22 23) (.step 11 (.u 25 (.load true 3) 24) (.step 12 (.b 26 (.idxp 3) 14 15) (.step 13 ⟨none,.store 3, [.t 26,.t 21], none⟩ (.step 14 (.b 27 (.idxp 3) 16 17) (.step 15 ⟨none,.store 3, [.t 27,.t 25], none⟩ .done))))))))))))))))) (.r [.m 28 1,.a 29 (.bin .add) 28 1,.m 30 2,.a 31 (.bin .sub) 30 1,.m 12 29,.m 13 31] (.seq (.block 0 (.loop (.seq (.seq (.par (.step 0 (.m 32 12) (.step 1 (.m 33 13) (.step 2 (.b 34 (.bin .leq) 32 33) (.step 3 (.m 35 34) (.step 4 (.M 36 4 35 true) (.step 5 (.M 37 0 35 true) (.step 6 (.M 38 12 35 true) (.step 9 (.M 41 0 35 true) (.step 10 (.M 42 1 35 true) (.step 7 (.B 39 (.idxp 3) 37 38 35 true) (.step 8 (.U 40 (.load true 3) 39 35 true) (.step 11 (.B 43 (.idxp 3) 41 42 35 true) (.step 12 (.U 44 (.load true 3) 43 35 true) (.step 13 (.P 45 .callv [.t 36,.t 40,.t 44] 35 true) (.step 14 (.P 46 (.bin .lss) [.t 45,.i 0] 35 true) (.step 15 (.p 47 .pick [.t 35,.t 46,.F]) .done))))))))))))))))) (.w 47 0)) (.block 1 (.reg [.m 48 12,.a 49 (.bin .add) 48 1,.m 12 49]))))) (.seq (.block 2 (.loop (.seq (.seq (.par (.step 0 (.m 50 12) (.step 1 (.m 51 13) (.step 2 (.b 52 (.bin .leq) 50 51) (.step 3 (.m 53 52) (.step 4 (.M 54 4 53 true) (.step 5 (.M 55 0 53 true) (.step 6 (.M 56 13 53 true) (.step 9 (.M 59 0 53 true) (.step 10 (.M 60 1 53 true) (.step 7 (.B 57 (.idxp 3) 55 56 53 true) (.step 8 (.U 58 (.load true 3) 57 53 true) (.step 11 (.B 61 (.idxp 3) 59 60 53 true) (.step 12 (.U 62 (.load true 3) 61 53 true) (.step 13 (.P 63 .callv [.t 54,.t 58,.t 62] 53 true) (.step 14 (.P 64 (.bin .lss) [.t 63,.i 0] 53 true) (.step 15 (.U 65 (.un .not) 64 53 true) (.step 16 (.p 66 .pick [.t 53,.t 65,.F]) .done)))))))))))))))))) (.w 66 2)) (.block 3 (.reg [.m 67 13,.a 68 (.bin .sub) 67 1,.m 13 68]))))) (.seq (.r [.m 69 12,.m 70 13,.b 71 (.bin .gtr) 69 70] (.cond (.t 71) (.seq (.par (.step 0 (.m 72 0) (.step 1 (.m 73 13) (.step 2 (.m 74 0) (.step 3 (.m 75 1) (.step 4 (.m 76 0) (.step 5 (.m 77 1) (.step 8 (.m 80 0) (.step 9 (.m 81 13) (.step 6 (.b 78 (.idxp 3) 76 77) (.step 7 (.u 79 (.load true 3) 78) (.step 10 (.b 82 (.idxp 3) 80 81) (.step 11 (.u 83 (.load true 3) 82) (.step 12 (.b 84 (.idxp 3) 72 73) (.step 13 ⟨none,.store 3, [.t 84,.t 79], none⟩ (.step 14 (.b 85 (.idxp 3) 74 75) (.step 15 ⟨none,.store 3, [.t 85,.t 83], none⟩ .done))))))))))))))))) (.r [.m 86 13,.m 10 86,.v 11 (.bool true)] .ret)) .skip)) (.seq (.par (.step 0 (.m 87 0) (.step 1 (.m 88 12) (.step 2 (.m 89 0) (.step 3 (.m 90 13) (.step 4 (.m 91 0) (.step 5 (.m 92 13) (.step 8 (.m 95 0) (.step 9 (.m 96 12) (.step 6 (.b 93 (.idxp 3) 91 92) (.step 7 (.u 94 (.load true 3) 93) (.step 10 (.b 97 (.idxp 3) 95 96) (.step 11 (.u 98 (.load true 3) 97) (.step 12 (.b 99 (.idxp 3) 87 88) (.step 13 ⟨none,.store 3, [.t 99,.t 94], none⟩ (.step 14 (.b 100 (.idxp 3) 89 90) (.step 15 ⟨none,.store 3, [.t 100,.t 98], none⟩ .done))))))))))))))))) (.r [.m 101 12,.a 102 (.bin .add) 101 1,.m 12 102] (.r [.m 103 13,.a 104 (.bin .sub) 103 1,.m 13 104] (.seq (.block 4 (.loop (.block 5 (.seq (.block 6 (.loop (.seq (.seq (.par (.step 0 (.m 105 12) (.step 1 (.m 106 13) (.step 2 (.b 107 (.bin .leq) 105 106) (.step 3 (.m 108 107) (.step 4 (.M 109 4 108 true) (.step 5 (.M 110 0 108 true) (.step 6 (.M 111 12 108 true) (.step 9 (.M 114 0 108 true) (.step 10 (.M 115 1 108 true) (.step 7 (.B 112 (.idxp 3) 110 111 108 true) (.step 8 (.U 113 (.load true 3) 112 108 true) (.step 11 (.B 116 (.idxp 3) 114 115 108 true) (.step 12 (.U 117 (.load true 3) 116 108 true) (.step 13 (.P 118 .callv [.t 109,.t 113,.t 117] 108 true) (.step 14 (.P 119 (.bin .lss) [.t 118,.i 0] 108 true) (.step 15 (.p 120 .pick [.t 108,.t 119,.F]) .done))))))))))))))))) (.w 120 6)) (.block 7 (.reg [.m 121 12,.a 122 (.bin .add) 121 1,.m 12 122]))))) (.seq (.block 8 (.loop (.seq (.seq (.par (.step 0 (.m 123 12) (.step 1 (.m 124 13) (.step 2 (.b 125 (.bin .leq) 123 124) (.step 3 (.m 126 125) (.step 4 (.M 127 4 126 true) (.step 5 (.M 128 0 126 true) (.step 6 (.M 129 13 126 true) (.step 9 (.M 132 0 126 true) (.step 10 (.M 133 1 126 true) (.step 7 (.B 130 (.idxp 3) 128 129 126 true) (.step 8 (.U 131 (.load true 3) 130 126 true) (.step 11 (.B 134 (.idxp 3) 132 133 126 true) (.step 12 (.U 135 (.load true 3) 134 126 true) (.step 13 (.P 136 .callv [.t 127,.t 131,.t 135] 126 true) (.step 14 (.P 137 (.bin .lss) [.t 136,.i 0] 126 true) (.step 15 (.U 138 (.un .not) 137 126 true) (.step 16 (.p 139 .pick [.t 126,.t 138,.F]) .done)))))))))))))))))) (.w 139 8)) (.block 9 (.reg [.m 140 13,.a 141 (.bin .sub) 140 1,.m 13 141]))))) (.seq (.r [.m 142 12,.m 143 13,.b 144 (.bin .gtr) 142 143] (.cond (.t 144) (.exit 4) .skip)) (.seq (.par (.step 0 (.m 145 0) (.step 1 (.m 146 12) (.step 2 (.m 147 0) (.step 3 (.m 148 13) (.step 4 (.m 149 0) (.step 5 (.m 150 13) (.step 8 (.m 153 0) (.step 9 (.m 154 12) (.step 6 (.b 151 (.idxp 3) 149 150) (.step 7 (.u 152 (.load true 3) 151) (.step 10 (.b 155 (.idxp 3) 153 154) (.step 11 (.u 156 (.load true 3) 155) (.step 12 (.b 157 (.idxp 3) 145 146) (.step 13 ⟨none,.store 3, [.t 157,.t 152], none⟩ (.step 14 (.b 158 (.idxp 3) 147 148) (.step 15 ⟨none,.store 3, [.t 158,.t 156], none⟩ .done))))))))))))))))) (.r [.m 159 12,.a 160 (.bin .add) 159 1,.m 12 160] (.reg [.m 161 13,.a 162 (.bin .sub) 161 1,.m 13 162]))))))))) (.seq (.par (.step 0 (.m 163 0) (.step 1 (.m 164 13) (.step 2 (.m 165 0) (.step 3 (.m 166 1) (.step 4 (.m 167 0) (.step 5 (.m 168 1) (.step 8 (.m 171 0) (.step 9 (.m 172 13) (.step 6 (.b 169 (.idxp 3) 167 168) (.step 7 (.u 170 (.load true 3) 169) (.step 10 (.b 173 (.idxp 3) 171 172) (.step 11 (.u 174 (.load true 3) 173) (.step 12 (.b 175 (.idxp 3) 163 164) (.step 13 ⟨none,.store 3, [.t 175,.t 170], none⟩ (.step 14 (.b 176 (.idxp 3) 165 166) (.step 15 ⟨none,.store 3, [.t 176,.t 174], none⟩ .done))))))))))))))))) (.r [.m 177 13,.m 10 177,.v 11 (.bool false)] .ret))))))))))))
theorem ok_e89e : compF Tryz.prog Tryz.f199 ⟨true, false, []⟩ = some (c_e89, [.tmp 10, .tmp 11], 178) := by kernel_rfl
theorem partition_c (hP : PE E) (W : AW) (r n a b pivot : Nat) (d : Array Ed) (hn : d.size = n) (hab : a < b) (hb : b ≤ n) (hpv : pivot < n) (hsm : n < 2 ^ 48) :
  ACalls E 199 [.slr r 0 n 3, .int .i64 a, .int .i64 b, .int .i64 pivot, (.fn (.func 109) [] [])] (pv W r d) fun X W' => X = .tuple [.int .i64 (partition ltE d a b pivot).1, .bool (partition ltE d a b pivot).2.1] ∧ W' = pv W r (partition ltE d a b pivot).2.2 := by
 refine ACalls.of hP Tryz.func199 ok_e89e (by simp) fun _ hok => ?_
 have gt : partition ltE d a b pivot = (let d := swp d a pivot
  let i := scanUp (fun x => ltE x d[a]!) d (b - 1) (a + 1)
  let j := scanDown (fun x => !ltE x d[a]!) d i (b - 1)
  if i > j then (j, true, swp d j a) else
   let r := partLoop ltE a (i + 1) (j - 1) (swp d i j)
   (r.1, false, swp r.2 r.1 a)) := rfl
 obtain ⟨d0, hd0⟩ : ∃ d0, d0 = swp d a pivot := ⟨_, rfl⟩
 have gs : d0.size = n := by rw [hd0]; simp [swp, hn]
 obtain ⟨i0, hi0⟩ : ∃ i0, i0 = a + 1 := ⟨_, rfl⟩
 obtain ⟨j0, hj0⟩ : ∃ j0, j0 = b - 1 := ⟨_, rfl⟩
 simp only [← hd0, ← hi0, ← hj0] at gt
 simp (disch := (try simp only [sz_set]) <;> omega) only [c_e89, BZ, ↓reduceIte, nE, reduceCtorEq, undef_t, ix, ld, st, sw, wadd1, wsub1, ← hd0, ← hi0, ← hj0]
 refine awp_mono _ (Q := fun e A' W' => e = .exit 0 ∧ A' 0 = some (.slr r 0 n 3) ∧ A' 4 = some (.fn (.func 109) [] []) ∧ A' 1 = some (.int .i64 a) ∧ A' 12 = some (.int .i64 ((scanUp (fun x => ltE x d0[a]!) d0 j0 i0 : Nat) : Int)) ∧ A' 13 = some (.int .i64 (j0 : Nat)) ∧ W' = pv W r d0 ∧ i0 ≤ scanUp (fun x => ltE x d0[a]!) d0 j0 i0 ∧ scanUp (fun x => ltE x d0[a]!) d0 j0 i0 ≤ n) ?_ ?_
 rotate_left
 ·rw [e_loop]
  refine alp (fun (s : Nat) A2 W2 => A2 0 = some (.slr r 0 n 3) ∧ A2 4 = some (.fn (.func 109) [] []) ∧ A2 1 = some (.int .i64 a) ∧ A2 12 = some (.int .i64 (s : Int)) ∧ A2 13 = some (.int .i64 (j0 : Nat)) ∧ W2 = pv W r d0 ∧ i0 ≤ s ∧ s ≤ n ∧ scanUp (fun x => ltE x d0[a]!) d0 j0 s = scanUp (fun x => ltE x d0[a]!) d0 j0 i0) (fun s => j0 + 1 - s) i0
   ⟨by rfl, by rfl, by rfl, by rfl, by rfl, rfl, lr _, by omega, rfl⟩ ?_
  rintro s A2 W2 ⟨q0, qc, q1, qm, qf, rfl, qi, qin, qt⟩ _
  rw [scanUp.eq_def (fun x => ltE x d0[a]!) d0 j0 s] at qt
  by_cases h1 : s ≤ j0
  ·simp (maxSteps:=9^9) (disch:=omega) only [BZ, guard_if, ↓reduceIte, nE, reduceCtorEq, ed_frz, List.nil_append, apn, q0, qc, q1, qm, qf, cle, h1, dT, ix, ld]
   refine (less_c hP _ _ _).mono ?_
   rintro X W' ⟨rfl, rfl⟩
   by_cases h2 : d0[s]! < d0[a]!
   ·simp (maxSteps:=9^9) (disch:=omega) only [BS, cond_if, guard_if, ↓reduceIte, nE, reduceCtorEq, cmp_lt, h2, dT, q0, qc, q1, qm, qf, wadd1]
    exact ⟨s + 1, ⟨tt, tt, tt, rfl, tt, tt, by omega, by omega, by rw [← qt, if_pos (by simp [h1, ltE, h2])]⟩, by omega, lr _⟩
   ·rw [if_neg (by simp [ltE, h2])] at qt
    simp (maxSteps:=9^9) (disch:=omega) only [BS, BC, cond_if, guard_if, ↓reduceIte, nE, reduceCtorEq, cmp_lt, h2, dF, q0, qc, q1, qm, qf]
    exact ⟨tt, tt, tt, tt, by rw [← qt], tt, tt, by rw [← qt]; exact qi, by rw [← qt]; exact qin⟩
  ·rw [if_neg (by simp [h1])] at qt
   simp (maxSteps:=9^9) (disch:=omega) only [BX, guard_if, ↓reduceIte, nE, reduceCtorEq, undef_t, q0, qc, q1, qm, qf, cle, h1, dF]
   exact ⟨tt, tt, tt, tt, by rw [← qt], tt, tt, by rw [← qt]; exact qi, by rw [← qt]; exact qin⟩
 rintro e A2 W2 ⟨rfl, u0, uc, u1, u10, u11, rfl, ui, un⟩
 simp only [BS, e_seq, ↓reduceIte]
 obtain ⟨i02, hi2⟩ : ∃ i02, i02 = scanUp (fun x => ltE x d0[a]!) d0 j0 i0 := ⟨_, rfl⟩
 rw [← hi2] at u10 ui un gt
 refine awp_mono _ (Q := fun e A' W' => e = .exit 2 ∧ A' 0 = some (.slr r 0 n 3) ∧ A' 4 = some (.fn (.func 109) [] []) ∧ A' 1 = some (.int .i64 a) ∧ A' 13 = some (.int .i64 ((scanDown (fun x => !ltE x d0[a]!) d0 i02 j0 : Nat) : Int)) ∧ A' 12 = some (.int .i64 (i02 : Nat)) ∧ W' = pv W r d0 ∧ scanDown (fun x => !ltE x d0[a]!) d0 i02 j0 ≤ j0) ?_ ?_
 rotate_left
 ·rw [e_loop]
  refine alp (fun (s : Nat) A2 W2 => A2 0 = some (.slr r 0 n 3) ∧ A2 4 = some (.fn (.func 109) [] []) ∧ A2 1 = some (.int .i64 a) ∧ A2 13 = some (.int .i64 (s : Int)) ∧ A2 12 = some (.int .i64 (i02 : Nat)) ∧ W2 = pv W r d0 ∧ s ≤ j0 ∧ scanDown (fun x => !ltE x d0[a]!) d0 i02 s = scanDown (fun x => !ltE x d0[a]!) d0 i02 j0) (fun s => s) j0
   ⟨by assumption, by assumption, by assumption, by assumption, by assumption, rfl, lr _, rfl⟩ ?_
  rintro s A2 W2 ⟨q0, qc, q1, qm, qf, rfl, qi, qt⟩ _
  by_cases h1 : i02 ≤ s
  ·obtain ⟨s, rfl⟩ : ∃ s', s = s' + 1 := ⟨s - 1, by omega⟩
   rw [scanDown] at qt
   simp (maxSteps:=9^9) (disch:=omega) only [BZ, guard_if, ↓reduceIte, nE, reduceCtorEq, ed_frz, List.nil_append, apn, q0, qc, q1, qm, qf, cle, h1, dT, ix, ld]
   refine (less_c hP _ _ _).mono ?_
   rintro X W' ⟨rfl, rfl⟩
   by_cases h2 : d0[s + 1]! < d0[a]!
   ·rw [if_neg (by simp [ltE, h2])] at qt
    simp (maxSteps:=9^9) (disch:=omega) only [BS, BC, cond_if, guard_if, ↓reduceIte, nE, reduceCtorEq, cmp_lt, h2, dT, Bool.not_true, q0, qc, q1, qm, qf]
    exact ⟨tt, tt, tt, tt, by rw [← qt], tt, tt, by rw [← qt]; exact qi⟩
   ·simp (maxSteps:=9^9) (disch:=omega) only [BS, cond_if, guard_if, ↓reduceIte, nE, reduceCtorEq, cmp_lt, h2, dF, Bool.not_false, q0, qc, q1, qm, qf, wsub1, Nat.add_sub_cancel]
    exact ⟨s, ⟨tt, tt, tt, rfl, tt, tt, by omega, by rw [← qt, if_pos (by simp [h1, ltE, h2])]⟩, by omega, lr _⟩
  ·replace qt : s = scanDown (fun x => !ltE x d0[a]!) d0 i02 j0 := by
    rw [← qt]; cases s with
    | zero => rfl
    | succ s => rw [scanDown, if_neg (by simp [h1])]
   simp (maxSteps:=9^9) (disch:=omega) only [BX, guard_if, ↓reduceIte, nE, reduceCtorEq, undef_t, q0, qc, q1, qm, qf, cle, h1, dF]
   exact ⟨tt, tt, tt, tt, by rw [← qt], tt, tt, by rw [← qt]; exact qi⟩
 rintro e A2 W2 ⟨rfl, v0, vc, v1, v11, v10, rfl, vj⟩
 obtain ⟨j2, hj2⟩ : ∃ j2, j2 = scanDown (fun x => !ltE x d0[a]!) d0 i02 j0 := ⟨_, rfl⟩
 rw [← hj2] at v11 vj gt
 by_cases h3 : i02 > j2
 ·rw [if_pos h3] at gt
  simp (disch := (try simp only [sz_set]) <;> omega) only [BS, e_seq, cond_if, ↓reduceIte, nE, reduceCtorEq, undef_t, v0, v1, v10, v11, cgt, h3, dT, ix, ld, st, sw]
  exact ⟨_, rfl, _, _, .weak weak_id, lr _, by rw [gt], by rw [gt]⟩
 ·rw [if_neg h3] at gt
  simp (disch := (try simp only [sz_set]) <;> omega) only [BX, ↓reduceIte, nE, reduceCtorEq, undef_t, v0, v10, v11, cgt, h3, dF, ix, ld, st, sw, wadd1, wsub1]
  rw [e_loop]
  refine alp (fun (s : Nat × Nat × Array Ed) A1 W1 => A1 0 = some (.slr r 0 n 3) ∧ A1 4 = some (.fn (.func 109) [] []) ∧ A1 1 = some (.int .i64 a) ∧ A1 12 = some (.int .i64 s.1) ∧ A1 13 = some (.int .i64 s.2.1) ∧
   W1 = pv W r s.2.2 ∧ a < s.1 ∧ s.1 ≤ n ∧ s.2.1 < n ∧ s.2.2.size = n ∧ partLoop ltE a s.1 s.2.1 s.2.2 = partLoop ltE a (i02 + 1) (j2 - 1) (swp d0 i02 j2)) (fun s => s.2.1 + 1 - s.1) (i02 + 1, j2 - 1, swp d0 i02 j2)
   ⟨by simp only [BS, ↓reduceIte, reduceCtorEq, v0], by simp only [BS, ↓reduceIte, nE, vc], by simp only [BS, ↓reduceIte, nE, v1], rfl, rfl, rfl, by simp; omega, by simp; omega, by simp; omega, by simp [swp, gs], rfl⟩ ?_
  rintro ⟨i, j, d1⟩ A1 W1 ⟨g0, gc, g1, g10, g11, rfl, gi, gin, gj, gs1, gt1⟩ _
  simp only at g10 g11 gi gin gj gs1 gt1
  rw [partLoop_eq] at gt1
  simp only [BS, e_seq]
  refine awp_mono _ (Q := fun e A' W' => e = .exit 6 ∧ A' 0 = some (.slr r 0 n 3) ∧ A' 4 = some (.fn (.func 109) [] []) ∧ A' 1 = some (.int .i64 a) ∧ A' 12 = some (.int .i64 ((scanUp (fun x => ltE x d1[a]!) d1 j i : Nat) : Int)) ∧ A' 13 = some (.int .i64 (j : Nat)) ∧ W' = pv W r d1 ∧ i ≤ scanUp (fun x => ltE x d1[a]!) d1 j i ∧ scanUp (fun x => ltE x d1[a]!) d1 j i ≤ n) ?_ ?_
  rotate_left
  ·rw [e_loop]
   refine alp (fun (s : Nat) A2 W2 => A2 0 = some (.slr r 0 n 3) ∧ A2 4 = some (.fn (.func 109) [] []) ∧ A2 1 = some (.int .i64 a) ∧ A2 12 = some (.int .i64 (s : Int)) ∧ A2 13 = some (.int .i64 (j : Nat)) ∧ W2 = pv W r d1 ∧ i ≤ s ∧ s ≤ n ∧ scanUp (fun x => ltE x d1[a]!) d1 j s = scanUp (fun x => ltE x d1[a]!) d1 j i) (fun s => j + 1 - s) i
    ⟨by assumption, by assumption, by assumption, by assumption, by assumption, rfl, lr _, by omega, rfl⟩ ?_
   rintro s A2 W2 ⟨q0, qc, q1, qm, qf, rfl, qi, qin, qt⟩ _
   rw [scanUp.eq_def (fun x => ltE x d1[a]!) d1 j s] at qt
   by_cases h1 : s ≤ j
   ·simp (maxSteps:=9^9) (disch:=omega) only [BZ, guard_if, ↓reduceIte, nE, reduceCtorEq, ed_frz, List.nil_append, apn, q0, qc, q1, qm, qf, cle, h1, dT, ix, ld]
    refine (less_c hP _ _ _).mono ?_
    rintro X W' ⟨rfl, rfl⟩
    by_cases h2 : d1[s]! < d1[a]!
    ·simp (maxSteps:=9^9) (disch:=omega) only [BS, cond_if, guard_if, ↓reduceIte, nE, reduceCtorEq, cmp_lt, h2, dT, q0, qc, q1, qm, qf, wadd1]
     exact ⟨s + 1, ⟨tt, tt, tt, rfl, tt, tt, by omega, by omega, by rw [← qt, if_pos (by simp [h1, ltE, h2])]⟩, by omega, lr _⟩
    ·rw [if_neg (by simp [ltE, h2])] at qt
     simp (maxSteps:=9^9) (disch:=omega) only [BS, BC, cond_if, guard_if, ↓reduceIte, nE, reduceCtorEq, cmp_lt, h2, dF, q0, qc, q1, qm, qf]
     exact ⟨tt, tt, tt, tt, by rw [← qt], tt, tt, by rw [← qt]; exact qi, by rw [← qt]; exact qin⟩
   ·rw [if_neg (by simp [h1])] at qt
    simp (maxSteps:=9^9) (disch:=omega) only [BX, guard_if, ↓reduceIte, nE, reduceCtorEq, undef_t, q0, qc, q1, qm, qf, cle, h1, dF]
    exact ⟨tt, tt, tt, tt, by rw [← qt], tt, tt, by rw [← qt]; exact qi, by rw [← qt]; exact qin⟩
  rintro e A2 W2 ⟨rfl, x0, xc, x1, x10, x11, rfl, xi, xn⟩
  simp only [BS, e_seq, ↓reduceIte]
  obtain ⟨i2, hi2⟩ : ∃ i2, i2 = scanUp (fun x => ltE x d1[a]!) d1 j i := ⟨_, rfl⟩
  rw [← hi2] at x10 xi xn gt1
  refine awp_mono _ (Q := fun e A' W' => e = .exit 8 ∧ A' 0 = some (.slr r 0 n 3) ∧ A' 4 = some (.fn (.func 109) [] []) ∧ A' 1 = some (.int .i64 a) ∧ A' 13 = some (.int .i64 ((scanDown (fun x => !ltE x d1[a]!) d1 i2 j : Nat) : Int)) ∧ A' 12 = some (.int .i64 (i2 : Nat)) ∧ W' = pv W r d1 ∧ scanDown (fun x => !ltE x d1[a]!) d1 i2 j ≤ j) ?_ ?_
  rotate_left
  ·rw [e_loop]
   refine alp (fun (s : Nat) A2 W2 => A2 0 = some (.slr r 0 n 3) ∧ A2 4 = some (.fn (.func 109) [] []) ∧ A2 1 = some (.int .i64 a) ∧ A2 13 = some (.int .i64 (s : Int)) ∧ A2 12 = some (.int .i64 (i2 : Nat)) ∧ W2 = pv W r d1 ∧ s ≤ j ∧ scanDown (fun x => !ltE x d1[a]!) d1 i2 s = scanDown (fun x => !ltE x d1[a]!) d1 i2 j) (fun s => s) j
    ⟨by assumption, by assumption, by assumption, by assumption, by assumption, rfl, lr _, rfl⟩ ?_
   rintro s A2 W2 ⟨q0, qc, q1, qm, qf, rfl, qi, qt⟩ _
   by_cases h1 : i2 ≤ s
   ·obtain ⟨s, rfl⟩ : ∃ s', s = s' + 1 := ⟨s - 1, by omega⟩
    rw [scanDown] at qt
    simp (maxSteps:=9^9) (disch:=omega) only [BZ, guard_if, ↓reduceIte, nE, reduceCtorEq, ed_frz, List.nil_append, apn, q0, qc, q1, qm, qf, cle, h1, dT, ix, ld]
    refine (less_c hP _ _ _).mono ?_
    rintro X W' ⟨rfl, rfl⟩
    by_cases h2 : d1[s + 1]! < d1[a]!
    ·rw [if_neg (by simp [ltE, h2])] at qt
     simp (maxSteps:=9^9) (disch:=omega) only [BS, BC, cond_if, guard_if, ↓reduceIte, nE, reduceCtorEq, cmp_lt, h2, dT, Bool.not_true, q0, qc, q1, qm, qf]
     exact ⟨tt, tt, tt, tt, by rw [← qt], tt, tt, by rw [← qt]; exact qi⟩
    ·simp (maxSteps:=9^9) (disch:=omega) only [BS, cond_if, guard_if, ↓reduceIte, nE, reduceCtorEq, cmp_lt, h2, dF, Bool.not_false, q0, qc, q1, qm, qf, wsub1, Nat.add_sub_cancel]
     exact ⟨s, ⟨tt, tt, tt, rfl, tt, tt, by omega, by rw [← qt, if_pos (by simp [h1, ltE, h2])]⟩, by omega, lr _⟩
   ·replace qt : s = scanDown (fun x => !ltE x d1[a]!) d1 i2 j := by
     rw [← qt]; cases s with
     | zero => rfl
     | succ s => rw [scanDown, if_neg (by simp [h1])]
    simp (maxSteps:=9^9) (disch:=omega) only [BX, guard_if, ↓reduceIte, nE, reduceCtorEq, undef_t, q0, qc, q1, qm, qf, cle, h1, dF]
    exact ⟨tt, tt, tt, tt, by rw [← qt], tt, tt, by rw [← qt]; exact qi⟩
  rintro e A2 W2 ⟨rfl, y0, yc, y1, y11, y10, rfl, yj⟩
  obtain ⟨j3, hj3⟩ : ∃ j3, j3 = scanDown (fun x => !ltE x d1[a]!) d1 i2 j := ⟨_, rfl⟩
  rw [← hj3] at y11 yj gt1
  by_cases h3 : i2 > j3
  ·rw [if_pos h3] at gt1
   rw [← gt1] at gt
   simp (disch := (try simp only [sz_set]) <;> omega) only [BS, e_seq, cond_if, ↓reduceIte, nE, reduceCtorEq, undef_t, y0, y1, y10, y11, cgt, h3, dT, ix, ld, st, sw]
   exact ⟨_, rfl, _, _, .weak weak_id, lr _, by rw [gt], by rw [gt]⟩
  ·rw [if_neg h3] at gt1
   simp (disch := (try simp only [sz_set]) <;> omega) only [BX, ↓reduceIte, nE, reduceCtorEq, undef_t, y0, yc, y1, y10, y11, cgt, h3, dF, ix, ld, st, sw, wadd1, wsub1]
   exact ⟨(i2 + 1, j3 - 1, swp d1 i2 j3), ⟨tt, tt, tt, rfl, rfl, rfl, by simp; omega, by simp; omega, by simp; omega, by simp [swp, gs1], gt1⟩, by simp; omega, lr _⟩
def c_e81 : AC := (.r [.m 10 1,.a 11 (.bin .add) 10 1,.m 8 11] (.block 0 (.loop (.seq (.r [.m 12 8,.m 13 2,.b 14 (.bin .lss) 12 13] (.w 14 0)) (.seq (.block 1 (.r [.m 17 8,.m 9 17] (.block 2 (.loop (.seq (.seq (.par (.step 0 (.m 18 9) (.step 1 (.m 19 1) (.step 2 (.b 20 (.bin .gtr) 18 19) (.step 3 (.m 21 20) (.step 4 (.M 22 3 21 true) (.step 5 (.M 23 0 21 true) (.step 6 (.M 24 9 21 true) (.step 9 (.M 27 0 21 true) (.step 10 (.M 28 9 21 true) (.step 11 (.P 29 (.bin .sub) [.t 28,.i 1] 21 true) (.step 7 (.B 25 (.idxp 3) 23 24 21 true) (.step 8 (.U 26 (.load true 3) 25 21 true) (.step 12 (.B 30 (.idxp 3) 27 29 21 true) (.step 13 (.U 31 (.load true 3) 30 21 true) (.step 14 (.P 32 .callv [.t 22,.t 26,.t 31] 21 true) (.step 15 (.P 33 (.bin .lss) [.t 32,.i 0] 21 true) (.step 16 (.p 34 .pick [.t 21,.t 33,.F]) .done)))))))))))))))))) (.w 34 2)) (.seq (.block 3 (.par (.step 0 (.m 37 0) (.step 1 (.m 38 9) (.step 2 (.m 39 0) (.step 3 (.m 40 9) (.step 4 (.a 41 (.bin .sub) 40 1) (.step 5 (.m 42 0) (.step 6 (.m 43 9) (.step 7 (.a 44 (.bin .sub) 43 1) (.step 10 (.m 47 0) (.step 11 (.m 48 9) (.step 8 (.b 45 (.idxp 3) 42 44) (.step 9 (.u 46 (.load true 3) 45) (.step 12 (.b 49 (.idxp 3) 47 48) (.step 13 (.u 50 (.load true 3) 49) (.step 14 (.b 51 (.idxp 3) 37 38) (.step 15 ⟨none,.store 3, [.t 51,.t 46], none⟩ (.step 16 (.b 52 (.idxp 3) 39 41) (.step 17 ⟨none,.store 3, [.t 52,.t 50], none⟩ .done)))))))))))))))))))) (.reg [.m 35 9,.a 36 (.bin .sub) 35 1,.m 9 36]))))))) (.reg [.m 15 8,.a 16 (.bin .add) 15 1,.m 8 16]))))))
theorem ok_e81e : compF Tryz.prog Tryz.f192 ⟨true, false, []⟩ = some (c_e81, [], 53) := by kernel_rfl
theorem insInner_size (lt : Ed → Ed → Bool) (a : Nat) : ∀ (j : Nat) (d : Array Ed), (insInner lt a j d).size = d.size
 | 0, d => rfl
 | j + 1, d => by
  rw [insInner]
  split
  ·rw [insInner_size]; simp [swp]
  ·rfl
theorem insertion_c (hP : PE E) (W : AW) (r n a b : Nat) (d : Array Ed) (hn : d.size = n) (hb : b ≤ n) (ha : a ≤ n) (hsm : n < 2 ^ 48) :
  ACalls E 192 [.slr r 0 n 3, .int .i64 a, .int .i64 b, (.fn (.func 109) [] [])] (pv W r d) fun X W' => X = .tuple [] ∧ W' = pv W r (insertionSort ltE d a b) := by
 refine ACalls.of hP Tryz.func192 ok_e81e (by simp) fun _ _ => ?_
 simp (maxSteps:=9^9) (disch:=omega) only [c_e81, BZ, ↓reduceIte, wadd1, e_loop]
 refine alp (fun (s : Nat × Array Ed) A1 W1 => A1 0 = some (.slr r 0 n 3) ∧ A1 3 = some (.fn (.func 109) [] []) ∧ A1 1 = some (.int .i64 a) ∧ A1 2 = some (.int .i64 b) ∧ A1 8 = some (.int .i64 s.1) ∧
  W1 = pv W r s.2 ∧ a + 1 ≤ s.1 ∧ s.1 ≤ n + 1 ∧ s.2.size = n ∧ insOuter ltE a b s.1 s.2 = insertionSort ltE d a b) (fun s => n + 1 - s.1) (a + 1, d)
  ⟨rfl, rfl, rfl, rfl, rfl, rfl, lr _, by simp; omega, hn, rfl⟩ ?_
 rintro ⟨i, d1⟩ A1 W1 ⟨g0, gc, g1, g2, g6, rfl, gi, gn, gs, gt⟩ _
 simp only at g6 gi gn gs gt
 rw [insOuter] at gt
 by_cases hib : i < b
 ·rw [if_pos hib] at gt
  simp only [BS, e_seq, cond_if, ↓reduceIte, nE, g2, g6, clt, hib, dT]
  refine awp_mono _ (Q := fun e A' W' => e = .exit 2 ∧ A' 0 = some (.slr r 0 n 3) ∧ A' 3 = some (.fn (.func 109) [] []) ∧ A' 1 = some (.int .i64 a) ∧ A' 2 = some (.int .i64 b) ∧ A' 8 = some (.int .i64 i) ∧ W' = pv W r (insInner ltE a i d1)) ?_ ?_
  ·rintro e A2 W2 ⟨rfl, q0, qc, q1, q2, q6, rfl⟩
   simp (maxSteps:=9^9) (disch:=omega) only [BS, ↓reduceIte, nE, reduceCtorEq, q0, qc, q1, q2, q6, wadd1]
   exact ⟨(i + 1, insInner ltE a i d1), ⟨tt, tt, tt, tt, rfl, rfl, by simp; omega, by simp; omega, by rw [insInner_size, gs], gt⟩, by simp; omega, lr _⟩
  ·rw [e_loop]
   refine alp (fun (s : Nat × Array Ed) A2 W2 => A2 0 = some (.slr r 0 n 3) ∧ A2 3 = some (.fn (.func 109) [] []) ∧ A2 1 = some (.int .i64 a) ∧ A2 2 = some (.int .i64 b) ∧ A2 8 = some (.int .i64 i) ∧ A2 9 = some (.int .i64 s.1) ∧
    W2 = pv W r s.2 ∧ s.1 ≤ i ∧ s.2.size = n ∧ insInner ltE a s.1 s.2 = insInner ltE a i d1) (fun s => s.1) (i, d1)
    ⟨by assumption, by assumption, by assumption, by assumption, by assumption, rfl, rfl, by simp, gs, rfl⟩ ?_
   rintro ⟨j, d2⟩ A2 W2 ⟨q0, qc, q1, q2, q6, q7, rfl, qi, qs, qt⟩ _
   simp only at q7 qi qs qt
   by_cases haj : a < j
   ·obtain ⟨j, rfl⟩ : ∃ j', j = j' + 1 := ⟨j - 1, by omega⟩
    rw [insInner] at qt
    have haj' : j + 1 > a := haj
    simp (maxSteps:=9^9) (disch:=omega) only [BZ, guard_if, ↓reduceIte, nE, reduceCtorEq, ed_frz, List.nil_append, apn, q0, qc, q1, q7, cgt, haj', dT, wsub1, Nat.add_sub_cancel, ix, ld]
    refine (less_c hP _ _ _).mono ?_
    rintro X W' ⟨rfl, rfl⟩
    by_cases hlt : d2[j + 1]! < d2[j]!
    ·rw [if_pos (by simp [ltE, hlt]; omega)] at qt
     simp (disch := (try simp only [sz_set]) <;> omega) only [BS, e_seq, cond_if, guard_if, ↓reduceIte, nE, reduceCtorEq, cmp_lt, undef_t, hlt, dT, q0, qc, q1, q2, q6, q7, wsub1, Nat.add_sub_cancel, ix, ld, st, sw]
     exact ⟨(j, swp d2 (j + 1) j), ⟨tt, tt, tt, tt, tt, rfl, rfl, by simp; omega, by simp [swp, qs], qt⟩, by simp, lr _⟩
    ·rw [if_neg (by simp [ltE, hlt])] at qt
     simp (maxSteps:=9^9) (disch:=omega) only [BS, BC, cond_if, guard_if, ↓reduceIte, nE, reduceCtorEq, cmp_lt, hlt, dF, q0, qc, q1, q2, q6]
     exact ⟨tt, tt, tt, tt, tt, tt, by rw [qt]⟩
   ·have hc : ¬ j > a := haj
    simp (maxSteps:=9^9) (disch:=omega) only [BX, guard_if, ↓reduceIte, nE, reduceCtorEq, undef_t, q0, qc, q1, q2, q6, q7, cgt, hc, dF]
    refine ⟨tt, tt, tt, tt, tt, tt, ?_⟩
    rw [← qt]
    cases j with
    | zero => rfl
    | succ m => rw [insInner, if_neg (by simp; omega)]
 ·rw [if_neg hib] at gt
  simp only [BX, ↓reduceIte, nE, g2, g6, clt, hib, dF]
  exact ⟨_, rfl, _, _, .weak weak_id, lr _, rfl, by rw [← gt]⟩
def c_e86 : AC := (.r [.v 8 (.bool false)] (.r [.m 13 1,.a 14 (.bin .add) 13 1,.m 9 14] (.seq (.r [.v 10 (.int .i64 0)] (.block 0 (.loop (.seq (.r [.m 15 10,.a 16 (.bin .lss) 15 5] (.w 16 0)) (.seq (.block 1 (.seq (.block 2 (.loop (.seq (.seq (.par (.step 0 (.m 19 9) (.step 1 (.m 20 2) (.step 2 (.b 21 (.bin .lss) 19 20) (.step 3 (.m 22 21) (.step 4 (.M 23 3 22 true) (.step 5 (.M 24 0 22 true) (.step 6 (.M 25 9 22 true) (.step 9 (.M 28 0 22 true) (.step 10 (.M 29 9 22 true) (.step 11 (.P 30 (.bin .sub) [.t 29,.i 1] 22 true) (.step 7 (.B 26 (.idxp 3) 24 25 22 true) (.step 8 (.U 27 (.load true 3) 26 22 true) (.step 12 (.B 31 (.idxp 3) 28 30 22 true) (.step 13 (.U 32 (.load true 3) 31 22 true) (.step 14 (.P 33 .callv [.t 23,.t 27,.t 32] 22 true) (.step 15 (.P 34 (.bin .lss) [.t 33,.i 0] 22 true) (.step 16 (.U 35 (.un .not) 34 22 true) (.step 17 (.p 36 .pick [.t 22,.t 35,.F]) .done))))))))))))))))))) (.w 36 2)) (.block 3 (.reg [.m 37 9,.a 38 (.bin .add) 37 1,.m 9 38]))))) (.seq (.r [.m 39 9,.m 40 2,.b 41 (.bin .eql) 39 40] (.cond (.t 41) (.r [.v 8 (.bool true)] .ret) .skip)) (.seq (.r [.m 42 2,.m 43 1,.b 44 (.bin .sub) 42 43,.a 45 (.bin .lss) 44 50] (.cond (.t 45) (.r [.v 8 (.bool false)] .ret) .skip)) (.seq (.par (.step 0 (.m 46 0) (.step 1 (.m 47 9) (.step 2 (.m 48 0) (.step 3 (.m 49 9) (.step 4 (.a 50 (.bin .sub) 49 1) (.step 5 (.m 51 0) (.step 6 (.m 52 9) (.step 7 (.a 53 (.bin .sub) 52 1) (.step 10 (.m 56 0) (.step 11 (.m 57 9) (.step 8 (.b 54 (.idxp 3) 51 53) (.step 9 (.u 55 (.load true 3) 54) (.step 12 (.b 58 (.idxp 3) 56 57) (.step 13 (.u 59 (.load true 3) 58) (.step 14 (.b 60 (.idxp 3) 46 47) (.step 15 ⟨none,.store 3, [.t 60,.t 55], none⟩ (.step 16 (.b 61 (.idxp 3) 48 50) (.step 17 ⟨none,.store 3, [.t 61,.t 59], none⟩ .done))))))))))))))))))) (.seq (.r [.m 62 9,.m 63 1,.b 64 (.bin .sub) 62 63,.a 65 (.bin .geq) 64 2] (.cond (.t 65) (.r [.m 66 9,.a 67 (.bin .sub) 66 1,.m 11 67] (.block 4 (.loop (.seq (.r [.m 68 11,.a 69 (.bin .geq) 68 1] (.w 69 4)) (.seq (.block 5 (.seq (.seq (.par (.step 0 (.m 72 3) (.step 1 (.m 73 0) (.step 2 (.m 74 11) (.step 5 (.m 77 0) (.step 6 (.m 78 11) (.step 7 (.a 79 (.bin .sub) 78 1) (.step 3 (.b 75 (.idxp 3) 73 74) (.step 4 (.u 76 (.load true 3) 75) (.step 8 (.b 80 (.idxp 3) 77 79) (.step 9 (.u 81 (.load true 3) 80) (.step 10 (.p 82 .callv [.t 72,.t 76,.t 81]) (.step 11 (.a 83 (.bin .lss) 82 0) (.step 12 (.u 84 (.un .not) 83) .done)))))))))))))) (.cond (.t 84) (.exit 4) .skip)) (.par (.step 0 (.m 85 0) (.step 1 (.m 86 11) (.step 2 (.m 87 0) (.step 3 (.m 88 11) (.step 4 (.a 89 (.bin .sub) 88 1) (.step 5 (.m 90 0) (.step 6 (.m 91 11) (.step 7 (.a 92 (.bin .sub) 91 1) (.step 10 (.m 95 0) (.step 11 (.m 96 11) (.step 8 (.b 93 (.idxp 3) 90 92) (.step 9 (.u 94 (.load true 3) 93) (.step 12 (.b 97 (.idxp 3) 95 96) (.step 13 (.u 98 (.load true 3) 97) (.step 14 (.b 99 (.idxp 3) 85 86) (.step 15 ⟨none,.store 3, [.t 99,.t 94], none⟩ (.step 16 (.b 100 (.idxp 3) 87 89) (.step 17 ⟨none,.store 3, [.t 100,.t 98], none⟩ .done))))))))))))))))))))) (.reg [.m 70 11,.a 71 (.bin .sub) 70 1,.m 11 71])))))) .skip)) (.r [.m 101 2,.m 102 9,.b 103 (.bin .sub) 101 102,.a 104 (.bin .geq) 103 2] (.cond (.t 104) (.r [.m 105 9,.a 106 (.bin .add) 105 1,.m 12 106] (.block 6 (.loop (.seq (.r [.m 107 12,.m 108 2,.b 109 (.bin .lss) 107 108] (.w 109 6)) (.seq (.block 7 (.seq (.seq (.par (.step 0 (.m 112 3) (.step 1 (.m 113 0) (.step 2 (.m 114 12) (.step 5 (.m 117 0) (.step 6 (.m 118 12) (.step 7 (.a 119 (.bin .sub) 118 1) (.step 3 (.b 115 (.idxp 3) 113 114) (.step 4 (.u 116 (.load true 3) 115) (.step 8 (.b 120 (.idxp 3) 117 119) (.step 9 (.u 121 (.load true 3) 120) (.step 10 (.p 122 .callv [.t 112,.t 116,.t 121]) (.step 11 (.a 123 (.bin .lss) 122 0) (.step 12 (.u 124 (.un .not) 123) .done)))))))))))))) (.cond (.t 124) (.exit 6) .skip)) (.par (.step 0 (.m 125 0) (.step 1 (.m 126 12) (.step 2 (.m 127 0) (.step 3 (.m 128 12) (.step 4 (.a 129 (.bin .sub) 128 1) (.step 5 (.m 130 0) (.step 6 (.m 131 12) (.step 7 (.a 132 (.bin .sub) 131 1) (.step 10 (.m 135 0) (.step 11 (.m 136 12) (.step 8 (.b 133 (.idxp 3) 130 132) (.step 9 (.u 134 (.load true 3) 133) (.step 12 (.b 137 (.idxp 3) 135 136) (.step 13 (.u 138 (.load true 3) 137) (.step 14 (.b 139 (.idxp 3) 125 126) (.step 15 ⟨none,.store 3, [.t 139,.t 134], none⟩ (.step 16 (.b 140 (.idxp 3) 127 129) (.step 17 ⟨none,.store 3, [.t 140,.t 138], none⟩ .done))))))))))))))))))))) (.reg [.m 110 12,.a 111 (.bin .add) 110 1,.m 12 111])))))) .skip)))))))) (.reg [.m 17 10,.a 18 (.bin .add) 17 1,.m 10 18])))))) (.r [.v 8 (.bool false)] .ret))))
theorem ok_e86e : compF Tryz.prog Tryz.f197 ⟨true, false, []⟩ = some (c_e86, [.tmp 8], 141) := by kernel_rfl
theorem shiftDown_size (lt : Ed → Ed → Bool) : ∀ (j : Nat) (d : Array Ed), (shiftDown lt j d).size = d.size
 | 0, d => rfl
 | j + 1, d => by
  rw [shiftDown]
  split
  ·rfl
  ·rw [shiftDown_size]; simp [swp]
theorem shiftUp_size (lt : Ed → Ed → Bool) (b : Nat) : ∀ (m j : Nat) (d : Array Ed), b - j ≤ m → (shiftUp lt b j d).size = d.size := by
 intro m
 induction m with
 | zero => intro j d h; rw [shiftUp, if_neg (by omega)]
 | succ m ih =>
  intro j d h
  rw [shiftUp]
  split
  ·split
   ·rfl
   ·rw [ih _ _ (by omega)]; simp [swp]
  ·rfl
theorem scanSorted_le (lt : Ed → Ed → Bool) (b : Nat) (d : Array Ed) : ∀ (m i : Nat), b - i ≤ m → i ≤ b → i ≤ scanSorted lt d b i ∧ scanSorted lt d b i ≤ b := by
 intro m
 induction m with
 | zero => intro i h hi; rw [scanSorted, if_neg (by simp; omega)]; omega
 | succ m ih =>
  intro i h hi
  rw [scanSorted]
  split
  ·rename_i h1
   have := ih (i + 1) (by omega) (by simp at h1; omega)
   omega
  ·omega
theorem partialIns_c (hP : PE E) (W : AW) (r n a b : Nat) (d : Array Ed) (hn : d.size = n) (hab : a < b) (hb : b ≤ n) (hsm : n < 2 ^ 48) :
  ACalls E 197 [.slr r 0 n 3, .int .i64 a, .int .i64 b, (.fn (.func 109) [] [])] (pv W r d) fun X W' => X = .bool (partialInsertionSort ltE d a b).2 ∧ W' = pv W r (partialInsertionSort ltE d a b).1 := by
 refine ACalls.of hP Tryz.func197 ok_e86e (by simp) fun _ _ => ?_
 simp (maxSteps:=9^9) (disch:=omega) only [c_e86, BZ, ↓reduceIte, nE, wadd1, e_loop]
 refine alp (fun (s : Nat × Nat × Array Ed) A1 W1 => A1 0 = some (.slr r 0 n 3) ∧ A1 3 = some (.fn (.func 109) [] []) ∧ A1 1 = some (.int .i64 a) ∧ A1 2 = some (.int .i64 b) ∧ A1 9 = some (.int .i64 s.2.1) ∧ A1 10 = some (.int .i64 s.1) ∧
  W1 = pv W r s.2.2 ∧ s.1 ≤ 5 ∧ a + 1 ≤ s.2.1 ∧ s.2.1 ≤ b ∧ s.2.2.size = n ∧ partialIns ltE a b (5 - s.1) s.2.1 s.2.2 = partialInsertionSort ltE d a b) (fun s => 5 - s.1) (0, a + 1, d)
  ⟨rfl, rfl, rfl, rfl, rfl, rfl, rfl, by simp, lr _, hab, hn, rfl⟩ ?_
 rintro ⟨k, i, d1⟩ A1 W1 ⟨g0, gc, g1, g2, g7, g8, rfl, gk, gi, gb, gs, gt⟩ _
 simp only at g7 g8 gk gi gb gs gt
 by_cases hk : k < 5
 ·rw [show 5 - k = (5 - (k + 1)) + 1 by omega, partialIns_succ] at gt
  simp only [BS, e_seq, cond_if, ↓reduceIte, g8, clt5, hk, dT]
  refine awp_mono _ (Q := fun e A' W' => e = .exit 2 ∧ A' 0 = some (.slr r 0 n 3) ∧ A' 3 = some (.fn (.func 109) [] []) ∧ A' 1 = some (.int .i64 a) ∧ A' 2 = some (.int .i64 b) ∧ A' 9 = some (.int .i64 ((scanSorted ltE d1 b i : Nat) : Int)) ∧ A' 10 = some (.int .i64 k) ∧ W' = pv W r d1) ?_ ?_
  rotate_left
  ·rw [e_loop]
   refine alp (fun (s : Nat) A2 W2 => A2 0 = some (.slr r 0 n 3) ∧ A2 3 = some (.fn (.func 109) [] []) ∧ A2 1 = some (.int .i64 a) ∧ A2 2 = some (.int .i64 b) ∧ A2 9 = some (.int .i64 s) ∧ A2 10 = some (.int .i64 k) ∧
    W2 = pv W r d1 ∧ i ≤ s ∧ s ≤ b ∧ scanSorted ltE d1 b s = scanSorted ltE d1 b i) (fun s => b - s) i
    ⟨by assumption, by assumption, by assumption, by assumption, by assumption, by assumption, rfl, lr _, gb, rfl⟩ ?_
   rintro s A2 W2 ⟨q0, qc, q1, q2, q7, q8, rfl, qi, qb, qt⟩ _
   rw [scanSorted] at qt
   by_cases h1 : s < b
   ·simp (maxSteps:=9^9) (disch:=omega) only [BZ, guard_if, ↓reduceIte, nE, reduceCtorEq, ed_frz, List.nil_append, apn, q0, qc, q2, q7, clt, h1, dT, wsub1, ix, ld]
    refine (less_c hP _ _ _).mono ?_
    rintro X W' ⟨rfl, rfl⟩
    by_cases h2 : d1[s]! < d1[s - 1]!
    ·rw [if_neg (by simp [h1, ltE, h2])] at qt
     simp (maxSteps:=9^9) (disch:=omega) only [BS, BC, cond_if, guard_if, ↓reduceIte, nE, reduceCtorEq, cmp_lt, q0, qc, q1, q2, q7, q8, h2, dT, Bool.not_true]
     exact ⟨tt, tt, tt, tt, tt, by rw [← qt], tt, tt⟩
    ·rw [if_pos (by simp [h1, ltE, h2])] at qt
     simp (maxSteps:=9^9) (disch:=omega) only [BS, cond_if, guard_if, ↓reduceIte, nE, reduceCtorEq, cmp_lt, q0, qc, q1, q2, q7, q8, h2, dF, Bool.not_false, wadd1]
     exact ⟨s + 1, ⟨tt, tt, tt, tt, rfl, tt, tt, by omega, by omega, qt⟩, by omega, lr _⟩
   ·rw [if_neg (by simp [h1])] at qt
    simp (maxSteps:=9^9) (disch:=omega) only [BX, guard_if, ↓reduceIte, nE, reduceCtorEq, undef_t, q0, qc, q1, q2, q7, q8, clt, h1, dF]
    exact ⟨tt, tt, tt, tt, tt, by rw [← qt], tt, tt⟩
  rintro e A2 W2 ⟨rfl, q0, qc, q1, q2, q7, q8, rfl⟩
  obtain ⟨ib, ie⟩ := scanSorted_le ltE b d1 _ i (lr _) gb
  obtain ⟨i2, hi2⟩ : ∃ i2, i2 = scanSorted ltE d1 b i := ⟨_, rfl⟩
  rw [← hi2] at q7 ib ie gt
  by_cases h3 : i2 = b
  ·rw [if_pos h3] at gt
   simp (maxSteps:=9^9) (disch:=omega) only [BX, ↓reduceIte, nE, q2, q7, ceq, h3, dT]
   exact ⟨_, rfl, _, _, .weak weak_id, lr _, by rw [← gt], by rw [← gt]⟩
  rw [if_neg h3] at gt
  by_cases h4 : b - a < 50
  ·rw [if_pos h4] at gt
   simp (maxSteps:=9^9) (disch:=omega) only [BX, ↓reduceIte, nE, q1, q2, q7, ceq, h3, dF, wsub, clt50, h4, dT]
   exact ⟨_, rfl, _, _, .weak weak_id, lr _, by rw [← gt], by rw [← gt]⟩
  rw [if_neg h4] at gt
  have hs2 : (swp d1 i2 (i2 - 1)).size = n := by simp [swp, gs]
  obtain ⟨d3, hd3⟩ : ∃ d3, d3 = fixDown ltE a i2 (swp d1 i2 (i2 - 1)) := ⟨_, rfl⟩
  rw [← hd3] at gt
  by_cases h5 : i2 - a ≥ 2
  ·have hd3' : d3 = shiftDown ltE (i2 - 1) (swp d1 i2 (i2 - 1)) := by rw [hd3, fixDown, if_pos h5]
   simp (disch := (try simp only [sz_set]) <;> omega) only [BX, ↓reduceIte, nE, reduceCtorEq, undef_t, q0, q1, q2, q7, ceq, h3, dF, wsub, wsub1, clt50, h4, cge2, h5, dT, ix, ld, st, sw]
   refine awp_mono _ (Q := fun e A' W' => e = .exit 4 ∧ A' 0 = some (.slr r 0 n 3) ∧ A' 3 = some (.fn (.func 109) [] []) ∧ A' 1 = some (.int .i64 a) ∧ A' 2 = some (.int .i64 b) ∧ A' 9 = some (.int .i64 i2) ∧ A' 10 = some (.int .i64 k) ∧ W' = pv W r d3) ?_ ?_
   rotate_left
   ·rw [e_loop]
    refine alp (fun (s : Nat × Array Ed) A5 W5 => A5 0 = some (.slr r 0 n 3) ∧ A5 3 = some (.fn (.func 109) [] []) ∧ A5 1 = some (.int .i64 a) ∧ A5 2 = some (.int .i64 b) ∧ A5 9 = some (.int .i64 i2) ∧ A5 10 = some (.int .i64 k) ∧ A5 11 = some (.int .i64 s.1) ∧
     W5 = pv W r s.2 ∧ s.1 < n ∧ s.2.size = n ∧ shiftDown ltE s.1 s.2 = d3) (fun s => s.1) (i2 - 1, swp d1 i2 (i2 - 1))
     ⟨by simp only [BS, ↓reduceIte, reduceCtorEq, q0], by simp only [BS, ↓reduceIte, nE, qc], by simp only [BS, ↓reduceIte, nE, q1], by simp only [BS, ↓reduceIte, nE, q2], by simp only [BS, ↓reduceIte, nE, q7], by simp only [BS, ↓reduceIte, nE, q8], rfl, rfl, by simp; omega, hs2, hd3'.symm⟩ ?_
    rintro ⟨j, d4⟩ A5 W5 ⟨w0, wc, w1, w2, w7, w8, w9, rfl, wj, ws, wt⟩ _
    simp only at w9 wj ws wt
    cases j with
    | zero =>
     have k1 : ¬ 0 ≥ 1 := by decide
     simp (maxSteps:=9^9) (disch:=omega) only [BX, ↓reduceIte, nE, reduceCtorEq, w0, wc, w1, w2, w7, w8, w9, cge1, k1, dF]
     exact ⟨tt, tt, tt, tt, tt, tt, tt, by rw [← wt]; rfl⟩
    | succ j =>
     have k1 : j + 1 ≥ 1 := by omega
     rw [shiftDown] at wt
     simp (maxSteps:=9^9) (disch:=omega) only [BX, ↓reduceIte, nE, reduceCtorEq, ed_frz, List.nil_append, apn, w0, wc, w9, cge1, k1, dT, wsub1, Nat.add_sub_cancel, ix, ld]
     refine (less_c hP _ _ _).mono ?_
     rintro X W' ⟨rfl, rfl⟩
     by_cases k2 : d4[j + 1]! < d4[j]!
     ·rw [if_neg (by simp [ltE, k2])] at wt
      simp (disch := (try simp only [sz_set]) <;> omega) only [BS, BC, cond_if, ↓reduceIte, nE, reduceCtorEq, cmp_lt, undef_t, w0, wc, w1, w2, w7, w8, w9, k2, dT, Bool.not_true, wsub1, Nat.add_sub_cancel, ix, ld, st, sw]
      exact ⟨(j, swp d4 (j + 1) j), ⟨tt, tt, tt, tt, tt, tt, rfl, rfl, by simp; omega, by simp [swp, ws], wt⟩, by simp, lr _⟩
     ·rw [if_pos (by simp [ltE, k2])] at wt
      simp (maxSteps:=9^9) (disch:=omega) only [BS, cond_if, ↓reduceIte, nE, reduceCtorEq, cmp_lt, w0, wc, w1, w2, w7, w8, k2, dF, Bool.not_false]
      exact ⟨tt, tt, tt, tt, tt, tt, tt, by rw [wt]⟩
   rintro e A3 W3 ⟨rfl, q0, qc, q1, q2, q7, q8, rfl⟩
   have hs3 : d3.size = n := by rw [hd3]; unfold fixDown; split <;> simp [shiftDown_size, swp, gs]
   by_cases h6 : b - i2 ≥ 2
   ·simp (disch := (try simp only [sz_set]) <;> omega) only [BS, e_seq, cond_if, ↓reduceIte, nE, q2, q7, wsub, wadd1, cge2, h6, dT]
    refine awp_mono _ (Q := fun e A' W' => e = .exit 6 ∧ A' 0 = some (.slr r 0 n 3) ∧ A' 3 = some (.fn (.func 109) [] []) ∧ A' 1 = some (.int .i64 a) ∧ A' 2 = some (.int .i64 b) ∧ A' 9 = some (.int .i64 i2) ∧ A' 10 = some (.int .i64 k) ∧ W' = pv W r (shiftUp ltE b (i2 + 1) d3)) ?_ ?_
    ·rintro e A4 W4 ⟨rfl, u0, uc, u1, u2, u7, u8, rfl⟩
     simp (maxSteps:=9^9) (disch:=omega) only [BS, ↓reduceIte, nE, reduceCtorEq, u0, uc, u1, u2, u7, u8, wadd1]
     refine ⟨(k + 1, i2, shiftUp ltE b (i2 + 1) d3), ⟨tt, tt, tt, tt, rfl, rfl, rfl, by simp; omega, by simp; omega, ie, by rw [shiftUp_size _ _ _ _ _ (lr _), hs3], ?_⟩, by simp; omega, lr _⟩
     rw [← gt, fixUp, if_pos h6]
    ·rw [e_loop]
     refine alp (fun (s : Nat × Array Ed) A5 W5 => A5 0 = some (.slr r 0 n 3) ∧ A5 3 = some (.fn (.func 109) [] []) ∧ A5 1 = some (.int .i64 a) ∧ A5 2 = some (.int .i64 b) ∧ A5 9 = some (.int .i64 i2) ∧ A5 10 = some (.int .i64 k) ∧ A5 12 = some (.int .i64 s.1) ∧
      W5 = pv W r s.2 ∧ 1 ≤ s.1 ∧ s.2.size = n ∧ shiftUp ltE b s.1 s.2 = shiftUp ltE b (i2 + 1) d3) (fun s => b - s.1) (i2 + 1, d3)
      ⟨by simp only [BS, ↓reduceIte, reduceCtorEq, q0], by simp only [BS, ↓reduceIte, nE, qc], by simp only [BS, ↓reduceIte, nE, q1], by simp only [BS, ↓reduceIte, nE, q2], by simp only [BS, ↓reduceIte, nE, q7], by simp only [BS, ↓reduceIte, nE, q8], rfl, rfl, by simp, hs3, rfl⟩ ?_
     rintro ⟨j, d4⟩ A5 W5 ⟨w0, wc, w1, w2, w7, w8, w10, rfl, wj, ws, wt⟩ _
     simp only at w10 wj ws wt
     rw [shiftUp] at wt
     by_cases k1 : j < b
     ·rw [if_pos k1] at wt
      simp (maxSteps:=9^9) (disch:=omega) only [BX, ↓reduceIte, nE, reduceCtorEq, ed_frz, List.nil_append, apn, w0, wc, w2, w10, clt, k1, dT, wsub1, ix, ld]
      refine (less_c hP _ _ _).mono ?_
      rintro X W' ⟨rfl, rfl⟩
      by_cases k2 : d4[j]! < d4[j - 1]!
      ·rw [if_neg (by simp [ltE, k2])] at wt
       simp (disch := (try simp only [sz_set]) <;> omega) only [BS, BC, cond_if, ↓reduceIte, nE, reduceCtorEq, cmp_lt, undef_t, w0, wc, w1, w2, w7, w8, w10, k2, dT, Bool.not_true, wadd1, wsub1, ix, ld, st, sw]
       exact ⟨(j + 1, swp d4 j (j - 1)), ⟨tt, tt, tt, tt, tt, tt, rfl, rfl, by simp, by simp [swp, ws], wt⟩, by simp; omega, lr _⟩
      ·rw [if_pos (by simp [ltE, k2])] at wt
       simp (maxSteps:=9^9) (disch:=omega) only [BS, cond_if, ↓reduceIte, nE, reduceCtorEq, cmp_lt, w0, wc, w1, w2, w7, w8, k2, dF, Bool.not_false]
       exact ⟨tt, tt, tt, tt, tt, tt, tt, by rw [wt]⟩
     ·rw [if_neg k1] at wt
      simp (maxSteps:=9^9) (disch:=omega) only [BX, ↓reduceIte, nE, reduceCtorEq, w0, wc, w1, w2, w7, w8, w10, clt, k1, dF]
      exact ⟨tt, tt, tt, tt, tt, tt, tt, by rw [wt]⟩
   ·simp (disch := (try simp only [sz_set]) <;> omega) only [BX, ↓reduceIte, nE, reduceCtorEq, q0, qc, q1, q2, q7, q8, dF, wsub, wadd1, cge2, h6]
    refine ⟨(k + 1, i2, d3), ⟨tt, tt, tt, tt, rfl, rfl, rfl, by simp; omega, by simp; omega, ie, hs3, ?_⟩, by simp; omega, lr _⟩
    rw [← gt, fixUp, if_neg h6]
  ·have hd3' : d3 = swp d1 i2 (i2 - 1) := by rw [hd3, fixDown, if_neg h5]
   have hs3 : d3.size = n := by rw [hd3]; unfold fixDown; split <;> simp [shiftDown_size, swp, gs]
   by_cases h6 : b - i2 ≥ 2
   ·simp (disch := (try simp only [sz_set]) <;> omega) only [BX, ↓reduceIte, nE, reduceCtorEq, undef_t, q0, q1, q2, q7, ceq, h3, dF, wsub, wsub1, wadd1, clt50, h4, cge2, h5, h6, dT, ix, ld, st, sw, ← hd3']
    refine awp_mono _ (Q := fun e A' W' => e = .exit 6 ∧ A' 0 = some (.slr r 0 n 3) ∧ A' 3 = some (.fn (.func 109) [] []) ∧ A' 1 = some (.int .i64 a) ∧ A' 2 = some (.int .i64 b) ∧ A' 9 = some (.int .i64 i2) ∧ A' 10 = some (.int .i64 k) ∧ W' = pv W r (shiftUp ltE b (i2 + 1) d3)) ?_ ?_
    ·rintro e A4 W4 ⟨rfl, u0, uc, u1, u2, u7, u8, rfl⟩
     simp (maxSteps:=9^9) (disch:=omega) only [BS, ↓reduceIte, nE, reduceCtorEq, u0, uc, u1, u2, u7, u8, wadd1]
     refine ⟨(k + 1, i2, shiftUp ltE b (i2 + 1) d3), ⟨tt, tt, tt, tt, rfl, rfl, rfl, by simp; omega, by simp; omega, ie, by rw [shiftUp_size _ _ _ _ _ (lr _), hs3], ?_⟩, by simp; omega, lr _⟩
     rw [← gt, fixUp, if_pos h6]
    ·rw [e_loop]
     refine alp (fun (s : Nat × Array Ed) A5 W5 => A5 0 = some (.slr r 0 n 3) ∧ A5 3 = some (.fn (.func 109) [] []) ∧ A5 1 = some (.int .i64 a) ∧ A5 2 = some (.int .i64 b) ∧ A5 9 = some (.int .i64 i2) ∧ A5 10 = some (.int .i64 k) ∧ A5 12 = some (.int .i64 s.1) ∧
      W5 = pv W r s.2 ∧ 1 ≤ s.1 ∧ s.2.size = n ∧ shiftUp ltE b s.1 s.2 = shiftUp ltE b (i2 + 1) d3) (fun s => b - s.1) (i2 + 1, d3)
      ⟨by simp only [BS, ↓reduceIte, reduceCtorEq, q0], by simp only [BS, ↓reduceIte, nE, qc], by simp only [BS, ↓reduceIte, nE, q1], by simp only [BS, ↓reduceIte, nE, q2], by simp only [BS, ↓reduceIte, nE, q7], by simp only [BS, ↓reduceIte, nE, q8], rfl, rfl, by simp, hs3, rfl⟩ ?_
     rintro ⟨j, d4⟩ A5 W5 ⟨w0, wc, w1, w2, w7, w8, w10, rfl, wj, ws, wt⟩ _
     simp only at w10 wj ws wt
     rw [shiftUp] at wt
     by_cases k1 : j < b
     ·rw [if_pos k1] at wt
      simp (maxSteps:=9^9) (disch:=omega) only [BX, ↓reduceIte, nE, reduceCtorEq, ed_frz, List.nil_append, apn, w0, wc, w2, w10, clt, k1, dT, wsub1, ix, ld]
      refine (less_c hP _ _ _).mono ?_
      rintro X W' ⟨rfl, rfl⟩
      by_cases k2 : d4[j]! < d4[j - 1]!
      ·rw [if_neg (by simp [ltE, k2])] at wt
       simp (disch := (try simp only [sz_set]) <;> omega) only [BS, BC, cond_if, ↓reduceIte, nE, reduceCtorEq, cmp_lt, undef_t, w0, wc, w1, w2, w7, w8, w10, k2, dT, Bool.not_true, wadd1, wsub1, ix, ld, st, sw]
       exact ⟨(j + 1, swp d4 j (j - 1)), ⟨tt, tt, tt, tt, tt, tt, rfl, rfl, by simp, by simp [swp, ws], wt⟩, by simp; omega, lr _⟩
      ·rw [if_pos (by simp [ltE, k2])] at wt
       simp (maxSteps:=9^9) (disch:=omega) only [BS, cond_if, ↓reduceIte, nE, reduceCtorEq, cmp_lt, w0, wc, w1, w2, w7, w8, k2, dF, Bool.not_false]
       exact ⟨tt, tt, tt, tt, tt, tt, tt, by rw [wt]⟩
     ·rw [if_neg k1] at wt
      simp (maxSteps:=9^9) (disch:=omega) only [BX, ↓reduceIte, nE, reduceCtorEq, w0, wc, w1, w2, w7, w8, w10, clt, k1, dF]
      exact ⟨tt, tt, tt, tt, tt, tt, tt, by rw [wt]⟩
   ·simp (disch := (try simp only [sz_set]) <;> omega) only [BX, ↓reduceIte, nE, reduceCtorEq, undef_t, q0, qc, q1, q2, q7, q8, ceq, h3, dF, wsub, wsub1, wadd1, clt50, h4, cge2, h5, h6, ix, ld, st, sw, ← hd3']
    refine ⟨(k + 1, i2, d3), ⟨tt, tt, tt, tt, rfl, rfl, rfl, by simp; omega, by simp; omega, ie, hs3, ?_⟩, by simp; omega, lr _⟩
    rw [← gt, fixUp, if_neg h6]
 ·have : 5 - k = 0 := by omega
  rw [this] at gt
  simp only [BX, ↓reduceIte, g8, clt5, hk, dF]
  exact ⟨_, rfl, _, _, .weak weak_id, lr _, by rw [← gt]; rfl, by rw [← gt]; rfl⟩
def c_e83 : AC := (.r [.m 13 2,.m 14 1,.b 15 (.bin .sub) 13 14,.m 8 15] (.r [.m 16 8,.a 17 (.bin .geq) 16 8] (.cond (.t 17) (.r [.m 18 8,.u 19 (.conv .u64) 18,.p 9 (.alloc [.int .u64 0]) [],⟨none,.store 1, [.t 9,.t 19], none⟩] (.r [.m 20 8,.u 21 (.call 188) 20,.m 10 21] (.r [.m 22 1,.m 23 8,.a 24 (.bin .quo) 23 4,.a 25 (.bin .mul) 24 2,.b 26 (.bin .add) 22 25,.a 27 (.bin .sub) 26 1,.m 11 27] (.block 0 (.loop (.seq (.r [.m 28 11,.m 29 1,.m 30 8,.a 31 (.bin .quo) 30 4,.a 32 (.bin .mul) 31 2,.b 33 (.bin .add) 29 32,.a 34 (.bin .add) 33 1,.b 35 (.bin .leq) 28 34] (.w 35 0)) (.seq (.block 1 (.r [.u 38 (.call 189) 9,.m 39 10,.p 40 (.bin .sub) [.t 39,.c (.int .u64 1)],.b 41 (.bin .and) 38 40,.u 42 (.conv .i64) 41,.m 12 42] (.seq (.r [.m 43 12,.m 44 8,.b 45 (.bin .geq) 43 44] (.cond (.t 45) (.reg [.m 46 12,.m 47 8,.b 48 (.bin .sub) 46 47,.m 12 48]) .skip)) (.par (.step 0 (.m 49 0) (.step 1 (.m 50 11) (.step 2 (.m 51 0) (.step 3 (.m 52 1) (.step 4 (.m 53 12) (.step 5 (.b 54 (.bin .add) 52 53) (.step 6 (.m 55 0) (.step 7 (.m 56 1) (.step 8 (.m 57 12) (.step 9 (.b 58 (.bin .add) 56 57) (.step 12 (.m 61 0) (.step 13 (.m 62 11) (.step 10 (.b 59 (.idxp 3) 55 58) (.step 11 (.u 60 (.load true 3) 59) (.step 14 (.b 63 (.idxp 3) 61 62) (.step 15 (.u 64 (.load true 3) 63) (.step 16 (.b 65 (.idxp 3) 49 50) (.step 17 ⟨none,.store 3, [.t 65,.t 60], none⟩ (.step 18 (.b 66 (.idxp 3) 51 54) (.step 19 ⟨none,.store 3, [.t 66,.t 64], none⟩ .done)))))))))))))))))))))))) (.reg [.m 36 11,.a 37 (.bin .add) 36 1,.m 11 37])))))))) .skip)))
theorem ok_e83e : compF Tryz.prog Tryz.f194 ⟨true, false, []⟩ = some (c_e83, [], 67) := by kernel_rfl
def pb (W : AW) (r p : Nat) (d : Array Ed) (x : UInt64) : AW := px (pv W r d) p x
theorem ldb {W : AW} {K : V → AW → Prop} {r p i : Nat} {d : Array Ed} {x : UInt64} (hp : r ≠ p) (h : i < d.size) : sem E (.load true 3) [.vptr r (i * 3)] (pb W r p d x) K = K d[i]!.V (pb W r p d x) :=
 sem_load_vec (s' := 3) (cells := cellsE d) (by simp [pb, px, pv, AW.put, hp]) (part_cellsE h)
theorem stb {W : AW} {K : V → AW → Prop} {r p i : Nat} {d : Array Ed} {x : UInt64} {v : Ed} (hp : r ≠ p) (h : i < d.size) : sem E (.store 3) [.vptr r (i * 3), v.V] (pb W r p d x) K = K .undef (pb W r p (d.setIfInBounds i v) x) := by
 have hg : (pb W r p d x).get r = some (.vec 3 (cellsE d)) := by simp [pb, px, pv, AW.put, hp]
 rw [sem_store_vec (s := 3) (x := v.V) hg rfl rfl (by rw [cellsE_len]; omega)]
 congr 1
 have h1 : i < d.toList.length := by simpa using h
 have e : (cellsE d).take (i * 3) ++ v.V.cells ++ (cellsE d).drop (i * 3 + 3) = cellsE (d.setIfInBounds i v) := by
  rw [cellsE, cellsE, Array.toList_setIfInBounds]
  exact cellsL_set h1
 rw [e]
 simp only [pb, px, pv, AW.put, AW.mk.injEq, and_true]
 funext z
 by_cases h1 : z = r
 ·subst h1; simp [hp]
 ·by_cases h2 : z = p
  ·subst h2; simp [h1]
  ·simp [h1, h2]
theorem bel_cE : ∀ (l : List Ed) (n : Nat), V.belL n (cellsL l) = true
 | [], _ => rfl
 | e :: l, n => by
  have := bel_cE l n
  simp only [cellsL, List.flatMap_cons, cE, List.cons_append, List.nil_append, V.belL, V.bel, Bool.true_and] at this ⊢
  exact this
def bsteps (a l m : Nat) : Nat → Nat → UInt64 × Array Ed → UInt64 × Array Ed
 | 0, _, st => st
 | k + 1, idx, st => bsteps a l m k (idx + 1) (breakStep a l m st idx)
theorem breakPatterns_eq (d : Array Ed) (a b : Nat) (h : b - a ≥ 8) : breakPatterns d a b = (bsteps a (b - a) (1 <<< bitsLen (b - a)) 3 (a + (b - a) / 4 * 2 - 1) (UInt64.ofNat (b - a), d)).2 := by
 simp only [breakPatterns, h, ↓reduceIte, bsteps]
theorem pv_ok {W : AW} {r : Nat} {d d' : Array Ed} (h : (pv W r d).ok) (hr : r < W.nx) : (pv W r d').ok := by
 intro x o hx
 by_cases e : x = r
 ·subst e
  rw [pv_get] at hx
  cases hx
  refine ⟨hr, ?_⟩
  exact bel_cE _ _
 ·have : (pv W r d).get x = some o := by
   simp only [pv, AW.put, e, ↓reduceIte] at hx ⊢
   exact hx
  exact h x o this
theorem breakPatterns_c (hP : PE E) (W : AW) (r n a b : Nat) (d : Array Ed) (hn : d.size = n) (hr : r < W.nx) (hab : a < b) (hb : b ≤ n) (hl : 8 ≤ b - a) (hsm : n < 4294967296) :
  ACalls E 194 [.slr r 0 n 3, .int .i64 a, .int .i64 b, (.fn (.func 109) [] [])] (pv W r d) fun X W' => X = .tuple [] ∧ W' = pv W r (breakPatterns d a b) := by
 refine ACalls.of hP Tryz.func194 ok_e83e (by simp) fun _ hok => ?_
 rw [breakPatterns_eq d a b hl]
 obtain ⟨l, hl'⟩ : ∃ l, l = b - a := ⟨_, rfl⟩
 rw [← hl']
 have hg8 : l ≥ 8 := by omega
 have hlm := lt_two_pow_bitsLen l
 have hlm2 := two_pow_bitsLen_le (n := l) (by omega)
 obtain ⟨m, hm⟩ : ∃ m, m = 1 <<< bitsLen l := ⟨_, rfl⟩
 have hm' : m = 2 ^ bitsLen l := by rw [hm, Nat.shiftLeft_eq, Nat.one_mul]
 rw [← hm'] at hlm hlm2
 rw [← hm]
 obtain ⟨W1, hW1⟩ : ∃ W1, W1 = W.alloc (.row [.int .u64 0]) := ⟨_, rfl⟩
 have hp : r ≠ W.nx := by omega
 have hA0 : (pv W r d).alloc (.row [.int .u64 0]) = px (pv W1 r d) W.nx 0 := by
  rw [hW1]
  simp only [px, pv, AW.alloc, AW.put, AW.mk.injEq, and_true]
  funext x
  by_cases h : x = W.nx
  ·subst h; simp
  ·by_cases h2 : x = r <;> simp [h, h2]
 have hst : ∀ K : V → AW → Prop, sem E (.store 1) [.ptr W.nx 0, .int .u64 (l : Int)] (px (pv W1 r d) W.nx 0) K = K .undef (pb W1 r W.nx d (UInt64.ofNat l)) := by
  intro K
  have := stx (E := E) (K := K) (A := pv W1 r d) (p := W.nx) (x := 0) (y := UInt64.ofNat l)
  rwa [ofNat_u64 (by omega)] at this
 have hback : ∀ d' x z, z < (pv W r d').nx → (pb W1 r W.nx d' x).get z = (pv W r d').get z := by
  intro d' x z hz
  rw [pv_nx] at hz
  rw [hW1]
  have h1 : z ≠ W.nx := by omega
  by_cases h2 : z = r <;> simp [pb, px, pv, AW.alloc, AW.put, h1, h2, hp]
 simp (maxSteps:=9^9) (disch:=omega) only [c_e83, BX, ↓reduceIte, nE, undef_t, wsub, ← hl', cge8, hg8, dT, un, pv_nx, hA0, hst]
 refine (nextPow_c hP _ l (by omega)).mono ?_
 rintro X W' ⟨rfl, rfl⟩
 rw [← hm]
 obtain ⟨i0, hi0⟩ : ∃ i0, i0 = a + l / 4 * 2 - 1 := ⟨_, rfl⟩
 simp (maxSteps:=9^9) (disch:=omega) only [BZ, ↓reduceIte, nE, quo4, wmulr2, wadd, wsub1, ← hi0]
 rw [e_loop]
 refine alp (fun (s : Nat × UInt64 × Array Ed) A1 W2 => A1 0 = some (.slr r 0 n 3) ∧ A1 3 = some (.fn (.func 109) [] []) ∧ A1 1 = some (.int .i64 a) ∧ A1 8 = some (.int .i64 l) ∧ A1 9 = some (.ptr W.nx 0) ∧ A1 10 = some (.int .u64 m) ∧ A1 11 = some (.int .i64 ((i0 + s.1 : Nat) : Int)) ∧
  W2 = pb W1 r W.nx s.2.2 s.2.1 ∧ s.1 ≤ 3 ∧ s.2.2.size = n ∧ bsteps a l m (3 - s.1) (i0 + s.1) s.2 = bsteps a l m 3 i0 (UInt64.ofNat l, d)) (fun s => 3 - s.1) (0, UInt64.ofNat l, d)
  ⟨rfl, rfl, rfl, rfl, rfl, rfl, rfl, rfl, by simp, hn, rfl⟩ ?_
 rintro ⟨t, x, d1⟩ A1 W2 ⟨g0, gc, g1, g6, g7, g8, g9, rfl, gt, gs, gb⟩ _
 simp only at g9 gt gs gb
 by_cases ht : t < 3
 ·have hc : i0 + t ≤ a + l / 4 * 2 + 1 := by omega
  rw [show 3 - t = (3 - (t + 1)) + 1 by omega, bsteps] at gb
  simp (maxSteps:=9^9) (disch:=omega) only [BX, ↓reduceIte, nE, g1, g6, g7, g9, quo4, wmulr2, wadd, wadd1, cle, hc, dT]
  refine (next_c hP _ _ x).mono ?_
  rintro X W' ⟨rfl, rfl⟩
  obtain ⟨x', hx'⟩ : ∃ x', x' = xorNext x := ⟨_, rfl⟩
  obtain ⟨o, ho⟩ : ∃ o, o = x'.toNat &&& (m - 1) := ⟨_, rfl⟩
  have hol : o ≤ m - 1 := by rw [ho]; exact Nat.and_le_right
  rw [← hx']
  have hbs : breakStep a l m (x, d1) (i0 + t) = (x', swp d1 (i0 + t) (a + (if o ≥ l then o - l else o))) := by
   simp only [breakStep, ← hx', ← ho]
  rw [hbs] at gb
  have hpb : ∀ (d : Array Ed) (y : UInt64), px (pv W1 r d) W.nx y = pb W1 r W.nx d y := fun _ _ => rfl
  by_cases h1 : o ≥ l
  ·rw [if_pos h1] at gb
   simp (disch := (try simp only [sz_set]) <;> omega) only [BS, e_seq, cond_if, ↓reduceIte, nE, reduceCtorEq, undef_t, g0, gc, g1, g6, g7, g8, g9, usub1, andx, ← ho, wn, cge, h1, dT, wsub, wadd, wadd1, ix, hpb, ldb, stb, sw]
   exact ⟨(t + 1, x', swp d1 (i0 + t) (a + (o - l))), ⟨tt, tt, tt, tt, tt, tt, rfl, rfl, by simp; omega, by simp [swp, gs], gb⟩, by simp; omega, lr _⟩
  ·rw [if_neg h1] at gb
   simp (disch := (try simp only [sz_set]) <;> omega) only [BX, ↓reduceIte, nE, reduceCtorEq, undef_t, g0, gc, g1, g6, g7, g8, g9, usub1, andx, ← ho, wn, cge, h1, dF, wadd, wadd1, ix, hpb, ldb, stb, sw]
   exact ⟨(t + 1, x', swp d1 (i0 + t) (a + o)), ⟨tt, tt, tt, tt, tt, tt, rfl, rfl, by simp; omega, by simp [swp, gs], gb⟩, by simp; omega, lr _⟩
 ·have hc : ¬ i0 + t ≤ a + l / 4 * 2 + 1 := by omega
  have h3 : 3 - t = 0 := by omega
  rw [h3, bsteps] at gb
  simp (maxSteps:=9^9) (disch:=omega) only [BX, ↓reduceIte, nE, g1, g6, g9, quo4, wmulr2, wadd, wadd1, cle, hc, dF]
  exact ⟨_, rfl, _, _, .weak (weak_back (W := pv W r d1) (pv_ok hok hr) rfl (hback _ _)), lr _, rfl, by rw [← gb]⟩
def c_e54 : AC := (.r [.v 10 (.bool true)] (.r [.v 11 (.bool true)] (.block 0 (.loop (.block 1 (.r [.m 21 2,.m 22 1,.b 23 (.bin .sub) 21 22,.m 12 23] (.seq (.r [.m 24 12,.a 25 (.bin .leq) 24 12] (.cond (.t 25) (.r [.m 26 0,.m 27 1,.m 28 2,.m 29 4,.p 30 (.call 192) [.t 26,.t 27,.t 28,.t 29]] .ret) .skip)) (.seq (.r [.m 31 3,.a 32 (.bin .eql) 31 0] (.cond (.t 32) (.r [.m 33 0,.m 34 1,.m 35 2,.m 36 4,.p 37 (.call 193) [.t 33,.t 34,.t 35,.t 36]] .ret) .skip)) (.seq (.r [.m 38 10,.u 39 (.un .not) 38] (.cond (.t 39) (.r [.m 40 0,.m 41 1,.m 42 2,.m 43 4,.p 44 (.call 194) [.t 40,.t 41,.t 42,.t 43]] (.reg [.m 45 3,.a 46 (.bin .sub) 45 1,.m 3 46])) .skip)) (.r [.m 48 0,.m 49 1,.m 50 2,.m 51 4,.p 52 (.call 195) [.t 48,.t 49,.t 50,.t 51],.m 47 52,.u 53 (.ext 0) 47,.u 54 (.ext 1) 47,.m 13 53,.m 14 54] (.seq (.r [.m 55 14,.a 56 (.bin .eql) 55 2] (.cond (.t 56) (.r [.m 57 0,.m 58 1,.m 59 2,.m 60 4,.p 61 (.call 196) [.t 57,.t 58,.t 59,.t 60]] (.r [.m 62 2,.a 63 (.bin .sub) 62 1,.m 64 13,.m 65 1,.b 66 (.bin .sub) 64 65,.b 67 (.bin .sub) 63 66,.m 13 67] (.reg [.v 14 (.int .i64 1)]))) .skip)) (.seq (.r [.m 68 10,.m 69 68,.M 70 11 69 true,.p 71 .pick [.t 69,.t 70,.F],.m 72 71,.M 73 14 72 true,.P 74 (.bin .eql) [.t 73,.i 1] 72 true,.p 75 .pick [.t 72,.t 74,.F]] (.cond (.t 75) (.r [.m 76 0,.m 77 1,.m 78 2,.m 79 4,.p 80 (.call 197) [.t 76,.t 77,.t 78,.t 79]] (.cond (.t 80) .ret .skip)) .skip)) (.seq (.seq (.par (.step 0 (.m 81 1) (.step 1 (.a 82 (.bin .gtr) 81 0) (.step 2 (.m 83 82) (.step 3 (.M 84 4 83 true) (.step 4 (.M 85 0 83 true) (.step 5 (.M 86 1 83 true) (.step 6 (.P 87 (.bin .sub) [.t 86,.i 1] 83 true) (.step 9 (.M 90 0 83 true) (.step 10 (.M 91 13 83 true) (.step 7 (.B 88 (.idxp 3) 85 87 83 true) (.step 8 (.U 89 (.load true 3) 88 83 true) (.step 11 (.B 92 (.idxp 3) 90 91 83 true) (.step 12 (.U 93 (.load true 3) 92 83 true) (.step 13 (.P 94 .callv [.t 84,.t 89,.t 93] 83 true) (.step 14 (.P 95 (.bin .lss) [.t 94,.i 0] 83 true) (.step 15 (.U 96 (.un .not) 95 83 true) (.step 16 (.p 97 .pick [.t 83,.t 96,.F]) .done)))))))))))))))))) (.cond (.t 97) (.r [.m 98 0,.m 99 1,.m 100 2,.m 101 13,.m 102 4,.p 103 (.call 198) [.t 98,.t 99,.t 100,.t 101,.t 102],.m 15 103] (.r [.m 104 15,.m 1 104] (.exit 1))) .skip)) (.r [.m 106 0,.m 107 1,.m 108 2,.m 109 13,.m 110 4,.p 111 (.call 199) [.t 106,.t 107,.t 108,.t 109,.t 110],.m 105 111,.u 112 (.ext 0) 105,.u 113 (.ext 1) 105,.m 16 112,.m 17 113] (.r [.m 114 17,.m 11 114] (.r [.m 115 16,.m 116 1,.b 117 (.bin .sub) 115 116,.m 118 2,.m 119 16,.b 120 (.bin .sub) 118 119,.m 18 117,.m 19 120] (.r [.m 121 12,.a 122 (.bin .quo) 121 8,.m 20 122] (.r [.m 123 18,.m 124 19,.b 125 (.bin .lss) 123 124] (.cond (.t 125) (.r [.m 126 18,.m 127 20,.b 128 (.bin .geq) 126 127,.m 10 128] (.r [.m 129 0,.m 130 1,.m 131 16,.m 132 3,.m 133 4,.p 134 (.call 164) [.t 129,.t 130,.t 131,.t 132,.t 133]] (.reg [.m 135 16,.a 136 (.bin .add) 135 1,.m 1 136]))) (.r [.m 137 19,.m 138 20,.b 139 (.bin .geq) 137 138,.m 10 139] (.r [.m 140 0,.m 141 16,.a 142 (.bin .add) 141 1,.m 143 2,.m 144 3,.m 145 4,.p 146 (.call 164) [.t 140,.t 142,.t 143,.t 144,.t 145]] (.reg [.m 147 16,.m 2 147]))))))))))))))))))))))
theorem ok_e54e : compF Tryz.prog Tryz.f164 ⟨true, false, []⟩ = some (c_e54, [], 148) := by kernel_rfl
theorem partialIns_size (a b : Nat) : ∀ (s i : Nat) (d : Array Ed), (partialIns ltE a b s i d).1.size = d.size
 | 0, i, d => rfl
 | s + 1, i, d => by
  rw [partialIns_succ]
  split
  ·rfl
  split
  ·rfl
  rw [partialIns_size]
  unfold fixUp
  split
  ·rw [shiftUp_size _ _ _ _ _ (lr _)]
   unfold fixDown
   split
   ·rw [shiftDown_size]; simp [swp]
   ·simp [swp]
  ·unfold fixDown
   split
   ·rw [shiftDown_size]; simp [swp]
   ·simp [swp]
def pdqF (A : AFr) (r n a b lim : Nat) (wb wp : Bool) : Prop := A 0 = some (.slr r 0 n 3) ∧ A 4 = some (.fn (.func 109) [] []) ∧ A 1 = some (.int .i64 a) ∧ A 2 = some (.int .i64 b) ∧ A 3 = some (.int .i64 lim) ∧ A 10 = some (.bool wb) ∧ A 11 = some (.bool wp) ∧ A 12 = some (.int .i64 ((b - a : Nat) : Int))
theorem pdq_size : ∀ (m : Nat) (d : Array Ed) (a b limit : Nat) (wb wp : Bool), b - a < m → a ≤ b → b ≤ d.size → (pdq ltE d a b limit wb wp).size = d.size := by
 intro m
 induction m with
 | zero => intro d a b limit wb wp h; omega
 | succ m ih =>
 intro d a b limit wb wp hm hab hb
 rw [pdq]
 by_cases h12 : b - a ≤ 12
 ·rw [if_pos h12]; exact (insertionSort_holds swo_ltE d a b hab hb).1.1
 rw [if_neg h12]
 by_cases h0 : limit = 0
 ·rw [if_pos h0]; exact (heapSort_holds swo_ltE d a b hab hb).1.1
 rw [if_neg h0]
 obtain ⟨d2, hd2⟩ : ∃ d2, d2 = (if !wb then breakPatterns d a b else d) := ⟨_, rfl⟩
 obtain ⟨l2, hl2⟩ : ∃ l2, l2 = (if !wb then limit - 1 else limit) := ⟨_, rfl⟩
 simp only [← hd2, ← hl2]
 have gs2 : d2.size = d.size := by
  rw [hd2]; split
  ·exact (breakPatterns_holds d a b hab hb).1
  ·rfl
 obtain ⟨c, hc⟩ : ∃ c, c = choosePivot ltE d2 a b := ⟨_, rfl⟩
 have hcr := choosePivot_holds ltE d2 a b (by omega)
 rw [← hc] at hcr
 simp only [← hc]
 obtain ⟨d3, hd3⟩ : ∃ d3, d3 = (if c.2 = .decreasing then reverseRange d2 a b else d2) := ⟨_, rfl⟩
 obtain ⟨pv0, hpv0⟩ : ∃ pv0, pv0 = (if c.2 = .decreasing then (b - 1) - (c.1 - a) else c.1) := ⟨_, rfl⟩
 obtain ⟨hint, hhint⟩ : ∃ hint, hint = (if c.2 = .decreasing then Hint.increasing else c.2) := ⟨_, rfl⟩
 simp only [← hd3, ← hpv0, ← hhint]
 have gs3 : d3.size = d.size := by
  rw [hd3]; split
  ·rw [(reverseRange_holds d2 a b hab (by omega)).1, gs2]
  ·exact gs2
 have gpv : a ≤ pv0 ∧ pv0 < b := by rw [hpv0]; split <;> omega
 obtain ⟨pi, hpi⟩ : ∃ pi, pi = (if wb && wp && hint = .increasing then partialInsertionSort ltE d3 a b else (d3, false)) := ⟨_, rfl⟩
 simp only [← hpi]
 have gs4 : pi.1.size = d.size := by
  rw [hpi]; split
  ·rw [partialInsertionSort, partialIns_size, gs3]
  ·exact gs3
 split
 ·exact gs4
 split
 ·obtain ⟨pe, hpe'⟩ : ∃ pe, pe = partitionEqual ltE pi.1 a b pv0 := ⟨_, rfl⟩
  have hsp := partEqLoop_spec ltE a b _ (a + 1) (b - 1) (swp pi.1 a pv0) (lr _) (Nat.lt_succ_self a) (by omega) (by omega) (by rw [size_swp]; omega) (fun t h1 h2 => by omega) (fun t h1 h2 => by omega)
  have hpe : partitionEqual ltE pi.1 a b pv0 = partEqLoop ltE a (a + 1) (b - 1) (swp pi.1 a pv0) := rfl
  rw [← hpe, ← hpe'] at hsp
  simp only [← hpe']
  have hss : pe.2.size = d.size := by rw [hsp.2.2.1.1, size_swp, gs4]
  rw [dif_pos ⟨hsp.1, hsp.2.1⟩, ih _ _ _ _ _ _ (by omega) hsp.2.1 (by omega), hss]
 ·have hsp := partition_holds ltE swo_ltE pi.1 a b pv0 gpv.1 gpv.2 (by omega)
  obtain ⟨pt, hpt⟩ : ∃ pt, pt = partition ltE pi.1 a b pv0 := ⟨_, rfl⟩
  rw [← hpt] at hsp
  simp only [← hpt]
  rw [dif_pos ⟨hsp.1, hsp.2.1⟩]
  have hss : pt.2.2.size = d.size := by rw [hsp.2.2.1.1, gs4]
  obtain ⟨t1, t2, t3, _⟩ := hsp
  split
  ·have e := ih pt.2.2 a pt.1 l2 true true (by omega) t1 (by omega)
   exact (ih _ _ _ _ _ _ (by omega) (by omega) (by rw [e, hss]; exact hb)).trans (e.trans hss)
  ·have e := ih pt.2.2 (pt.1 + 1) b l2 true true (by omega) (by omega) (by omega)
   exact (ih _ _ _ _ _ _ (by omega) t1 (by rw [e, hss]; omega)).trans (e.trans hss)
theorem pdq_c (hP : PE E) (n : Nat) (hsm : n < 4294967296) : ∀ (m : Nat) (W : AW) (r a b lim : Nat) (d : Array Ed), b - a < m → d.size = n → r < W.nx → a ≤ b → b ≤ n → lim < 1000 →
  ACalls E 164 [.slr r 0 n 3, .int .i64 a, .int .i64 b, .int .i64 lim, (.fn (.func 109) [] [])] (pv W r d) fun X W' => X = .tuple [] ∧ W' = pv W r (pdq ltE d a b lim true true) := by
 intro m
 induction m with
 | zero => intro W r a b lim d h; omega
 | succ m ih =>
 intro W r a b lim d hm hn hr hab hb hlim
 refine ACalls.of hP Tryz.func164 ok_e54e (by simp) fun _ hok => ?_
 simp (maxSteps:=9^9) (disch:=omega) only [c_e54, BS, e_seq, e_loop]
 refine alp (fun (s : Nat × Nat × Nat × Bool × Bool × Array Ed) A1 W1 => A1 0 = some (.slr r 0 n 3) ∧ A1 4 = some (.fn (.func 109) [] []) ∧ A1 1 = some (.int .i64 s.1) ∧ A1 2 = some (.int .i64 s.2.1) ∧ A1 3 = some (.int .i64 s.2.2.1) ∧ A1 10 = some (.bool s.2.2.2.1) ∧ A1 11 = some (.bool s.2.2.2.2.1) ∧
  W1 = pv W r s.2.2.2.2.2 ∧ s.1 ≤ s.2.1 ∧ s.2.1 ≤ n ∧ s.2.1 - s.1 ≤ b - a ∧ s.2.2.1 < 1000 ∧ s.2.2.2.2.2.size = n ∧ pdq ltE s.2.2.2.2.2 s.1 s.2.1 s.2.2.1 s.2.2.2.1 s.2.2.2.2.1 = pdq ltE d a b lim true true) (fun s => s.2.1 - s.1) (a, b, lim, true, true, d)
  ⟨rfl, rfl, rfl, rfl, rfl, rfl, rfl, rfl, hab, hb, lr _, hlim, hn, rfl⟩ ?_
 rintro ⟨a1, b1, l1, wb, wp, d1⟩ A1 W1 ⟨g0, gc, g1, g2, g3, g8, g9, rfl, gab, gb, gm, gl, gs, gt⟩ _
 simp only at g1 g2 g3 g8 g9 gab gb gm gl gs gt
 rw [e_block]
 refine cutS (fun A' W' => pdqF A' r n a1 b1 l1 wb wp ∧ W' = pv W r d1) ?_ ?_
 ·simp (maxSteps:=9^9) (disch:=omega) only [BS, ↓reduceIte, nE, g1, g2, wsub]
  exact ⟨⟨g0, gc, g1, g2, g3, g8, g9, rfl⟩, tt⟩
 rintro A2 W2 ⟨⟨q0, qc, q1, q2, q3, q8, q9, q10⟩, rfl⟩
 refine cutS (fun A' W' => (pdqF A' r n a1 b1 l1 wb wp ∧ W' = pv W r d1) ∧ ¬ b1 - a1 ≤ 12) ?_ ?_
 ·by_cases h : b1 - a1 ≤ 12
  ·rw [pdq, if_pos h] at gt
   simp (maxSteps:=9^9) (disch:=omega) only [BX, ↓reduceIte, nE, reduceCtorEq, q0, qc, q1, q2, q10, cle12, h, dT]
   refine (insertion_c hP W r n a1 b1 d1 gs gb (by omega) (by omega)).mono ?_
   rintro X W' ⟨rfl, rfl⟩
   simp only [BS]
   exact ⟨_, rfl, _, _, .weak weak_id, lr _, rfl, by rw [gt]⟩
  ·simp (maxSteps:=9^9) (disch:=omega) only [BX, ↓reduceIte, q10, cle12, h, dF]
   exact ⟨⟨⟨q0, qc, q1, q2, q3, q8, q9, q10⟩, tt⟩, not_false⟩
 rintro A3 W3 ⟨⟨⟨q0, qc, q1, q2, q3, q8, q9, q10⟩, rfl⟩, h12⟩
 rw [pdq, if_neg h12] at gt
 refine cutS (fun A' W' => (pdqF A' r n a1 b1 l1 wb wp ∧ W' = pv W r d1) ∧ ¬ l1 = 0) ?_ ?_
 ·by_cases h : l1 = 0
  ·rw [if_pos h] at gt
   simp (maxSteps:=9^9) (disch:=omega) only [BX, ↓reduceIte, nE, reduceCtorEq, q0, qc, q1, q2, q3, eq0, h, dT]
   refine (heapSort_c hP W r n a1 b1 d1 gs (by omega) gb (by omega)).mono ?_
   rintro X W' ⟨rfl, rfl⟩
   simp only [BS]
   exact ⟨_, rfl, _, _, .weak weak_id, lr _, rfl, by rw [gt]⟩
  ·simp (maxSteps:=9^9) (disch:=omega) only [BX, ↓reduceIte, q3, eq0, h, dF]
   exact ⟨⟨⟨q0, qc, q1, q2, q3, q8, q9, q10⟩, tt⟩, not_false⟩
 rintro A4 W4 ⟨⟨⟨q0, qc, q1, q2, q3, q8, q9, q10⟩, rfl⟩, hl0⟩
 rw [if_neg hl0] at gt
 obtain ⟨d2, hd2⟩ : ∃ d2, d2 = (if !wb then breakPatterns d1 a1 b1 else d1) := ⟨_, rfl⟩
 obtain ⟨l2, hl2⟩ : ∃ l2, l2 = (if !wb then l1 - 1 else l1) := ⟨_, rfl⟩
 have gs2 : d2.size = n := by
  rw [hd2]; split
  ·rw [(breakPatterns_holds d1 a1 b1 gab (by omega)).1, gs]
  ·exact gs
 have gl2 : l2 < 1000 := by rw [hl2]; split <;> omega
 refine cutS (fun A' W' => pdqF A' r n a1 b1 l2 wb wp ∧ W' = pv W r d2) ?_ ?_
 ·cases wb
  ·simp only [Bool.not_false, ↓reduceIte] at hd2 hl2
   simp (maxSteps:=9^9) (disch:=omega) only [BX, ↓reduceIte, nE, reduceCtorEq, q0, qc, q1, q2, q8, Bool.not_false]
   refine (breakPatterns_c hP W r n a1 b1 d1 gs hr (by omega) gb (by omega) (by omega)).mono ?_
   rintro X W' ⟨rfl, rfl⟩
   simp (maxSteps:=9^9) (disch:=omega) only [BS, ↓reduceIte, nE, q3, wsub1, ← hd2, ← hl2]
   exact ⟨⟨q0, qc, q1, q2, rfl, q8, q9, q10⟩, tt⟩
  ·simp only [Bool.not_true, Bool.false_eq_true, ↓reduceIte] at hd2 hl2
   simp (maxSteps:=9^9) (disch:=omega) only [BX, ↓reduceIte, q8, Bool.not_true]
   rw [hd2, hl2]
   exact ⟨⟨q0, qc, q1, q2, q3, q8, q9, q10⟩, rfl⟩
 rintro A5 W5 ⟨⟨q0, qc, q1, q2, q3, q8, q9, q10⟩, rfl⟩
 simp only [← hd2, ← hl2] at gt
 obtain ⟨c, hc⟩ : ∃ c, c = choosePivot ltE d2 a1 b1 := ⟨_, rfl⟩
 have hcr := choosePivot_holds ltE d2 a1 b1 (by omega)
 rw [← hc] at hcr
 simp only [← hc] at gt
 refine cutS (fun A' W' => (pdqF A' r n a1 b1 l2 wb wp ∧ A' 13 = some (.int .i64 c.1) ∧ A' 14 = some (.int .i64 (hintN c.2))) ∧ W' = pv W r d2) ?_ ?_
 ·simp only [BS, BC, ↓reduceIte, nE, q0, qc, q1, q2]
  refine (choosePivot_c hP W r n a1 b1 d2 gs2 hr (by omega) gb (by omega) (by omega)).mono ?_
  rintro X W' ⟨rfl, rfl⟩
  rw [← hc]
  simp (maxSteps:=9^9) (disch:=omega) only [BS, ↓reduceIte, nE]
  exact ⟨⟨⟨q0, qc, q1, q2, q3, q8, q9, q10⟩, tt, tt⟩, tt⟩
 rintro A6 W6 ⟨⟨⟨q0, qc, q1, q2, q3, q8, q9, q10⟩, q11, q12⟩, rfl⟩
 obtain ⟨d3, hd3⟩ : ∃ d3, d3 = (if c.2 = .decreasing then reverseRange d2 a1 b1 else d2) := ⟨_, rfl⟩
 obtain ⟨pv0, hpv0⟩ : ∃ pv0, pv0 = (if c.2 = .decreasing then (b1 - 1) - (c.1 - a1) else c.1) := ⟨_, rfl⟩
 obtain ⟨hint, hhint⟩ : ∃ hint, hint = (if c.2 = .decreasing then Hint.increasing else c.2) := ⟨_, rfl⟩
 simp only [← hd3, ← hpv0, ← hhint] at gt
 have gs3 : d3.size = n := by
  rw [hd3]; split
  ·rw [(reverseRange_holds d2 a1 b1 gab (by omega)).1, gs2]
  ·exact gs2
 have gpv : a1 ≤ pv0 ∧ pv0 < b1 := by rw [hpv0]; split <;> omega
 have hint2 : hint ≠ .decreasing := by rw [hhint]; split <;> simp_all
 refine cutS (fun A' W' => (pdqF A' r n a1 b1 l2 wb wp ∧ A' 13 = some (.int .i64 pv0) ∧ A' 14 = some (.int .i64 (hintN hint))) ∧ W' = pv W r d3) ?_ ?_
 ·by_cases h : c.2 = .decreasing
  ·simp only [h, ↓reduceIte] at hd3 hpv0 hhint
   simp (maxSteps:=9^9) (disch:=omega) only [BX, ↓reduceIte, nE, reduceCtorEq, q0, qc, q1, q2, q12, hintEq, h, dT]
   refine (reverseRange_c hP W r n a1 b1 d2 gs2 gb (by omega) (by omega)).mono ?_
   rintro X W' ⟨rfl, rfl⟩
   simp (maxSteps:=9^9) (disch:=omega) only [BS, e_seq, ↓reduceIte, nE, q1, q2, q11, wsub, wsub1, ← hpv0, ← hd3]
   exact ⟨⟨⟨q0, qc, q1, q2, q3, q8, q9, q10⟩, tt, by rw [hhint]; rfl⟩, tt⟩
  ·simp only [h, ↓reduceIte] at hd3 hpv0 hhint
   simp (maxSteps:=9^9) (disch:=omega) only [BX, ↓reduceIte, nE, q12, hintEq, h, dF]
   rw [hd3, hpv0, hhint]
   exact ⟨⟨⟨q0, qc, q1, q2, q3, q8, q9, q10⟩, q11, rfl⟩, rfl⟩
 rintro A7 W7 ⟨⟨⟨q0, qc, q1, q2, q3, q8, q9, q10⟩, q11, q12⟩, rfl⟩
 obtain ⟨pi, hpi⟩ : ∃ pi, pi = (if wb && wp && hint = .increasing then partialInsertionSort ltE d3 a1 b1 else (d3, false)) := ⟨_, rfl⟩
 simp only [← hpi] at gt
 have gs4 : pi.1.size = n := by
  rw [hpi]; split
  ·rw [partialInsertionSort, partialIns_size, gs3]
  ·exact gs3
 refine cutS (fun A' W' => ((pdqF A' r n a1 b1 l2 wb wp ∧ A' 13 = some (.int .i64 pv0)) ∧ W' = pv W r pi.1) ∧ pi.2 = false) ?_ ?_
 ·by_cases h : (wb && wp && decide (hint = .increasing)) = true
  ·rw [if_pos h] at hpi
   simp only [Bool.and_eq_true, decide_eq_true_eq] at h
   obtain ⟨⟨rfl, rfl⟩, hi⟩ := h
   simp (maxSteps:=9^9) (disch:=omega) only [BX, guard_if, ↓reduceIte, nE, reduceCtorEq, q0, qc, q1, q2, q8, q9, q12, hintEq1, hi, dT]
   refine (partialIns_c hP W r n a1 b1 d3 gs3 (by omega) gb (by omega)).mono ?_
   rintro X W' ⟨rfl, rfl⟩
   rw [← hpi]
   cases hp2 : pi.2 with
   | true =>
    rw [if_pos hp2] at gt
    simp only [BS, BC, cond_if, ↓reduceIte]
    exact ⟨_, rfl, _, _, .weak weak_id, lr _, rfl, by rw [gt]⟩
   | false =>
    simp only [BS, BC, cond_if, ↓reduceIte, nE]
    exact ⟨⟨⟨⟨q0, qc, q1, q2, q3, q8, q9, q10⟩, q11⟩, tt⟩, tt⟩
  ·rw [if_neg h] at hpi
   have e1 : pi.1 = d3 := by rw [hpi]
   have e2 : pi.2 = false := by rw [hpi]
   rw [e1]
   cases wb
   ·simp (maxSteps:=9^9) (disch:=omega) only [BX, guard_if, ↓reduceIte, nE, undef_t, q8]
    exact ⟨⟨⟨⟨q0, qc, q1, q2, q3, q8, q9, q10⟩, q11⟩, tt⟩, e2⟩
   ·cases wp
    ·simp (maxSteps:=9^9) (disch:=omega) only [BX, guard_if, ↓reduceIte, nE, undef_t, q8, q9]
     exact ⟨⟨⟨⟨q0, qc, q1, q2, q3, q8, q9, q10⟩, q11⟩, tt⟩, e2⟩
    ·have hi : hint ≠ .increasing := fun e => h (by simp [e])
     simp (maxSteps:=9^9) (disch:=omega) only [BX, guard_if, ↓reduceIte, nE, q8, q9, q12, hintEq1, hi, dF]
     exact ⟨⟨⟨⟨q0, qc, q1, q2, q3, q8, q9, q10⟩, q11⟩, tt⟩, e2⟩
 rintro A8 W8 ⟨⟨⟨⟨q0, qc, q1, q2, q3, q8, q9, q10⟩, q11⟩, rfl⟩, hp2⟩
 rw [if_neg (by simp [hp2])] at gt
 obtain ⟨d4, hd4⟩ : ∃ d4, d4 = pi.1 := ⟨_, rfl⟩
 rw [← hd4] at gs4 ⊢
 simp only [← hd4] at gt
 refine cutS (fun A' W' => ((pdqF A' r n a1 b1 l2 wb wp ∧ A' 13 = some (.int .i64 pv0)) ∧ W' = pv W r d4) ∧ (decide (a1 > 0) && !ltE d4[a1 - 1]! d4[pv0]!) = false) ?_ ?_
 ·by_cases h0 : a1 > 0
  ·have h0' : decide ((a1 : Int) > 0) = true := by simp; omega
   simp (maxSteps:=9^9) (disch:=omega) only [BZ, guard_if, ↓reduceIte, nE, reduceCtorEq, ed_frz, List.nil_append, apn, q0, qc, q1, q11, h0', wsub1, ix, ld]
   refine (less_c hP _ _ _).mono ?_
   rintro X W' ⟨rfl, rfl⟩
   by_cases h : d4[a1 - 1]! < d4[pv0]!
   ·simp (maxSteps:=9^9) (disch:=omega) only [BS, BC, cond_if, guard_if, ↓reduceIte, nE, cmp_lt, h, dT, Bool.not_true]
    exact ⟨⟨⟨⟨q0, qc, q1, q2, q3, q8, q9, q10⟩, q11⟩, tt⟩, by simp [ltE, h]⟩
   ·rw [if_pos (by simp [h0, ltE, h])] at gt
    have hsp := partEqLoop_spec ltE a1 b1 _ (a1 + 1) (b1 - 1) (swp d4 a1 pv0) (lr _) (Nat.lt_succ_self a1) (by omega) (by omega) (by rw [size_swp]; omega) (fun t h1 h2 => by omega) (fun t h1 h2 => by omega)
    have hpe : partitionEqual ltE d4 a1 b1 pv0 = partEqLoop ltE a1 (a1 + 1) (b1 - 1) (swp d4 a1 pv0) := rfl
    rw [← hpe] at hsp
    obtain ⟨pe, hpe'⟩ : ∃ pe, pe = partitionEqual ltE d4 a1 b1 pv0 := ⟨_, rfl⟩
    rw [← hpe'] at hsp
    simp only [← hpe'] at gt
    rw [dif_pos ⟨hsp.1, hsp.2.1⟩] at gt
    have hss : pe.2.size = n := by rw [hsp.2.2.1.1, size_swp, gs4]
    simp (maxSteps:=9^9) (disch:=omega) only [BX, guard_if, ↓reduceIte, nE, reduceCtorEq, cmp_lt, h, dF, Bool.not_false, q0, qc, q1, q2, q11]
    refine (partitionEqual_c hP W r n a1 b1 pv0 d4 gs4 (by omega) gb (by omega) (by omega)).mono ?_
    rintro X W' ⟨rfl, rfl⟩
    rw [← hpe']
    simp only [BS, e_seq, ↓reduceIte, nE, reduceCtorEq, q0, qc, q2, q3, q8, q9]
    exact ⟨(pe.1, b1, l2, wb, wp, pe.2), ⟨tt, tt, rfl, rfl, rfl, rfl, rfl, rfl, hsp.2.1, gb, by simp; omega, gl2, hss, gt⟩, by simp; omega, lr _⟩
  ·have h0' : decide ((a1 : Int) > 0) = false := by simp; omega
   simp (maxSteps:=9^9) (disch:=omega) only [BX, guard_if, ↓reduceIte, nE, undef_t, q1, h0']
   exact ⟨⟨⟨⟨q0, qc, q1, q2, q3, q8, q9, q10⟩, q11⟩, tt⟩, by simp [h0]⟩
 rintro A9 W9 ⟨⟨⟨⟨q0, qc, q1, q2, q3, q8, q9, q10⟩, q11⟩, rfl⟩, hne⟩
 rw [if_neg (by simp [hne])] at gt
 have hsp := partition_holds ltE swo_ltE d4 a1 b1 pv0 gpv.1 gpv.2 (by omega)
 obtain ⟨pt, hpt⟩ : ∃ pt, pt = partition ltE d4 a1 b1 pv0 := ⟨_, rfl⟩
 rw [← hpt] at hsp
 simp only [← hpt] at gt
 rw [dif_pos ⟨hsp.1, hsp.2.1⟩] at gt
 have hss : pt.2.2.size = n := by rw [hsp.2.2.1.1, gs4]
 obtain ⟨t1, t2, t3, _⟩ := hsp
 simp only [BZ, ↓reduceIte, nE, q0, qc, q1, q2, q11]
 refine (partition_c hP W r n a1 b1 pv0 d4 gs4 (by omega) gb (by omega) (by omega)).mono ?_
 rintro X W' ⟨rfl, rfl⟩
 rw [← hpt]
 by_cases h : pt.1 - a1 < b1 - pt.1
 ·rw [if_pos h] at gt
  simp (maxSteps:=9^9) (disch:=omega) only [BX, ↓reduceIte, nE, reduceCtorEq, q0, qc, q1, q2, q3, q10, wsub, quo8, clt, h, dT, cge]
  refine (ih W r a1 pt.1 l2 pt.2.2 (by omega) hss hr t1 (by omega) gl2).mono ?_
  rintro X W' ⟨rfl, rfl⟩
  simp (maxSteps:=9^9) (disch:=omega) only [BS, ↓reduceIte, nE, reduceCtorEq, q0, qc, q2, q3, wadd1]
  exact ⟨(pt.1 + 1, b1, l2, decide (pt.1 - a1 ≥ (b1 - a1) / 8), pt.2.1, pdq ltE pt.2.2 a1 pt.1 l2 true true), ⟨tt, tt, rfl, rfl, rfl, rfl, rfl, rfl, by simp; omega, gb, by simp; omega, gl2, by rw [pdq_size _ _ _ _ _ _ _ (Nat.lt_succ_self _) (by omega) (by omega), hss], gt⟩, by simp; omega, lr _⟩
 ·rw [if_neg h] at gt
  simp (maxSteps:=9^9) (disch:=omega) only [BX, ↓reduceIte, nE, reduceCtorEq, q0, qc, q1, q2, q3, q10, wsub, quo8, clt, h, dF, cge, wadd1]
  refine (ih W r (pt.1 + 1) b1 l2 pt.2.2 (by omega) hss hr (by omega) gb gl2).mono ?_
  rintro X W' ⟨rfl, rfl⟩
  simp (maxSteps:=9^9) (disch:=omega) only [BS, ↓reduceIte, nE, reduceCtorEq, q0, qc, q1, q3]
  exact ⟨(a1, pt.1, l2, decide (b1 - pt.1 ≥ (b1 - a1) / 8), pt.2.1, pdq ltE pt.2.2 (pt.1 + 1) b1 l2 true true), ⟨tt, tt, rfl, rfl, rfl, rfl, rfl, rfl, t1, by simp; omega, by simp; omega, gl2, by rw [pdq_size _ _ _ _ _ _ _ (Nat.lt_succ_self _) (by omega) (by omega), hss], gt⟩, by simp; omega, lr _⟩
def c_e45 : AC := (.r [.m 5 0,.u 6 (.len 1 0) 5,.m 4 6] (.reg [.m 7 0,.m 8 4,.m 9 4,.u 10 (.conv .u64) 9,.u 11 (.call 122) 10,.m 12 1,.p 13 (.call 164) [.t 7,.i 0,.t 8,.t 11,.t 12]]))
theorem ok_e45e : compF Tryz.prog Tryz.f124 ⟨true, false, []⟩ = some (c_e45, [], 14) := by kernel_rfl
theorem sort_c (hP : PE E) (W : AW) (r n : Nat) (d : Array Ed) (hn : d.size = n) (hr : r < W.nx) (hsm : n < 4294967296) :
  ACalls E 124 [.slr r 0 n 3, (.fn (.func 109) [] [])] (pv W r d) fun X W' => X = .tuple [] ∧ W' = pv W r (sort ltE d) := by
 refine ACalls.of hP Tryz.func124 ok_e45e (by simp) fun _ hok => ?_
 have hb : bitsLen n ≤ 32 := (bitsLen_le_iff n 32).2 (by omega)
 simp (maxSteps:=9^9) (disch:=omega) only [c_e45, BZ, ↓reduceIte, nE, reduceCtorEq, un]
 refine (len_c hP _ n hsm).mono ?_
 rintro X W' ⟨rfl, rfl⟩
 simp only [BS, BC, ↓reduceIte, nE]
 refine (pdq_c hP n hsm (n + 1) W r 0 n (bitsLen n) d (by omega) hn hr (Nat.zero_le _) (lr _) (by omega)).mono ?_
 rintro X W' ⟨rfl, rfl⟩
 simp only [BS]
 exact ⟨_, rfl, _, _, .weak weak_id, lr _, rfl, by rw [sort, hn]⟩
def c_e46 : AC := (.r [.u 4 (.load false 1) 1,.u 5 .rangem 4] (.block 0 (.loop (.r [.u 6 .nextm 5,.u 7 (.ext 0) 6] (.seq (.w 7 0) (.block 1 (.r [.u 8 .entry 5,.u 9 (.ext 0) 8,.p 3 (.alloc [.int .u16 0,.int .u16 0,.int .u8 0]) [],⟨none,.store 3, [.t 3,.t 9], none⟩] (.r [.m 10 0,.u 11 (.load true 3) 3,.b 12 .callv 10 11,.u 13 (.un .not) 12] (.cond (.t 13) .ret .skip)))))))))
theorem ok_e46e : compF Tryz.prog Tryz.f125 ⟨true, false, []⟩ = some (c_e46, [], 14) := by kernel_rfl
def c_e53 : AC := (.r [.u 2 .box 0,.v 4 (.nilsl)] (.seq (.r [.m 6 1] (.block 0 (.rangef (.t 6) [7] (.reg [.p 5 (.alloc [.int .u16 0,.int .u16 0,.int .u8 0]) [],⟨none,.store 3, [.t 5,.t 7], none⟩]) (.block 1 (.reg [.u 8 (.load false 1) 2,.u 9 (.load true 3) 5,.u 10 (.bslice 3 1 (.agg [.int .u16 0,.int .u16 0,.int .u8 0]) [0]) 9,.b 11 (.appendx 3 6 [.int .u16 0,.int .u16 0,.int .u8 0]) 8 10,⟨none,.store 1, [.t 2,.t 11], none⟩]))))) (.r [.u 12 (.load false 1) 2,.m 4 12] .ret)))
theorem ok_e53e : compF Tryz.prog Tryz.f163 ⟨true, false, []⟩ = some (c_e53, [.tmp 4], 13) := by kernel_rfl
def c_e44 : AC := (.r [.v 2 (.nilsl)] (.r [.m 3 0,.p 4 (.call 163) [.c (.nilsl),.t 3],.m 2 4] .ret))
theorem ok_e44e : compF Tryz.prog Tryz.f123 ⟨true, false, []⟩ = some (c_e44, [.tmp 2], 5) := by kernel_rfl
def c_e34 : AC := (.r [.v 4 (.nilsl)] (.r [.m 6 0,.u 7 (.call 123) 6,.m 5 7] (.r [.m 8 5,.m 9 1,.b 10 (.call 124) 8 9] (.r [.m 11 5,.m 4 11] .ret))))
theorem ok_e34e : compF Tryz.prog Tryz.f107 ⟨true, false, []⟩ = some (c_e34, [.tmp 4], 12) := by kernel_rfl
def c_e35 : AC := (.r [.u 1 .box 0,.v 2 (.nilfn)] (.r [.u 3 (.mkfn (.func 125) 0) 1,.m 2 3] .ret))
theorem ok_e35e : compF Tryz.prog Tryz.f108 ⟨true, false, []⟩ = some (c_e35, [.tmp 2], 4) := by kernel_rfl
theorem insertion_nil (hP : PE E) (W : AW) : ACalls E 192 [.nilsl, .int .i64 0, .int .i64 0, (.fn (.func 109) [] [])] W fun X W' => X = .tuple [] ∧ W' = W := by
 refine ACalls.of hP Tryz.func192 ok_e81e (by simp) fun _ hok => ?_
 have h1 : IntKind.i64.wrap (0 + 1) = 1 := rfl
 have h2 : decide ((1 : Int) < 0) = false := by decide
 simp only [c_e81, BZ, ↓reduceIte, h1, e_loop]
 refine alp (fun (s : Unit) A1 W1 => A1 2 = some (.int .i64 0) ∧ A1 8 = some (.int .i64 1) ∧ W1 = W) (fun s => 0) ()
  ⟨rfl, rfl, rfl⟩ ?_
 rintro _ A1 W1 ⟨g2, g6, rfl⟩ _
 simp only [BX, ↓reduceIte, nE, g2, g6, h2]
 exact ⟨_, rfl, _, _, .weak weak_id, lr _, rfl, rfl⟩
theorem pdq_nil (hP : PE E) (W : AW) (lim : Nat) : ACalls E 164 [.nilsl, .int .i64 0, .int .i64 0, .int .i64 lim, (.fn (.func 109) [] [])] W fun X W' => X = .tuple [] ∧ W' = W := by
 refine ACalls.of hP Tryz.func164 ok_e54e (by simp) fun _ hok => ?_
 have h1 : IntKind.i64.wrap (0 - 0) = 0 := rfl
 have h2 : decide ((0 : Int) ≤ 12) = true := by decide
 simp only [c_e54, BS, e_seq, e_loop]
 refine alp (fun (s : Unit) A1 W1 => A1 0 = some .nilsl ∧ A1 4 = some (.fn (.func 109) [] []) ∧ A1 1 = some (.int .i64 0) ∧ A1 2 = some (.int .i64 0) ∧ W1 = W) (fun s => 0) ()
  ⟨rfl, rfl, rfl, rfl, rfl⟩ ?_
 rintro _ A1 W1 ⟨g0, gc, g1, g2, rfl⟩ _
 simp only [BX, ↓reduceIte, nE, reduceCtorEq, g0, gc, g1, g2, h1, h2]
 refine (insertion_nil hP _).mono ?_
 rintro X W' ⟨rfl, rfl⟩
 simp only [BS]
 exact ⟨_, rfl, _, _, .weak weak_id, lr _, rfl, rfl⟩
theorem sort_nil (hP : PE E) (W : AW) : ACalls E 124 [.nilsl, (.fn (.func 109) [] [])] W fun X W' => X = .tuple [] ∧ W' = W := by
 refine ACalls.of hP Tryz.func124 ok_e45e (by simp) fun _ hok => ?_
 have h1 : IntKind.u64.wrap 0 = ((0 : Nat) : Int) := rfl
 simp only [c_e45, BZ, ↓reduceIte, nE, reduceCtorEq, h1]
 refine (len_c hP _ 0 (by decide)).mono ?_
 rintro X W' ⟨rfl, rfl⟩
 simp only [BS, BC, ↓reduceIte, nE]
 refine (pdq_nil hP _ _).mono ?_
 rintro X W' ⟨rfl, rfl⟩
 simp only [BS]
 exact ⟨_, rfl, _, _, .weak weak_id, lr _, rfl, rfl⟩
def edOf (e : En) : Ed := match e.1 with
 | .agg [.int _ a, .int _ b, .int _ c] => ⟨a, b, c⟩
 | _ => ⟨0, 0, 0⟩
theorem keysE_iter (hP : PE E) {W : AW} {y pb m clock : Nat} {es : List En} (hb : W.get pb = some (.row [.map m])) (hm : W.get m = some (.map es clock)) (hf : Fresh es clock) (hlt : m < W.nx) (_ : pb < W.nx)
  (hk : ∀ e ∈ es, e.1 = (edOf e).V) (J : List En → AW → Prop) (h0 : J [] (W.alloc (.iter (some m) clock [] clock)))
  (hJ : ∀ done W1, J done W1 → Cl W1 ∧ W.nx < W1.nx ∧ W1.get W.nx = some (.iter (some m) clock (stamps done) clock) ∧ W1.get m = some (.map es clock))
  (hmono : ∀ (vs : List V) (W1 : AW) (K K' : V → AW → Prop), (∀ v W', K v W' → K' v W') → E.yield y vs W1 K → E.yield y vs W1 K')
  (hy : ∀ done e W1, J done W1 → e ∈ es → e.2.2 ∉ stamps done → done.length < es.length → E.yield y [(edOf e).V] (X (W1.put W.nx (.iter (some m) clock (stamps done ++ [e.2.2]) clock)) W1.nx [.row (cE (edOf e))]) (fun Y W2 => Y = .bool true ∧ J (done ++ [e]) W2)) :
  ACalls E 125 [.yld y, .ptr pb 0] W fun Y W' => Y = .tuple [] ∧ ∃ done : List En, done.Perm es ∧ J done W' := by
 refine ACalls.of hP Tryz.func125 ok_e46e (by simp) fun _ hok => ?_
 have hl : partV [V.map m] 0 1 false = some (.map m) := rfl
 simp only [c_e46, BZ, ↓reduceIte, sem_load_row hb hl, sem_rangem hm, e_loop]
 refine alp (fun (done : List En) A1 W1 => A1 0 = some (.yld y) ∧ A1 5 = some (.ptr W.nx 0) ∧ J done W1 ∧ (stamps done).Nodup ∧ ∀ e ∈ done, e ∈ es) (fun done => es.length - done.length) []
  ⟨rfl, rfl, h0, List.nodup_nil, by simp⟩ ?_
 rintro done A1 W1 ⟨g0, g5, gJ, gn, gs⟩ _
 obtain ⟨k0, k1, k2, k3⟩ := hJ _ _ gJ
 simp only [BX, ↓reduceIte, nE, g5, sem_nextm k2 k3]
 refine ⟨?_, ?_, ?_⟩
 ·cases es with
  | nil => exact .inr (.inl rfl)
  | cons e es => exact .inr (.inr ⟨e, by simp, hf.lt e (by simp)⟩)
 ·intro hall
  refine ⟨_, rfl, _, _, .weak weak_id, Nat.le_of_lt k1, rfl, done, ?_, gJ⟩
  refine perm_of_mem (nodup_of_stamps gn) (nodup_of_stamps hf.nodup) fun x => ⟨gs x, fun hx => ?_⟩
  by_cases hm' : x.2.2 ∈ stamps done
  ·obtain ⟨x', h1, h2⟩ := List.mem_map.1 hm'
   rwa [← same_stamp hf.nodup (gs x' h1) hx h2]
  ·have := hall x hx hm'
   have := hf.lt x hx
   omega
 ·intro e he hne
  have hlen : done.length < es.length := by
   have h1 := length_le_of_sub (l := done ++ [e]) (m := es) (nodup_of_stamps (by
     simp only [stamps, mpp, mcs, List.map_nil]
     exact List.nodup_append.2 ⟨gn, by simp, fun a ha b hb => by
      rw [List.mem_singleton.1 hb]
      exact fun e' => hne (e' ▸ ha)⟩)) (fun x hx => by
      rcases List.mem_append.1 hx with hx | hx
      ·exact gs x hx
      ·rw [List.mem_singleton.1 hx]; exact he)
   simp at h1; omega
  obtain ⟨W2, hW2⟩ : ∃ W2, W2 = W1.put W.nx (.iter (some m) clock (stamps done ++ [e.2.2]) clock) := ⟨_, rfl⟩
  have hyv := hy done e W1 gJ he hne hlen
  rw [← hW2] at hyv ⊢
  have hn2 : W2.nx = W1.nx := by rw [hW2]; rfl
  have hC2 : Cl W2 := by rw [hW2]; exact k0.put k1
  have hne' : m ≠ W.nx := by omega
  have j1 : W2.get W.nx = some (.iter (some m) clock (stamps done ++ [e.2.2]) clock) := by rw [hW2, S.put_at]
  have j2 : W2.get m = some (.map es clock) := by rw [hW2, S.put_ne hne']; exact k3
  have j3 : (stamps done ++ [e.2.2]).getLast? = some e.2.2 := by simp
  rw [sem_entry j1 j2 j3 (Fresh.find hf.nodup he), hk e he]
  rw [← hn2] at hyv
  rw [hC2.start]
  simp (maxSteps:=9^9) (disch:=omega) only [BZ, ↓reduceIte, nE, reduceCtorEq, BM, BD, nA, nL, nT, Ed.V, g0, sem_yield]
  refine hmono _ _ _ _ ?_ hyv
  rintro Y W3 ⟨rfl, gJ2⟩
  obtain ⟨l0, l1, l2, l3⟩ := hJ _ _ gJ2
  simp only [BS, BC, cond_if, ↓reduceIte, nE, reduceCtorEq, BD, g0, g5]
  refine ⟨done ++ [e], ⟨tt, tt, gJ2, ?_, ?_⟩, ?_, ?_⟩
  ·simp only [stamps, mpp, mcs, List.map_nil]
   exact List.nodup_append.2 ⟨gn, by simp, fun a ha b hb => by
    rw [List.mem_singleton.1 hb]
    exact fun e' => hne (e' ▸ ha)⟩
  ·intro x hx
   rcases List.mem_append.1 hx with hx | hx
   ·exact gs x hx
   ·rw [List.mem_singleton.1 hx]; exact he
  ·simp; omega
  ·rw [alloc_nx]; omega
theorem bs3 {W : AW} {K : V → AW → Prop} {a b c : V} (_ : a.cells = [a]) (_ : b.cells = [b]) (_ : c.cells = [c]) : sem E (.bslice 3 1 (.agg [.int .u16 0, .int .u16 0, .int .u8 0]) [0]) [.agg [a, b, c]] W K = K (.sl 3 true [.agg [a, b, c]]) W := by
 simp [sem, rsem, tsem, fillE, V.cells]
theorem appxE_nil {W : AW} {K : V → AW → Prop} {by' : Nat} {z : List V} {v : V} (h : by' ≤ 2 ^ 46) : sem E (.appendx 3 by' z) [.nilsl, .sl 3 true [v]] W K = K (.slr W.nx 0 1 3) (W.alloc (.vec 3 v.cells)) := by
 simp [sem, elemsV, h]
theorem appxE_slr {W : AW} {K : V → AW → Prop} {by' r len : Nat} {z cells : List V} {v : V} (hg : W.get r = some (.vec 3 cells)) (hl : cells.length = len * 3) (hv : v.cells.all V.one = true) (h : (len + 1) * by' ≤ 2 ^ 46) :
  sem E (.appendx 3 by' z) [.slr r 0 len 3, .sl 3 true [v]] W K = K (.slr W.nx 0 (len + 1) 3) (W.move r (.vec 3 (cells ++ v.cells))) := by
 simp only [sem, elemsV, hg]
 simp [hl, hv, h]
theorem X_move {W : AW} {n r : Nat} {l : List AObj} {o : AObj} (h : r < n) : (X W n l).move r o = X (W.drop r) n (l ++ [o]) := by
 refine aw_ext (fun x => ?_) (by simp [AW.move, X, Nat.add_assoc])
 rw [X_gets]
 simp only [AW.move, X_nx, rf, X_gets, AW.drop]
 by_cases h1 : x = n + l.length
 ·subst h1
  rw [if_pos rfl, if_neg (by omega)]
  simp
 ·rw [if_neg h1]
  by_cases h2 : x = r
  ·subst h2
   rw [if_pos rfl, if_pos h, if_pos rfl]
  ·rw [if_neg h2]
   by_cases h3 : x < n
   ·rw [if_pos h3, if_pos h3, if_neg h2]
   ·rw [if_neg h3, if_neg h3, List.getElem?_append]
    split
    ·rfl
    ·rw [List.getElem?_eq_none (by omega), List.getElem?_eq_none (by simp; omega)]
theorem drop_ne {W : AW} {r x : Nat} (h : x ≠ r) : (W.drop r).get x = W.get x := by simp [AW.drop, h]
theorem cells_slr {r k l s : Nat} : (V.slr r k l s).cells = [.slr r k l s] := id rfl
theorem one_slr {r k l s : Nat} : (V.slr r k l s).one = true := id rfl
theorem collectE_c (hP : PE E) {W : AW} {pb m clock : Nat} {es : List En} (hb : W.get pb = some (.row [.map m])) (hm : W.get m = some (.map es clock)) (hf : Fresh es clock) (hpb : pb < W.nx) (hmlt : m < W.nx)
  (hk : ∀ e ∈ es, e.1 = (edOf e).V) (hsz : es.length < 2 ^ 40) :
  ACalls E 163 [.nilsl, .fn (.func 125) [] [.ptr pb 0]] W fun Y W' => ∃ done : List En, done.Perm es ∧ Ex W W' ∧
   ((done = [] ∧ Y = .nilsl) ∨ ∃ r, (W.nx ≤ r ∧ done ≠ []) ∧ r < W'.nx ∧ Y = .slr r 0 done.length 3 ∧ W'.get r = some (.vec 3 (cellsL (done.map edOf)))) := by
 refine ACalls.of hP Tryz.func163 ok_e53e (by simp) fun _ hok => ?_
 refine awp_start hok ?_
 simp only [c_e53, BZ, ↓reduceIte, nE, BM, BD, awp_rangef']
 intro E' eP eG ey _
 have hP' : E'.P = Tryz.prog := eP.trans hP
 obtain ⟨W0, hW0⟩ : ∃ W0, W0 = X W W.nx [.row [.nilsl], .loop .ready none] := ⟨_, rfl⟩
 rw [← hW0]
 have hn0 : W0.nx = W.nx + 2 := by rw [hW0]; rfl
 have hE0 : Ex W W0 := by rw [hW0]; exact .x0
 have hq0 : W0.get (W.nx + 0) = some (.row [.nilsl]) := by rw [hW0]; exact X_get (k := 0)
 have hr0 : W0.get (W.nx + 1) = some (.loop .ready none) := by rw [hW0]; exact X_get (k := 1)
 have r0 : rf W.nx 0 = W.nx + 0 := rfl
 have r1 : rf W.nx 1 = W.nx + 1 := rfl
 refine (keysE_iter (E := E') hP' (W := W0) (y := rf W.nx 1) (pb := pb) (m := m) (clock := clock) (es := es) (by rw [hE0.get _ hpb]; exact hb) (by rw [hE0.get _ hmlt]; exact hm) hf (by omega) (by omega) hk
  (fun done W1 => Cl W1 ∧ W0.nx < W1.nx ∧ W1.get W0.nx = some (.iter (some m) clock (stamps done) clock) ∧ (∀ x, x < W.nx → W1.get x = W.get x) ∧ W1.get (W.nx + 1) = some (.loop .ready none) ∧
   ((done = [] ∧ W1.get (W.nx + 0) = some (.row [.nilsl])) ∨ ∃ r, (W0.nx < r ∧ done ≠ []) ∧ r < W1.nx ∧ W1.get (W.nx + 0) = some (.row [.slr r 0 done.length 3]) ∧ W1.get r = some (.vec 3 (cellsL (done.map edOf))))) ?_ ?_ (fun vs W1 K K' hh hy => E'.yieldMono _ _ _ _ _ hh hy) ?_).mono ?_
 ·refine ⟨fun x hx => ?_, by rw [alloc_nx]; omega, by rw [alloc_at]; rfl, fun x hx => by rw [alloc_lt (by omega), hE0.get x hx], by rw [alloc_lt (by omega)]; exact hr0, .inl ⟨rfl, by rw [alloc_lt (by omega)]; exact hq0⟩⟩
  rw [alloc_nx] at hx
  rw [al_gets, if_neg (by omega)]
  exact hE0.cl x (by omega)
 ·rintro done W1 ⟨j0, j1, j2, j3, j4, j5⟩
  exact ⟨j0, j1, j2, by rw [j3 m hmlt]; exact hm⟩
 ·rintro done e W1 ⟨j0, j1, j2, j3, j4, j5⟩ he hne hlen
  apply ey
  have hst : ∀ (l : List En), stamps (l ++ [e]) = stamps l ++ [e.2.2] := fun l => by simp [stamps]
  refine ⟨by rw [X_old (by omega), put_ne (by omega)]; exact j4, rfl, ?_⟩
  rw [← r0] at j5
  rw [← r1] at j4
  have hcl : cellsL ([e].map edOf) = cE (edOf e) := by simp [cellsL]
  rcases j5 with ⟨rfl, j5⟩ | ⟨r, ⟨q1, q2⟩, q3, j5, q4⟩
  ·simp (maxSteps:=9^9) (disch:=omega) only [BS, BC, ↓reduceIte, nE, reduceCtorEq, BM, BD, nA, nL, nT, e_puts1, e_endQ, Ed.V, cE, S.put_ne, S.put_at, j4, j5, bs3 cells_int cells_int cells_int, appxE_nil (by' := 6) (by decide), cells_slr, one_slr]
   refine ⟨tt, tt, tt, Cl.X, (by first | omega | (simp only [rf]; omega) | (simp only [rf, X, lcs, List.length_nil, Nat.zero_add]; omega) | (simp [rf, X]; omega)), ?_, fun x hx => ?_, ?_, .inr ⟨rf W1.nx 2, ⟨(by first | omega | (simp only [rf]; omega) | (simp only [rf, X, lcs, List.length_nil, Nat.zero_add]; omega) | (simp [rf, X]; omega)), by simp⟩, by simp [rf], ?_, ?_⟩⟩
   ·(try simp (maxSteps:=9^9) (disch:=omega) only [X_old, S.put_ne, S.put_at]); rfl
   ·(try simp (maxSteps:=9^9) (disch:=omega) only [X_old, S.put_ne]); exact j3 x hx
   ·rw [← r1]; simp (maxSteps:=9^9) (disch:=omega) only [S.put_at]
   ·show AW.get _ (rf W.nx 0) = _; (try simp (maxSteps:=9^9) (disch:=omega) only [S.put_at]); (try rfl)
   ·(try rw [X_get]); (try simp only [List.nil_append, hcl]); (try rfl)
  ·have hcn : (cellsL (done.map edOf)).length = done.length * 3 := by rw [cellsL_len]; simp
   have happ : ∀ (o : List AObj) o1 o2 K (a b c : Int), sem E (.appendx 3 6 [.int .u16 0, .int .u16 0, .int .u8 0]) [.slr r 0 done.length 3, .sl 3 true [.agg [.int .u16 a, .int .u16 b, .int .u8 c]]] (X ((W1.put W0.nx o1).put (rf W.nx 1) o2) W1.nx o) K = K (.slr (rf W1.nx o.length) 0 (done.length + 1) 3) (X (((W1.put W0.nx o1).put (rf W.nx 1) o2).drop r) W1.nx (o ++ [.vec 3 (cellsL (done.map edOf) ++ [.int .u16 a, .int .u16 b, .int .u8 c])])) := fun o o1 o2 K a b c => by
    rw [appxE_slr (v := .agg [.int .u16 a, .int .u16 b, .int .u8 c]) (len := done.length) (cells := cellsL (done.map edOf)) (by rw [X_old q3, S.put_ne (by omega), S.put_ne (by omega)]; exact q4) hcn rfl (by omega), X_move q3]
    rfl
   have hdrop : ∀ (B : AW) x, x ≠ r → (B.drop r).get x = B.get x := fun B x hx => drop_ne hx
   simp (maxSteps:=9^9) (disch:=omega) only [BS, BC, ↓reduceIte, nE, BM, BD, nA, nL, nT, e_puts1, e_endQ, Ed.V, cE, S.put_ne, S.put_at, j4, j5, bs3 cells_int cells_int cells_int, happ, hdrop, cells_slr, one_slr]
   refine ⟨tt, tt, tt, Cl.X, (by first | omega | (simp only [rf]; omega) | (simp only [rf, X, lcs, List.length_nil, Nat.zero_add]; omega) | (simp [rf, X]; omega)), ?_, fun x hx => ?_, ?_, .inr ⟨rf W1.nx 2, ⟨(by first | omega | (simp only [rf]; omega) | (simp only [rf, X, lcs, List.length_nil, Nat.zero_add]; omega) | (simp [rf, X]; omega)), by simp⟩, by simp [rf], ?_, ?_⟩⟩
   ·(try simp (maxSteps:=9^9) (disch:=omega) only [X_old, S.put_ne, S.put_at, hdrop]); rw [hst]
   ·(try simp (maxSteps:=9^9) (disch:=omega) only [X_old, S.put_ne, hdrop]); exact j3 x hx
   ·rw [← r1]; simp (maxSteps:=9^9) (disch:=omega) only [S.put_at]
   ·show AW.get _ (rf W.nx 0) = _; simp (maxSteps:=9^9) (disch:=omega) only [S.put_at]
   ·(try rw [X_get]); simp only [mpp, cellsL, List.flatMap_append]; simp [cE]
 ·rintro Y W1 ⟨rfl, done, hperm, j0, j1, j2, j3, j4, j5⟩
  rw [← r0] at j5
  rw [← r1] at j4
  simp only [doneQ, j4]
  have hC : Cl (W1.put (rf W.nx 1) (.loop .exhausted none)) := j0.put (by omega)
  have hx : ∀ x, x < W.nx → (W1.put (rf W.nx 1) (.loop .exhausted none)).get x = W.get x := fun x hx => by rw [S.put_ne (by omega)]; exact j3 x hx
  rcases j5 with ⟨rfl, j5⟩ | ⟨r, ⟨q1, q2⟩, q3, j5, q4⟩
  ·simp (maxSteps:=9^9) (disch:=omega) only [BZ, ↓reduceIte, nE, BM, S.put_ne, j5]
   exact ⟨_, rfl, _, _, .weak weak_id, by rw [put_nx]; omega, [], hperm, ⟨hC, by rw [put_nx]; omega, hx⟩, .inl ⟨rfl, rfl⟩⟩
  ·simp (maxSteps:=9^9) (disch:=omega) only [BZ, ↓reduceIte, nE, BM, S.put_ne, j5]
   exact ⟨_, rfl, _, _, .weak weak_id, by rw [put_nx]; omega, done, hperm, ⟨hC, by rw [put_nx]; omega, hx⟩, .inr ⟨r, ⟨by omega, q2⟩, by rw [put_nx]; exact q3, rfl, by rw [S.put_ne (by omega)]; exact q4⟩⟩
theorem collect44_c (hP : PE E) {W : AW} {pb m clock : Nat} {es : List En} (hb : W.get pb = some (.row [.map m])) (hm : W.get m = some (.map es clock)) (hf : Fresh es clock) (hpb : pb < W.nx) (hmlt : m < W.nx)
  (hk : ∀ e ∈ es, e.1 = (edOf e).V) (hsz : es.length < 2 ^ 40) :
  ACalls E 123 [.fn (.func 125) [] [.ptr pb 0]] W fun Y W' => ∃ done : List En, done.Perm es ∧ Ex W W' ∧
   ((done = [] ∧ Y = .nilsl) ∨ ∃ r, (W.nx ≤ r ∧ done ≠ []) ∧ r < W'.nx ∧ Y = .slr r 0 done.length 3 ∧ W'.get r = some (.vec 3 (cellsL (done.map edOf)))) := by
 refine ACalls.of hP Tryz.func123 ok_e44e (by simp) fun _ hok => ?_
 simp only [c_e44, BZ, ↓reduceIte, reduceCtorEq]
 refine (collectE_c hP hb hm hf hpb hmlt hk hsz).mono ?_
 rintro Y W' ⟨done, h1, h2, h3⟩
 have hfr : W'.frz Y = Y := by rcases h3 with ⟨_, rfl⟩ | ⟨r, _, _, rfl, _⟩ <;> rfl
 simp only [BS, BC, ↓reduceIte, hfr]
 exact ⟨_, rfl, _, _, .weak weak_id, h2.nx, done, h1, h2, h3⟩
theorem sortE_perm (d : Array Ed) : (sort ltE d).toList.Perm d.toList := by
 have := (sort_sorts ltE swo_ltE d).1
 have h := this.2.2
 rw [show (sort ltE d).extract 0 d.size = (sort ltE d) from by rw [← this.1]; simp, show d.extract 0 d.size = d from by simp] at h
 exact h
theorem sortE_pw (d : Array Ed) : (sort ltE d).toList.Pairwise fun a b => ltE b a = false := by
 have hp := sortE_perm d
 have := (sort_sorts ltE swo_ltE d).2
 rw [List.pairwise_iff_getElem]
 intro i j hi hj hij
 have hs : (sort ltE d).size = d.size := by simpa using hp.length_eq
 have h1 := this i j (Nat.zero_le _) hij (by simpa [hs] using hj)
 have hi' : i < (sort ltE d).size := by simpa using hi
 have hj' : j < (sort ltE d).size := by simpa using hj
 simpa [hi', hj'] using h1
def sortL (l : List Ed) : List Ed := (sort ltE l.toArray).toList
theorem sortL_perm (l : List Ed) : (sortL l).Perm l := sortE_perm l.toArray
theorem sortL_pw (l : List Ed) : (sortL l).Pairwise fun a b => ltE b a = false := sortE_pw _
theorem sortL_unique {l m : List Ed} (h : l.Perm m) (hm : m.Pairwise fun a b => ltE b a = false) : sortL l = m := by
 refine ((sortL_perm l).trans h).eq_of_pairwise ?_ (sortL_pw l) hm
 intro x y _ _ h1 h2
 exact ltE_anti h2 h1
theorem sortL_eq {l l' : List Ed} (h : l.Perm l') : sortL l = sortL l' := sortL_unique (h.trans (sortL_perm l').symm) (sortL_pw l')
def sortedEV (l : List Ed) : V := if l = [] then .nilsl else .sl 3 false ((sortL l).map Ed.V)
theorem chunks3 : ∀ (l : List Ed), chunks 3 l.length (cellsL l) = l.map Ed.V
 | [] => rfl
 | e :: l => by
  have := chunks3 l
  show (if 3 = 1 then _ else V.agg ((cellsL (e :: l)).take 3)) :: chunks 3 l.length ((cellsL (e :: l)).drop 3) = _
  rw [if_neg (by decide), show cellsL (e :: l) = cE e ++ cellsL l from rfl, show (cE e ++ cellsL l).drop 3 = cellsL l from rfl, this]
  rfl
theorem one_cellsL : ∀ (l : List Ed), (cellsL l).all V.one = true
 | [] => rfl
 | e :: l => by
  rw [show cellsL (e :: l) = cE e ++ cellsL l from rfl, List.all_append, one_cellsL l]; rfl
theorem bel_edV (n : Nat) : ∀ (l : List Ed), V.belL n (l.map Ed.V) = true
 | [] => rfl
 | e :: l => by
  simp only [mcs, V.belL, Bool.and_eq_true]
  exact ⟨rfl, bel_edV n l⟩
theorem sortedE_c (hP : PE E) {W : AW} {pb m clock : Nat} {es : List En} (hb : W.get pb = some (.row [.map m])) (hm : W.get m = some (.map es clock)) (hf : Fresh es clock) (hpb : pb < W.nx) (hmlt : m < W.nx)
  (hk : ∀ e ∈ es, e.1 = (edOf e).V) (hsz : es.length < 4294967296) :
  ACalls E 107 [.fn (.func 125) [] [.ptr pb 0], (.fn (.func 109) [] [])] W fun Y W' => Y = sortedEV (es.map edOf) ∧ W' = W := by
 refine ACalls.of hP Tryz.func107 ok_e34e (by simp) fun _ hok => ?_
 simp only [c_e34, BZ, ↓reduceIte, reduceCtorEq]
 refine (collect44_c hP hb hm hf hpb hmlt hk (by omega)).mono ?_
 rintro Y W' ⟨done, h1, h2, h4⟩
 rcases h4 with ⟨rfl, rfl⟩ | ⟨r, ⟨hr, hne⟩, hrn, rfl, hg⟩
 ·obtain rfl : es = [] := h1.symm.eq_nil
  simp only [BZ, ↓reduceIte, nE]
  refine pc (sort_nil hP _) ?_
  simp only [BZ, ↓reduceIte, nE]
  exact ⟨_, rfl, _, W, h2.back hok rfl, lr _, rfl, rfl⟩
 ·have hlen : done.length = es.length := h1.length_eq
  have hsd : (done.map edOf).toArray.size = done.length := by simp
  have hce : cellsL (done.map edOf) = cellsE (done.map edOf).toArray := by simp [cellsE]
  rw [hce] at hg
  have hpv := pv_self hg
  simp only [BZ, ↓reduceIte, nE]
  rw [← hpv]
  refine (sort_c hP W' r done.length (done.map edOf).toArray hsd hrn (by omega)).mono ?_
  rintro Y W'' ⟨rfl, rfl⟩
  simp only [BZ, ↓reduceIte, nE]
  have hzl : (sortL (done.map edOf)).length = done.length := by rw [(sortL_perm _).length_eq]; simp
  have hzs : cellsE (sort ltE (done.map edOf).toArray) = cellsL (sortL (done.map edOf)) := rfl
  have hpos : 0 < done.length := List.length_pos_iff.2 hne
  have hX : V.sl 3 false ((sortL (done.map edOf)).map Ed.V) = sortedEV (es.map edOf) := by
   have : es.map edOf ≠ [] := by
    intro e
    have := congrArg List.length e
    simp at this
    subst this
    simp at hlen
    exact hne hlen
   rw [sortedEV, if_neg this, sortL_eq (h1.map edOf)]
  have hch : chunks 3 done.length (cellsL (sortL (done.map edOf))) = (sortL (done.map edOf)).map Ed.V := by rw [← hzl]; exact chunks3 _
  refine ⟨_, rfl, .sl 3 false ((sortL (done.map edOf)).map Ed.V), W, ?_, lr _, hX, rfl⟩
  rw [← hch]
  refine .frz (by rw [pv_get, hzs]) (by rw [cellsL_len, hzl]) hpos (by decide) (one_cellsL _) ?_
  refine weak_back hok (by rw [hch]; exact bel_edV _ _) ?_
  intro x hx
  have : x ≠ r := by omega
  simp only [AW.drop, pv, AW.put, this, ↓reduceIte]
  exact h2.get x hx
end Go.AL.SE
namespace Go.AL.S
open Go Go.AL Go.AL.SE Go.Proofs
def toEd (e : Ek) : Ed := ⟨e.1, e.2.1, e.2.2⟩
def ofEd (e : Ed) : Ek := (e.fr, e.to, e.kd)
theorem of_to (e : Ek) : ofEd (toEd e) = e := rfl
theorem to_of (e : Ed) : toEd (ofEd e) = e := rfl
theorem toEd_inj {a b : Ek} (h : toEd a = toEd b) : a = b := by
 have := congrArg ofEd h; exact this
def edL (P : List Ek) : List Ed := sortL ((keysE (tally P)).map toEd)
theorem edL_perm (P : List Ek) : (edL P).Perm ((keysE (tally P)).map toEd) := sortL_perm _
theorem edL_mem {P : List Ek} {e : Ed} : e ∈ edL P ↔ ofEd e ∈ P := by
 rw [(edL_perm P).mem_iff, mmp]
 constructor
 ·rintro ⟨x, hx, rfl⟩; rw [of_to]; exact (tally_mem P x).1 hx
 ·intro h; exact ⟨ofEd e, (tally_mem P _).2 h, to_of e⟩
theorem edL_len (P : List Ek) : (edL P).length = (keysE (tally P)).length := by
 rw [(edL_perm P).length_eq, lmp]
theorem edL_le (P : List Ek) : (edL P).length ≤ P.length := by
 rw [edL_len]; simp only [keysE, lmp]; exact tally_len P
end Go.AL.S
namespace Go.AL.S
open Go Go.AL Go.Proofs
variable {E : Env}
def gmap (P : List Ek) : AObj := .map (gFrom 0 (tally P)) (tally P).length
structure ekOk (e : Ek) : Prop where
 a : 0 ≤ e.1 ∧ e.1 < 65536
 b : 0 ≤ e.2.1 ∧ e.2.1 < 65536
 c : 0 ≤ e.2.2 ∧ e.2.2 < 256
abbrev shE : Bool × List SK := (true, [.i .u16, .i .u16, .i .u8])
theorem ekV_has {e : Ek} (h : ekOk e) : (ekV e).has shE = true := by
 obtain ⟨⟨h1, h2⟩, ⟨h3, h4⟩, h5, h6⟩ := h
 simp [ekV, V.has, V.isAgg, V.cells, V.hasKs, V.hasK, Lit.wf, IntKind.min, IntKind.max, IntKind.signed, IntKind.bits]
 omega
theorem g_keys {l : List (Ek × Int)} (h : ∀ x ∈ l, ekOk x.1) {e : Ek} (he : ekOk e) : ∀ n, keysOk shE (ekV e) (gFrom n l) := by
 intro n
 refine ⟨ekV_has he, ?_⟩
 induction l generalizing n with
 | nil => intro e he; simp [gFrom] at he
 | cons x l ih =>
  intro e he
  rcases List.mem_cons.1 he with rfl | he
  ·exact ekV_has (h x (by simp))
  ·exact ih (fun x hx => h x (by simp [hx])) _ e he
theorem tally_ok {P : List Ek} (h : ∀ x ∈ P, ekOk x) : ∀ x ∈ tally P, ekOk x.1 := fun x hx => h _ ((tally_mem P _).1 (List.mem_map.2 ⟨x, hx, rfl⟩))
theorem lookK_g {sh : Bool × List SK} {l : List (Ek × Int)} {e : Ek} {n : Nat} {k : V → Prop} : lookK sh (.int .i64 0) false (ekV e) (gFrom n l) k = k (.int .i64 ((getE l e).getD 0)) := by
 have := findK_g e l n
 unfold lookK
 cases hg : getE l e with
 | none => rw [hg] at this; simp only at this; rw [this]; rfl
 | some c => rw [hg] at this; obtain ⟨i, h1, _⟩ := this; rw [h1]; rfl
theorem setS_snoc (l : List (Ek × Int)) (e : Ek) (c c' : Int) : ∀ n, setS (n + l.length) (.int .i64 c') (gFrom n (l ++ [(e, c)])) = some (gFrom n (l ++ [(e, c')])) := by
 induction l with
 | nil => intro n; simp [gFrom, setS]
 | cons x l ih =>
  intro n
  have := ih (n + 1)
  simp only [List.cons_append, gFrom, setS, lcs]
  rw [if_neg (by omega), show n + (l.length + 1) = n + 1 + l.length by omega, this]; rfl
theorem put_put {W : AW} {r : Nat} {a b : AObj} : (W.put r a).put r b = W.put r b := by
 simp only [AW.put, AW.mk.injEq, and_true]
 funext x
 by_cases h : x = r <;> simp [h]
theorem wrapn {c : Int} (h0 : 0 ≤ c) (h : c < 2 ^ 41) : IntKind.i64.wrap c = c := by
 simp only [IntKind.wrap, IntKind.signed, IntKind.bits]
 simp
 omega
theorem g_bel (l : List (Ek × Int)) (m : Nat) : ∀ n, ((gFrom n l).all fun e => e.1.bel m && e.2.1.bel m) = true := by
 induction l with
 | nil => intro n; rfl
 | cons t s ih => intro n; simp only [gFrom, List.all_cons, ih, Bool.and_true]; rfl
theorem gmap_bel (P : List Ek) (m : Nat) : (gmap P).bel m = true := g_bel _ _ _
theorem tally_hit {P : List Ek} {e : Ek} {c : Int} (h : getE (tally P) e = some c) : gmap (P ++ [e]) = .map (gFrom 0 (setE (tally P) e (c + 1))) (tally P).length := by
 have hk := congrArg List.length (keys_set (tally P) e (c + 1))
 simp only [keysE, lmp] at hk
 have : tally (P ++ [e]) = setE (tally P) e (c + 1) := by rw [tally_snoc, bumpL, h]
 simp only [gmap, this, hk]
theorem tally_new {P : List Ek} {e : Ek} (h : getE (tally P) e = none) : gmap (P ++ [e]) = .map (gFrom 0 (tally P ++ [(e, 1)])) ((tally P).length + 1) := by
 have : tally (P ++ [e]) = tally P ++ [(e, 1)] := by rw [tally_snoc, bumpL, h]
 simp only [gmap, this, lap, lcs, List.length_nil]
theorem get_cnt {P : List Ek} {e : Ek} {c : Int} (h : getE (tally P) e = some c) : 0 < c ∧ c ≤ P.length := by
 rw [tally_get] at h
 split at h
 ·rename_i hm
  have := List.count_pos_iff.2 hm
  have := List.count_le_length (a := e) (l := P)
  cases h; omega
 ·cases h
theorem edge_c (hP : PE E) (W : AW) {p o g m : Nat} {hn : V} {P : List Ek} (hg : W.get g = some (.row [hn, .map m])) (hm : W.get m = some (gmap P)) (hgl : g < W.nx) (hml : m < W.nx) (hPk : ∀ x ∈ P, ekOk x) (hPl : P.length < 2 ^ 40) (f t k : Int) (he : ekOk (f, t, k)) :
  ACalls E 81 [bV p o g, .int .u16 f, .int .u16 t, .int .u8 k] W fun Y W' => Y = .tuple [] ∧ W' = W.put m (gmap (P ++ edgeP f t k)) := by
 refine ACalls.of hP Tryz.func81 ok_edgee (by simp [bV]) fun _ hok => ?_
 refine awp_start hok ?_
 by_cases hft : f = t
 ·have hW : W.put m (gmap (P ++ edgeP f t k)) = W := by rw [edgeP, if_pos hft, apn]; exact put_same hm
  rw [hW]
  simp (maxSteps:=9^9) (disch:=omega) only [c_edge, BX, ↓reduceIte, nE, BM, BD, bV, cmpne, show decide (f ≠ t) = false by simp [hft]]
  exact ⟨_, rfl, _, W, backX hok rfl, lr _, rfl, rfl⟩
 ·have hpe : edgeP f t k = [(f, t, k)] := by rw [edgeP, if_neg hft]
  rw [hpe]
  have hgr : ∀ l, (X W W.nx l).get g = some (.row [hn, .map m]) := fun l => by rw [X_old hgl]; exact hg
  have hmr : ∀ l, (X W W.nx l).get m = some (gmap P) := fun l => by rw [X_old hml]; exact hm
  have hks := g_keys (tally_ok hPk) he 0
  have hlk : ∀ l K, sem E (.lookup shE (.int .i64 0) false) [.map m, .agg [.int .u16 f, .int .u16 t, .int .u8 k]] (X W W.nx l) K = K (.int .i64 ((getE (tally P) (f, t, k)).getD 0)) (X W W.nx l) := fun l K => by
   rw [show V.agg [.int .u16 f, .int .u16 t, .int .u8 k] = ekV (f, t, k) from rfl, m_lookup (hmr l) hks, lookK_g]
  cases hge : getE (tally P) (f, t, k) with
  | some c =>
   obtain ⟨c1, c2⟩ := get_cnt hge
   have hf := findK_g (f, t, k) (tally P) 0
   rw [hge] at hf
   obtain ⟨i, hf1, hf2⟩ := hf
   have hmo : ∀ l K, sem E (.ment shE (.int .i64 0)) [.map m, .agg [.int .u16 f, .int .u16 t, .int .u8 k]] (X W W.nx l) K = K (.tuple [.int .i64 c, .int .i64 i]) (X W W.nx l) := fun l K => m_ment_old (hmr l) hks hf1
   have hms : ∀ l K, sem E .mest [.map m, .int .i64 (i : Int), .int .i64 (c + 1)] (X W W.nx l) K = K .undef (X (W.put m (gmap (P ++ [(f, t, k)]))) W.nx l) := fun l K => by
    rw [m_mest (hmr l) (hf2 (c + 1)), ← tally_hit hge, X_putold hml]
   simp (maxSteps:=9^9) (disch:=omega) only [c_edge, BX, ↓reduceIte, nE, BM, BD, nA, nL, bV, cmpne, show decide (f ≠ t) = true by simp [hft], hg, hlk, hge, Option.getD_some, hmo, wrapn, hms]
   exact ⟨⟨_, rfl, _, W.put m (gmap (P ++ [(f, t, k)])), backX' rfl (ok_put hok hml (gmap_bel _ _)) rfl, lr _, rfl, rfl⟩, ⟨_, rfl, _, W.put m (gmap (P ++ [(f, t, k)])), backX' rfl (ok_put hok hml (gmap_bel _ _)) rfl, lr _, rfl, rfl⟩⟩
  | none =>
   have hf := findK_g (f, t, k) (tally P) 0
   rw [hge] at hf
   simp only at hf
   have hks' : keysOk shE (ekV (f, t, k)) (gFrom 0 (tally P ++ [((f, t, k), 0)])) := g_keys (fun x hx => by
    rcases List.mem_append.1 hx with hx | hx
    ·exact tally_ok hPk x hx
    ·rw [List.mem_singleton.1 hx]; exact he) he 0
   obtain ⟨A, hA⟩ : ∃ A, A = AObj.map (gFrom 0 (tally P ++ [((f, t, k), (0 : Int))])) ((tally P).length + 1) := ⟨_, rfl⟩
   have hmo : ∀ l K, sem E (.ment shE (.int .i64 0)) [.map m, .agg [.int .u16 f, .int .u16 t, .int .u8 k]] (X W W.nx l) K = K (.tuple [.int .i64 0, .int .i64 (tally P).length]) (X (W.put m A) W.nx l) := fun l K => by
    have := m_ment_new (E := E) (K := K) (z := .int .i64 0) (hmr l) hks hf
    rw [show V.agg [.int .u16 f, .int .u16 t, .int .u8 k] = ekV (f, t, k) from rfl, this, X_putold hml, hA, gFrom_snoc, Nat.zero_add]
   have hmr' : ∀ l, (X (W.put m A) W.nx l).get m = some A := fun l => by rw [X_old hml, put_at]
   have hlk' : ∀ l K, sem E (.lookup shE (.int .i64 0) false) [.map m, .agg [.int .u16 f, .int .u16 t, .int .u8 k]] (X (W.put m A) W.nx l) K = K (.int .i64 0) (X (W.put m A) W.nx l) := fun l K => by
    rw [show V.agg [.int .u16 f, .int .u16 t, .int .u8 k] = ekV (f, t, k) from rfl, m_lookup (by rw [hmr' l, hA]) hks', lookK_g, getE_app hge]
    simp
   have hms : ∀ l K, sem E .mest [.map m, .int .i64 ((tally P).length : Int), .int .i64 (0 + 1)] (X (W.put m A) W.nx l) K = K .undef (X (W.put m (gmap (P ++ [(f, t, k)]))) W.nx l) := fun l K => by
    have hs := setS_snoc (tally P) (f, t, k) 0 (0 + 1) 0
    rw [Nat.zero_add] at hs
    rw [m_mest (by rw [hmr' l, hA]) hs, X_putold hml, put_put, tally_new hge]; rfl
   simp (maxSteps:=9^9) (disch:=omega) only [c_edge, BX, ↓reduceIte, nE, BM, BD, nA, nL, bV, cmpne, show decide (f ≠ t) = true by simp [hft], hg, hlk, hge, Option.getD_none, hmo, wrapn, hlk', hms]
   exact ⟨⟨_, rfl, _, W.put m (gmap (P ++ [(f, t, k)])), backX' rfl (ok_put hok hml (gmap_bel _ _)) rfl, lr _, rfl, rfl⟩, ⟨_, rfl, _, W.put m (gmap (P ++ [(f, t, k)])), backX' rfl (ok_put hok hml (gmap_bel _ _)) rfl, lr _, rfl, rfl⟩⟩
def c_pairs : AC := (.r [.u 2 .box 0,.u 3 .box 1,.v 4 (.nilfn)] (.r [.b 5 (.mkfn (.func 103) 0) 2 3,.m 4 5] .ret))
theorem ok_pairse : compF Tryz.prog Tryz.f79 ⟨false, false, []⟩ = some (c_pairs, [.tmp 4], 6) := by kernel_rfl
def c_pairs1_0 : AC := (.r [.b 13 (.bin .lss) 12 11] (.seq (.w 13 0) (.seq (.block 1 (.r [.m 14 12,.m 5 14] (.seq (.par (.step 0 (.m 15 0) (.step 1 (.m 16 4) (.step 2 (.m 17 5) (.step 5 (.m 20 4) (.step 6 (.m 21 5) (.step 7 (.a 22 (.bin .add) 21 1) (.step 3 (.b 18 (.idxp 1) 16 17) (.step 4 (.u 19 (.load false 1) 18) (.step 8 (.b 23 (.idxp 1) 20 22) (.step 9 (.u 24 (.load false 1) 23) (.step 10 (.p 25 .callv [.t 15,.t 19,.t 24]) (.step 11 (.u 26 (.un .not) 25) .done))))))))))))) (.cond (.t 26) .ret .skip)))) (.reg [.a 27 (.bin .add) 12 1,.m 12 27]))))
def c_pairs1 : AC := (.r [.u 6 (.load false 1) 1,.u 7 (.load false 1) 2,.b 8 (.call 88) 6 7,.m 4 8] (.r [.m 9 4,.u 10 (.len 1 0) 9,.a 11 (.bin .sub) 10 1,.v 12 (.int .i64 0)] (.block 0 (.loop c_pairs1_0))))
theorem ok_pairs1e : compF Tryz.prog Tryz.f103 ⟨false, false, []⟩ = some (c_pairs1, [], 28) := by kernel_rfl
def c_key : AC := (.r [.u 2 .box 0,.u 3 .box 1] (.r [.u 10 (.fld 1) 2,.u 11 (.load false 1) 10,.u 12 (.load false 1) 3,.b 13 (.call 79) 11 12] (.block 0 (.rangef (.t 13) [14, 15] (.r [.m 4 14] (.reg [.m 5 15])) (.block 1 (.r [.u 17 (.load true 3) 2,.u 18 (.load false 1) 3,.m 19 4,.p 20 (.call 80) [.t 17,.t 18,.t 19],.m 16 20,.u 21 (.ext 0) 16,.u 22 (.ext 1) 16,.m 6 21,.m 7 22] (.r [.u 24 (.load true 3) 2,.u 25 (.load false 1) 3,.m 26 5,.p 27 (.call 80) [.t 24,.t 25,.t 26],.m 23 27,.u 28 (.ext 0) 23,.u 29 (.ext 1) 23,.m 8 28,.m 9 29] (.r [.m 30 7,.m 31 30,.M 32 9 31 true,.p 33 .pick [.t 31,.t 32,.F]] (.cond (.t 33) (.reg [.u 34 (.load true 3) 2,.m 35 6,.m 36 8,.p 37 (.call 81) [.t 34,.t 35,.t 36,.c (.int .u8 0)]]) .skip)))))))))
theorem ok_keye : compF Tryz.prog Tryz.f40 ⟨false, false, []⟩ = some (c_key, [], 38) := by kernel_rfl
theorem pairs_c (hP : PE E) (W : AW) (o : Nat) (k : Int) : ACalls E 79 [.ptr o 0, .int .u8 k] W fun Y W' => ∃ q1 q2, Y = .fn (.func 103) [] [.ptr q1 0, .ptr q2 0] ∧ W'.get q1 = some (.row [.ptr o 0]) ∧ W'.get q2 = some (.row [.int .u8 k]) ∧ q1 < W'.nx ∧ q2 < W'.nx ∧ Ex W W' := by
 refine ACalls.of hP Tryz.func79 ok_pairse (by simp) fun _ hok => ?_
 refine awp_start hok ?_
 simp only [c_pairs, BZ, ↓reduceIte, nE, BM, BD]
 exact ⟨_, rfl, _, _, .weak weak_id, by simp [X], rf W.nx 0, rf W.nx 1, rfl, by rw [X_get]; rfl, by rw [X_get]; rfl, by simp [X, rf], by simp [X, rf], .x0⟩
theorem pairs_iter (hP : PE E) {W : AW} {y q1 q2 q : Nat} {os : Ods} {k : Int} (k0 : 0 ≤ k) (k1 : k < 256) (h1 : W.get q1 = some (.row [.ptr q 0])) (h2 : W.get q2 = some (.row [.int .u8 k])) (h : Od W q os) (J : Nat → AW → Prop)
  (h0 : J 0 W) (hJ : ∀ i W1, J i W1 → W.nx ≤ W1.nx) (hmono : ∀ (vs : List V) (W1 : AW) (K K' : V → AW → Prop), (∀ v W', K v W' → K' v W') → E.yield y vs W1 K → E.yield y vs W1 K')
  (hy : ∀ i (hi : i + 1 < (keyO os k).length) W1, J i W1 → E.yield y [.int .u16 (keyO os k)[i], .int .u16 (keyO os k)[i + 1]] W1 (fun Y W2 => Y = .bool true ∧ J (i + 1) W2)) :
  ACalls E 103 [.yld y, .ptr q1 0, .ptr q2 0] W fun Y W' => Y = .tuple [] ∧ J ((keyO os k).length - 1) W' := by
 refine ACalls.of hP Tryz.func103 ok_pairs1e (by simp) fun _ hok => ?_
 have hs := oV_isS (keyO os k)
 have hl := (keyO_ok h k).1
 have hw : IntKind.i64.wrap ((keyO os k).length - 1 : Int) = (keyO os k).length - 1 := by simp only [IntKind.wrap, IntKind.signed, IntKind.bits]; simp; omega
 simp (maxSteps:=9^9) (disch:=omega) only [c_pairs1, BZ, ↓reduceIte, nE, BM, h1, h2]
 refine pc (orderO_c hP _ h k k0 k1) ?_
 simp (maxSteps:=9^9) (disch:=omega) only [BS, e_seq, ↓reduceIte, hs.len, ints_len, hw]
 rw [e_loop]
 refine alp (fun (i : Nat) A1 W1 => A1 0 = some (.yld y) ∧ A1 4 = some (oV (keyO os k)) ∧ A1 11 = some (.int .i64 ((keyO os k).length - 1)) ∧ A1 12 = some (.int .i64 i) ∧ i ≤ (keyO os k).length - 1 ∧ J i W1) (fun i => (keyO os k).length - i) 0
  ⟨rfl, rfl, rfl, rfl, Nat.zero_le _, h0⟩ ?_
 rintro i A1 W1 ⟨g0, g4, g11, g12, gi, gJ⟩ hn
 by_cases hi : i + 1 < (keyO os k).length
 ·have hd : decide ((i : Int) < (keyO os k).length - 1) = true := by simp; omega
  have hwi : IntKind.i64.wrap ((i : Int) + 1) = ((i + 1 : Nat) : Int) := wadd1 (by omega)
  simp (maxSteps:=9^9) (disch:=omega) only [c_pairs1_0, BX, ↓reduceIte, nE, reduceCtorEq, BM, g0, g4, g11, g12, hd, hwi, hs.idx (int_at (show i < (keyO os k).length by omega)), hs.idx (int_at hi), sem_yield]
  refine hmono _ _ _ _ ?_ (hy i hi W1 gJ)
  rintro Y W2 ⟨rfl, g⟩
  simp (maxSteps:=9^9) (disch:=omega) only [BS, BC, cond_if, ↓reduceIte, nE, reduceCtorEq, BD, g0, g4, g11, g12, hwi]
  exact ⟨i + 1, ⟨tt, tt, tt, tt, by omega, g⟩, by omega, hJ _ _ g⟩
 ·have hd : decide ((i : Int) < (keyO os k).length - 1) = false := by simp; omega
  obtain rfl : i = (keyO os k).length - 1 := by omega
  simp (maxSteps:=9^9) (disch:=omega) only [c_pairs1_0, BX, ↓reduceIte, g11, g12, hd]
  exact ⟨_, rfl, _, _, .weak weak_id, hJ _ _ gJ, rfl, gJ⟩
theorem range_pairs (hP : PE E) {W0 : AW} {A : AFr} {q1 q2 q pu pv : Nat} {os : Ods} {k : Int} (k0 : 0 ≤ k) (k1 : k < 256) {g : AX} {asg body : AC} {Q : Exit → AFr → AW → Prop} (hg : g.ev E A = some (.fn (.func 103) [] [.ptr q1 0, .ptr q2 0])) (h1 : W0.get q1 = some (.row [.ptr q 0])) (h2 : W0.get q2 = some (.row [.int .u8 k])) (hq1 : q1 < W0.nx) (hq2 : q2 < W0.nx) (hC : Cl W0) (h : Od W0 q os)
  (J : Nat → AW → Prop) (h0 : ∀ W1, Ex W0 W1 → W0.nx < W1.nx → J 0 W1) (hJ : ∀ i W1, J i W1 → W0.nx < W1.nx)
  (hb : ∀ i (hi : i + 1 < (keyO os k).length) W1, J i W1 → W1.get W0.nx = some (.loop .ready none) →
   awp E asg (thenQ (fun A1 W2 => W2.get W0.nx = some (.loop .ready none) ∧ awp E body (fun e _ W3 => e = .normal ∧ W3.get W0.nx = some (.loop .busy none) ∧ J (i + 1) (W3.put W0.nx (.loop .ready none))) A1 (W2.put W0.nx (.loop .busy none))) (fun _ _ _ => False)) ((A.put pu (.int .u16 (keyO os k)[i])).put pv (.int .u16 (keyO os k)[i + 1])) W1)
  (hQ : ∀ W1, J ((keyO os k).length - 1) W1 → W1.get W0.nx = some (.loop .ready none) → Q .normal A (W1.put W0.nx (.loop .exhausted none))) : awp E (.rangef g [pu, pv] asg body) Q A W0 := by
 rw [awp_rangef', hg]
 intro E' eP eG ey _
 have hP' : E'.P = Tryz.prog := eP.trans hP
 have hE : Ex W0 (W0.alloc (.loop .ready none)) := ⟨fun r hr => by rw [alloc_nx] at hr; rw [al_gets, if_neg (by omega)]; exact hC r (by omega), by rw [alloc_nx]; omega, fun x hx => alloc_lt hx⟩
 simp only [mcs, List.map_nil, frz_ptr]
 refine (pairs_iter (E := E') hP' (y := W0.nx) k0 k1 (by rw [alloc_lt hq1]; exact h1) (by rw [alloc_lt hq2]; exact h2) (h.ex hE) (fun k W1 => J k W1 ∧ W1.get W0.nx = some (.loop .ready none)) ⟨h0 _ hE (by rw [alloc_nx]; omega), alloc_at⟩ (fun i W1 g => by rw [alloc_nx]; exact hJ _ _ g.1) (fun vs W1 K K' hk hy => E'.yieldMono _ _ _ _ _ hk hy) ?_).mono ?_
 ·rintro i hi W1 ⟨g1, g2⟩
  refine ey _ _ _ ⟨g2, rfl, ?_⟩
  refine awp_mono _ ?_ (hb i hi W1 g1 g2)
  intro e A1 W2 hh
  cases e with
  | normal =>
   refine ⟨hh.1, awp_mono _ ?_ hh.2⟩
   rintro e A3 W3 ⟨rfl, h2, h3⟩
   exact ⟨h2, rfl, h3, put_at⟩
  | _ => exact hh
 ·rintro Y W1 ⟨_, g1, g2⟩
  simp only [doneQ, g2]
  exact hQ _ g1 g2
structure Bd (W : AW) (p ra rw q g m : Nat) (s : Str) (os : Ods) (hn : V) (P : List Ek) : Prop where
 st : St W p ra rw s
 od : Od W q os
 hg : W.get g = some (.row [hn, .map m])
 hm : W.get m = some (gmap P)
 lg : g < W.nx
 lm : m < W.nx
 mra : m ≠ ra
 mrw : m ≠ rw
 pk : ∀ x ∈ P, ekOk x
theorem St.by {W W1 : AW} {p ra rw : Nat} {s : Str} (h : St W p ra rw s) (hn : W.nx ≤ W1.nx) (h1 : W1.get p = W.get p) (h2 : W1.get ra = W.get ra) (h3 : W1.get rw = W.get rw) : St W1 p ra rw s := by
 obtain ⟨ws, cw, a, b⟩ := h.hw
 have := h.lp
 have := h.la
 have := h.lw
 exact ⟨h1.trans h.hp, h2.trans h.ha, ⟨ws, cw, h3.trans a, b⟩, h.ne, by omega, by omega, by omega, h.ok⟩
theorem Od.by {W W1 : AW} {q : Nat} {o : Ods} (h : Od W q o) (hn : W.nx ≤ W1.nx) (h1 : W1.get q = W.get q) : Od W1 q o := by
 have := h.lq
 exact ⟨h1.trans h.hq, h.len, by omega, h.ok⟩
section
variable {W W1 : AW} {p ra rw q g m : Nat} {s : Str} {os : Ods} {hn : V} {P P' : List Ek}
theorem Bd.nem (h : Bd W p ra rw q g m s os hn P) : p ≠ m ∧ q ≠ m ∧ g ≠ m := by
 refine ⟨?_, ?_, ?_⟩ <;> rintro rfl
 ·have := h.st.hp.symm.trans h.hm; cases this
 ·have := h.od.hq.symm.trans h.hm; cases this
 ·have := h.hg.symm.trans h.hm; cases this
theorem Bd.to (h : Bd W p ra rw q g m s os hn P) (hx : W.nx ≤ W1.nx) (hg : ∀ x, x < W.nx → x ≠ m → W1.get x = W.get x) (hm : W1.get m = some (gmap P')) (hk : ∀ x ∈ P', ekOk x) : Bd W1 p ra rw q g m s os hn P' := by
 obtain ⟨n1, n2, n3⟩ := h.nem
 have a1 := h.lg
 have a2 := h.lm
 exact ⟨h.st.by hx (hg _ h.st.lp n1) (hg _ h.st.la h.mra.symm) (hg _ h.st.lw h.mrw.symm), h.od.by hx (hg _ h.od.lq n2), (hg _ h.lg n3).trans h.hg, hm, by omega, by omega, h.mra, h.mrw, hk⟩
theorem Bd.ex (h : Bd W p ra rw q g m s os hn P) (hE : Ex W W1) : Bd W1 p ra rw q g m s os hn P :=
 h.to hE.nx (fun x hx _ => hE.get x hx) ((hE.get _ h.lm).trans h.hm) h.pk
end
theorem wrR_ok {s : Str} (h : SOk s) (k v : Int) : 0 ≤ (wrR s k v).1 ∧ (wrR s k v).1 < 65536 := by
 unfold wrR
 cases hw : who s k v with
 | none => simp
 | some t => have := h.ok t (who_mem hw).1; exact ⟨this.id0, this.id1⟩
theorem edgeP_ok {f t k : Int} (hf : 0 ≤ f ∧ f < 65536) (ht : 0 ≤ t ∧ t < 65536) (hk : 0 ≤ k ∧ k < 256) : ∀ x ∈ edgeP f t k, ekOk x := by
 intro x hx
 rw [(mem_edgeP.1 hx).2]; exact ⟨hf, ht, hk⟩
def kf (s : Str) (k : Int) (x : Int × Int) : List Ek := if (wrR s k x.1).2 = true ∧ (wrR s k x.2).2 = true then edgeP (wrR s k x.1).1 (wrR s k x.2).1 0 else []
theorem kf_ok {s : Str} (h : SOk s) (k : Int) (x : Int × Int) : ∀ e ∈ kf s k x, ekOk e := by
 unfold kf
 split
 ·exact edgeP_ok (wrR_ok h _ _) (wrR_ok h _ _) (by decide)
 ·simp
theorem key_c (hP : PE E) (W : AW) {p ra rw q g m : Nat} {s : Str} {os : Ods} {hn : V} {P : List Ek} (h : Bd W p ra rw q g m s os hn P) (k : Int) (k0 : 0 ≤ k) (k1 : k < 256) (hPl : (P ++ keyP s os k).length < 2 ^ 40) :
  ACalls E 40 [bV p q g, .int .u8 k] W fun Y W' => Y = .tuple [] ∧ W' = W.put m (gmap (P ++ keyP s os k)) := by
 refine ACalls.of hP Tryz.func40 ok_keye (by simp [bV]) fun _ hok => ?_
 refine awp_start hok ?_
 simp only [c_key, BZ, ↓reduceIte, nE, BM, BD, bV]
 refine (pairs_c hP _ q k).mono ?_
 rintro _ W0 ⟨q1, q2, rfl, h1, h2, h1n, h2n, hE⟩
 have hE0 : Ex W W0 := Ex.x0.trans hE
 have hb2 : W0.get (rf W.nx 0) = some (.row [.ptr p 0, .ptr q 0, .ptr g 0]) := by rw [hE.get _ (by simp [X, rf]), X_get]; rfl
 have hb3 : W0.get (rf W.nx 1) = some (.row [.int .u8 k]) := by rw [hE.get _ (by simp [X, rf]), X_get]; rfl
 have hb2n : rf W.nx 0 < W0.nx := by have := hE.nx; simp [X, rf] at this ⊢; omega
 have hb3n : rf W.nx 1 < W0.nx := by have := hE.nx; simp [X, rf] at this ⊢; omega
 have hB0 := h.ex hE0
 have hlm := h.lm
 obtain ⟨n1, n2, n3⟩ := h.nem
 have hm2 : rf W.nx 0 ≠ m := by simp only [rf]; omega
 have hm3 : rf W.nx 1 ≠ m := by simp only [rf]; omega
 have hkP : keyP s os k = ((keyO os k).zip (keyO os k).tail).flatMap (kf s k) := rfl
 obtain ⟨Z, hZ⟩ : ∃ Z, Z = (keyO os k).zip (keyO os k).tail := ⟨_, rfl⟩
 rw [← hZ] at hkP
 have hZl : Z.length = (keyO os k).length - 1 := by rw [hZ]; simp
 have hpart : ∀ i, ((Z.take i).flatMap (kf s k)).length ≤ (keyP s os k).length := fun i => by
  rw [hkP]
  conv => rhs; rw [← List.take_append_drop i Z, List.flatMap_append, lap]
  omega
 have hpok : ∀ i, ∀ x ∈ P ++ (Z.take i).flatMap (kf s k), ekOk x := fun i x hx => by
  rcases List.mem_append.1 hx with hx | hx
  ·exact h.pk x hx
  ·obtain ⟨z, _, hz⟩ := List.mem_flatMap.1 hx
   exact kf_ok h.st.ok k z x hz
 simp only [BS]
 refine range_pairs hP k0 k1 (q1 := q1) (q2 := q2) (q := q) (os := os) rfl h1 h2 h1n h2n hE0.cl (h.od.ex hE0) (fun i W1 => Cl W1 ∧ W0.nx < W1.nx ∧ (∀ x, x < W0.nx → x ≠ m → W1.get x = W0.get x) ∧ W1.get m = some (gmap (P ++ (Z.take i).flatMap (kf s k)))) ?_ ?_ ?_ ?_
 ·intro W1 hE1 hn1
  exact ⟨hE1.cl, hn1, fun x hx _ => hE1.get x hx, by rw [hE1.get _ hB0.lm, hB0.hm]; simp⟩
 ·exact fun i W1 h => h.2.1
 ·rintro i hi W1 ⟨j0, j1, j2, j3⟩ hl
  have hiZ : i < Z.length := by omega
  have hZi : Z[i] = ((keyO os k)[i], (keyO os k)[i + 1]) := by simp [hZ]
  have hstep : (Z.take (i + 1)).flatMap (kf s k) = (Z.take i).flatMap (kf s k) ++ kf s k Z[i] := by
   rw [tao, gEg hiZ, List.flatMap_append]; simp [List.flatMap]
  have hu := (keyO_ok h.od k).2 _ (gmm (show i < (keyO os k).length by omega))
  have hv := (keyO_ok h.od k).2 _ (gmm hi)
  have hB1 := hB0.to (W1 := W1.put W0.nx (.loop .busy none)) (P' := P ++ (Z.take i).flatMap (kf s k)) (by rw [put_nx]; omega) (fun x hx hxm => by rw [put_ne (by omega)]; exact j2 x hx hxm) (by have := hB0.lm; rw [put_ne (by omega)]; exact j3) (hpok i)
  have g2 : (W1.put W0.nx (.loop .busy none)).get (rf W.nx 0) = some (.row [.ptr p 0, .ptr q 0, .ptr g 0]) := by rw [put_ne (by omega), j2 _ hb2n hm2]; exact hb2
  have g3 : (W1.put W0.nx (.loop .busy none)).get (rf W.nx 1) = some (.row [.int .u8 k]) := by rw [put_ne (by omega), j2 _ hb3n hm3]; exact hb3
  have hPi := hpart (i + 1)
  simp only [BZ, ↓reduceIte, nE, BM, hl]
  refine ⟨tt, ?_⟩
  simp only [BS, BC, ↓reduceIte, BM, BD, nA, nL, g2, g3]
  refine pc (writer_c hP _ hB1.st k _ k0 k1 hu.1 hu.2) ?_
  simp only [BZ, ↓reduceIte, nE, BM, BD, nA, nL, g2, g3]
  refine pc (writer_c hP _ hB1.st k _ k0 k1 hv.1 hv.2) ?_
  have hJ : ∀ {Q : List Ek}, Q = kf s k Z[i] → ∀ W3, W3 = (W1.put W0.nx (.loop .busy none)).put m (gmap (P ++ (Z.take i).flatMap (kf s k) ++ Q)) → W3.get W0.nx = some (.loop .busy none) ∧ Cl (W3.put W0.nx (.loop .ready none)) ∧ W0.nx < (W3.put W0.nx (.loop .ready none)).nx ∧ (∀ x, x < W0.nx → x ≠ m → (W3.put W0.nx (.loop .ready none)).get x = W0.get x) ∧ (W3.put W0.nx (.loop .ready none)).get m = some (gmap (P ++ (Z.take (i + 1)).flatMap (kf s k))) := by
   rintro Q rfl W3 rfl
   have hm0 : m ≠ W0.nx := by have := hB0.lm; omega
   have hm1 : m < W1.nx := by have := hB0.lm; omega
   refine ⟨by rw [put_ne hm0.symm, put_at], ?_, by simp only [put_nx]; exact j1, fun x hx hxm => by rw [put_ne (by omega), put_ne hxm, put_ne (by omega)]; exact j2 x hx hxm, by rw [put_ne hm0, put_at, hstep, List.append_assoc]⟩
   exact Cl.put (Cl.put (Cl.put j0 j1) (by rw [put_nx]; exact hm1)) (by simp only [put_nx]; exact j1)
  cases c1 : (wrR s k (keyO os k)[i]).2 with
  | false =>
   simp only [BX, guard_if, ↓reduceIte, nE, BM]
   refine ⟨tt, ?_⟩
   refine hJ (Q := []) (by rw [kf, hZi, if_neg (by simp [c1])]) _ ?_
   rw [apn]; exact (put_same hB1.hm).symm
  | true =>
   cases c2 : (wrR s k (keyO os k)[i + 1]).2 with
   | false =>
    simp only [BX, guard_if, ↓reduceIte, nE]
    refine ⟨tt, ?_⟩
    refine hJ (Q := []) (by rw [kf, hZi, if_neg (by simp [c2])]) _ ?_
    rw [apn]; exact (put_same hB1.hm).symm
   | true =>
    simp only [BX, guard_if, ↓reduceIte, nE, BM, BD, nA, nL, g2]
    refine (edge_c hP _ hB1.hg hB1.hm hB1.lg hB1.lm (hpok i) ?_ _ _ 0 ⟨wrR_ok h.st.ok _ _, wrR_ok h.st.ok _ _, show (0 : Int) ≤ 0 ∧ (0 : Int) < 256 by decide⟩).mono ?_
    ·have := hpart i
     rw [lap] at hPl ⊢; omega
    rintro _ W3 ⟨rfl, hW3⟩
    simp only [BS]
    refine ⟨tt, hJ (Q := edgeP (wrR s k (keyO os k)[i]).1 (wrR s k (keyO os k)[i + 1]).1 0) (by rw [kf, hZi, if_pos ⟨c1, c2⟩]) _ hW3⟩
 ·rintro W1 ⟨j0, j1, j2, j3⟩ hl
  rw [← hZl, tkl, ← hkP] at j3
  have hpo := hpok Z.length
  rw [tkl, ← hkP] at hpo
  simp only [e_blk]
  refine ⟨_, e_res0, .tuple [], W.put m (gmap (P ++ keyP s os k)), .weak (weak_back (ok_put hok hlm (gmap_bel _ _)) rfl fun x hx => ?_), lr _, rfl, rfl⟩
  have hx' : x < W.nx := hx
  have hx0 : x < W0.nx := by have := hE0.nx; omega
  by_cases e : x = m
  ·subst e; rw [put_at, put_ne (by omega)]; exact j3
  ·rw [put_ne e, put_ne (by omega), j2 x hx0 e]; exact hE0.get x hx'
end Go.AL.S
