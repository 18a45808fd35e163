/- What the program's functions do, part 2. Conditions: none. -/
import Derived.Test.YtjkmnbdfpednfaaGreatDoorBa
import Derived.Shelf.SlSortCmp.NoneTotal
import Derived.Shelf.Sort.Plain
import Derived.RegionTactic
open Nat renaming reduceEqDiff → nE, reduceLeDiff → nL, reduceAdd → nA, reduceLT → nT, le_refl → lr
open List renaming getElem?_eq_getElem → gEg, length_map → lmp, getElem_mem → gmm, length_append → lap, length_cons → lcs, mem_singleton → msg, append_nil → apn, mem_append → map', take_length → tkl, map_cons → mcs, map_append → mpp, mem_map → mmp, any_eq_true → aet, length_replicate → lrp, take_add_one → tao, length_take → ltk, mem_filter → mfl
set_option maxRecDepth 100000
namespace Go.AL.S
open Go Go.AL Go.Proofs
def c50 : AC := (.r [.v 4 (.bool false)] (.seq (.r [.m 6 0,.u 7 (.len 1 0) 6,.m 8 1,.u 9 (.len 1 0) 8,.b 10 (.bin .neq) 7 9] (.cond (.t 10) (.r [.v 4 (.bool false)] .ret) .skip)) (.seq (.r [.m 11 0,.u 12 (.len 1 0) 11,.v 13 (.int .i64 0)] (.block 0 (.loop (.r [.b 14 (.bin .lss) 13 12] (.seq (.w 14 0) (.seq (.block 1 (.r [.m 15 13,.m 5 15] (.seq (.par (.step 0 (.m 16 0) (.step 1 (.m 17 5) (.step 4 (.m 20 1) (.step 5 (.m 21 5) (.step 2 (.b 18 (.idxp 3) 16 17) (.step 3 (.u 19 (.load true 3) 18) (.step 6 (.b 22 (.idxp 3) 20 21) (.step 7 (.u 23 (.load true 3) 22) (.step 8 (.b 24 (.eqv true (true, [.b,.i .u8,.i .u16])) 19 23) .done)))))))))) (.cond (.t 24) (.r [.v 4 (.bool false)] .ret) .skip)))) (.reg [.a 25 (.bin .add) 13 1,.m 13 25]))))))) (.r [.v 4 (.bool true)] .ret))))
theorem ok50e : compF Tryz.prog Tryz.f117 ⟨false, false, []⟩ = some (c50, [.tmp 4], 26) := by kernel_rfl
def c52 : AC := (.r [.v 4 (.bool false)] (.seq (.r [.m 6 0,.u 7 (.len 1 0) 6,.m 8 1,.u 9 (.len 1 0) 8,.b 10 (.bin .neq) 7 9] (.cond (.t 10) (.r [.v 4 (.bool false)] .ret) .skip)) (.seq (.r [.m 11 0,.u 12 (.len 1 0) 11,.v 13 (.int .i64 0)] (.block 0 (.loop (.r [.b 14 (.bin .lss) 13 12] (.seq (.w 14 0) (.seq (.block 1 (.r [.m 15 13,.m 5 15] (.seq (.par (.step 0 (.m 16 0) (.step 1 (.m 17 5) (.step 4 (.m 20 1) (.step 5 (.m 21 5) (.step 2 (.b 18 (.idxp 1) 16 17) (.step 3 (.u 19 (.load false 1) 18) (.step 6 (.b 22 (.idxp 1) 20 21) (.step 7 (.u 23 (.load false 1) 22) (.step 8 (.b 24 (.bin .neq) 19 23) .done)))))))))) (.cond (.t 24) (.r [.v 4 (.bool false)] .ret) .skip)))) (.reg [.a 25 (.bin .add) 13 1,.m 13 25]))))))) (.r [.v 4 (.bool true)] .ret))))
theorem ok52e : compF Tryz.prog Tryz.f95 ⟨false, false, []⟩ = some (c52, [.tmp 4], 26) := by kernel_rfl
def c56 : AC := (.r [.v 4 (.bool false)] (.seq (.r [.m 6 0,.u 7 (.len 1 0) 6,.m 8 1,.u 9 (.len 1 0) 8,.b 10 (.bin .neq) 7 9] (.cond (.t 10) (.r [.v 4 (.bool false)] .ret) .skip)) (.seq (.r [.v 5 (.int .i64 0)] (.block 0 (.loop (.seq (.r [.m 11 5,.m 12 0,.u 13 (.len 1 0) 12,.b 14 (.bin .lss) 11 13] (.w 14 0)) (.seq (.block 1 (.seq (.par (.step 0 (.m 17 0) (.step 1 (.m 18 5) (.step 4 (.m 21 1) (.step 5 (.m 22 5) (.step 2 (.b 19 (.idxp 1) 17 18) (.step 3 (.u 20 (.load false 1) 19) (.step 6 (.b 23 (.idxp 1) 21 22) (.step 7 (.u 24 (.load false 1) 23) (.step 8 (.b 25 (.bin .neq) 20 24) .done)))))))))) (.cond (.t 25) (.r [.v 4 (.bool false)] .ret) .skip))) (.reg [.m 15 5,.a 16 (.bin .add) 15 1,.m 5 16])))))) (.r [.v 4 (.bool true)] .ret))))
theorem ok56e : compF Tryz.prog Tryz.f120 ⟨false, false, []⟩ = some (c56, [.tmp 4], 26) := by kernel_rfl
variable {E : Env}
theorem F8 {α : Type} {l m : List α} {k : Nat} (h : l.take k = m.take k) (hl : k < l.length) (hm : k < m.length) (e : l[k] = m[k]) : l.take (k + 1) = m.take (k + 1) := by
 rw [tao, tao, h, gEg hl, gEg hm, e]
theorem Uh {α : Type} {l m : List α} {k : Nat} (hl : k < l.length) (hm : k < m.length) (e : l[k] ≠ m[k]) : l ≠ m := by
 intro h; subst h; exact e rfl
theorem eqMi_c (hP : PE E) (W : AW) {v v' : V} {l l' : List Mi} (h : isMs v l) (h' : isMs v' l') (hk : ∀ m ∈ l, m.ok) (hk' : ∀ m ∈ l', m.ok) (hl : l.length < 2 ^ 40) : ACalls E 117 [v, v'] W fun X W' => X = .bool (decide (l = l')) ∧ W' = W := by
 refine ACalls.of hP Tryz.func117 ok50e (by simp) fun _ hok => ?_
 have f1 := h.frz (W := W)
 by_cases hlen : l.length = l'.length
 ·simp only [c50, BX, ↓reduceIte, nE, reduceCtorEq, h.len, h'.len, lmp, hlen, bne_self_eq_false]
  rw [Ai]
  refine alp (fun (k : Nat) A1 W1 => A1 0 = some v ∧ A1 1 = some v' ∧ A1 12 = some (.int .i64 l'.length) ∧ A1 13 = some (.int .i64 k) ∧ k ≤ l'.length ∧ W1 = W ∧ l.take k = l'.take k) (fun k => l'.length - k) 0
   ⟨rfl, rfl, rfl, rfl, Nat.zero_le _, rfl, rfl⟩ ?_
  rintro k A1 W1 ⟨g0, g1, g12, g13, gk, rfl, ge⟩ _
  by_cases hk1 : k < l'.length
  ·have hk2 : k < l.length := by omega
   have o1 := hk l[k] (gmm hk2)
   have o2 := hk' l'[k] (gmm hk1)
   by_cases he : l[k] = l'[k]
   ·simp (disch:=omega) only [BX, ↓reduceIte, nE, reduceCtorEq, BD, g0, g1, g12, g13, clt, hk1, dT, h.idx (C5 hk2), h'.idx (C5 hk1), Gx, Ks o1 o2, decide_eq_true he, Ah]
    exact ⟨k + 1, ⟨tt, tt, tt, tt, tt, tt, F8 ge hk2 hk1 he⟩, by omega, lr _⟩
   ·simp (disch:=omega) only [BX, ↓reduceIte, nE, reduceCtorEq, BD, g0, g1, g12, g13, clt, hk1, dT, h.idx (C5 hk2), h'.idx (C5 hk1), Gx, Ks o1 o2, decide_eq_false he]
    exact ⟨_, rfl, _, _, .weak Ab, lr _, by simp [Uh hk2 hk1 he], rfl⟩
  ·obtain rfl : k = l'.length := by omega
   simp only [BX, ↓reduceIte, g12, g13, clt, hk1, dF]
   refine ⟨_, rfl, _, _, .weak Ab, lr _, ?_, rfl⟩
   rw [tkl, ← hlen, tkl] at ge
   simp [ge]
 ·have hne : l ≠ l' := fun e => hlen (by rw [e])
  have hb : ((l.length : Int) != (l'.length : Int)) = true := by simp; omega
  simp only [c50, BX, ↓reduceIte, nE, reduceCtorEq, h.len, h'.len, lmp, hb]
  exact ⟨_, rfl, _, _, .weak Ab, lr _, by simp [hne], rfl⟩
theorem eqI_c (hP : PE E) (W : AW) {v v' : V} {l l' : List Int} (h : isS 1 v (intsV l)) (h' : isS 1 v' (intsV l')) (hl : l.length < 2 ^ 40) : ACalls E 95 [v, v'] W fun X W' => X = .bool (decide (l = l')) ∧ W' = W := by
 refine ACalls.of hP Tryz.func95 ok52e (by simp) fun _ hok => ?_
 have f1 := h.frz (W := W)
 by_cases hlen : l.length = l'.length
 ·simp only [c52, BX, ↓reduceIte, nE, reduceCtorEq, h.len, h'.len, Ak, hlen, bne_self_eq_false]
  rw [Ai]
  refine alp (fun (k : Nat) A1 W1 => A1 0 = some v ∧ A1 1 = some v' ∧ A1 12 = some (.int .i64 l'.length) ∧ A1 13 = some (.int .i64 k) ∧ k ≤ l'.length ∧ W1 = W ∧ l.take k = l'.take k) (fun k => l'.length - k) 0
   ⟨rfl, rfl, rfl, rfl, Nat.zero_le _, rfl, rfl⟩ ?_
  rintro k A1 W1 ⟨g0, g1, g12, g13, gk, rfl, ge⟩ _
  by_cases hk1 : k < l'.length
  ·have hk2 : k < l.length := by omega
   by_cases he : l[k] = l'[k]
   ·simp (disch:=omega) only [BX, ↓reduceIte, nE, reduceCtorEq, BM, BD, g0, g1, g12, g13, clt, hk1, dT, h.idx (Cc hk2), h'.idx (Cc hk1), Dl, decide_not, decide_eq_true he, Ah]
    exact ⟨k + 1, ⟨tt, tt, tt, tt, tt, tt, F8 ge hk2 hk1 he⟩, by omega, lr _⟩
   ·simp (disch:=omega) only [BX, ↓reduceIte, nE, reduceCtorEq, BM, BD, g0, g1, g12, g13, clt, hk1, dT, h.idx (Cc hk2), h'.idx (Cc hk1), Dl, decide_not, decide_eq_false he]
    exact ⟨_, rfl, _, _, .weak Ab, lr _, by simp [Uh hk2 hk1 he], rfl⟩
  ·obtain rfl : k = l'.length := by omega
   simp only [BX, ↓reduceIte, g12, g13, clt, hk1, dF]
   refine ⟨_, rfl, _, _, .weak Ab, lr _, ?_, rfl⟩
   rw [tkl, ← hlen, tkl] at ge
   simp [ge]
 ·have hne : l ≠ l' := fun e => hlen (by rw [e])
  have hb : ((l.length : Int) != (l'.length : Int)) = true := by simp; omega
  simp only [c52, BX, ↓reduceIte, nE, reduceCtorEq, h.len, h'.len, Ak, hb]
  exact ⟨_, rfl, _, _, .weak Ab, lr _, by simp [hne], rfl⟩
theorem Yw (hP : PE E) (W : AW) {v v' : V} {l l' : List Int} (h : isS 1 v (intsV l)) (h' : isS 1 v' (intsV l')) (hl : l.length < 2 ^ 40) : ACalls E 120 [v, v'] W fun X W' => X = .bool (decide (l = l')) ∧ W' = W := by
 refine ACalls.of hP Tryz.func120 ok56e (by simp) fun _ hok => ?_
 have f1 := h.frz (W := W)
 by_cases hlen : l.length = l'.length
 ·simp only [c56, BX, ↓reduceIte, nE, reduceCtorEq, h.len, h'.len, Ak, hlen, bne_self_eq_false]
  rw [Ai]
  refine alp (fun (k : Nat) A1 W1 => A1 0 = some v ∧ A1 1 = some v' ∧ A1 5 = some (.int .i64 k) ∧ k ≤ l'.length ∧ W1 = W ∧ l.take k = l'.take k) (fun k => l'.length - k) 0
   ⟨rfl, rfl, rfl, Nat.zero_le _, rfl, rfl⟩ ?_
  rintro k A1 W1 ⟨g0, g1, g13, gk, rfl, ge⟩ _
  by_cases hk1 : k < l'.length
  ·have hk2 : k < l.length := by omega
   by_cases he : l[k] = l'[k]
   ·simp (disch:=omega) only [BX, ↓reduceIte, nE, reduceCtorEq, BM, BD, h.len, Ak, hlen, g0, g1, g13, clt, hk1, dT, h.idx (Cc hk2), h'.idx (Cc hk1), Dl, decide_not, decide_eq_true he, Ah]
    exact ⟨k + 1, ⟨tt, tt, tt, tt, tt, F8 ge hk2 hk1 he⟩, by omega, lr _⟩
   ·simp (disch:=omega) only [BX, ↓reduceIte, nE, reduceCtorEq, BM, BD, h.len, Ak, hlen, g0, g1, g13, clt, hk1, dT, h.idx (Cc hk2), h'.idx (Cc hk1), Dl, decide_not, decide_eq_false he]
    exact ⟨_, rfl, _, _, .weak Ab, lr _, by simp [Uh hk2 hk1 he], rfl⟩
  ·obtain rfl : k = l'.length := by omega
   simp only [BX, ↓reduceIte, nE, reduceCtorEq, h.len, Ak, hlen, g0, g13, clt, hk1, dF]
   refine ⟨_, rfl, _, _, .weak Ab, lr _, ?_, rfl⟩
   rw [tkl, ← hlen, tkl] at ge
   simp [ge]
 ·have hne : l ≠ l' := fun e => hlen (by rw [e])
  have hb : ((l.length : Int) != (l'.length : Int)) = true := by simp; omega
  simp only [c56, BX, ↓reduceIte, nE, reduceCtorEq, h.len, h'.len, Ak, hb]
  exact ⟨_, rfl, _, _, .weak Ab, lr _, by simp [hne], rfl⟩
def c51 : AC := (.r [.v 6 (.bool false)] (.seq (.r [.m 10 0,.u 11 (.len 1 0) 10,.m 12 1,.u 13 (.len 1 0) 12,.b 14 (.bin .neq) 11 13] (.cond (.t 14) (.r [.v 6 (.bool false)] .ret) .skip)) (.seq (.r [.m 15 0,.u 16 (.len 1 0) 15,.v 17 (.int .i64 0)] (.block 0 (.loop (.r [.b 18 (.bin .lss) 17 16] (.seq (.w 18 0) (.seq (.block 1 (.r [.m 19 17,.b 20 (.idxp 1) 15 17,.u 21 (.load false 1) 20,.m 7 19,.m 8 21] (.r [.m 22 1,.m 23 7,.b 24 (.idxp 1) 22 23,.u 25 (.load false 1) 24,.m 9 25] (.r [.m 26 2,.m 27 8,.m 28 9,.p 29 .callv [.t 26,.t 27,.t 28],.u 30 (.un .not) 29] (.cond (.t 30) (.r [.v 6 (.bool false)] .ret) .skip))))) (.reg [.a 31 (.bin .add) 17 1,.m 17 31]))))))) (.r [.v 6 (.bool true)] .ret))))
theorem ok51e : compF Tryz.prog Tryz.f118 ⟨false, false, []⟩ = some (c51, [.tmp 6], 32) := by kernel_rfl
def c132 : AC := (.r [.v 4 (.int .i64 0)] (.seq (.r [.m 6 0,.u 7 (.len 1 0) 6,.v 8 (.int .i64 0)] (.block 0 (.loop (.r [.b 9 (.bin .lss) 8 7] (.seq (.w 9 0) (.seq (.block 1 (.r [.m 10 8,.m 5 10] (.r [.m 11 1,.m 12 0,.m 13 5,.b 14 (.idxp 3) 12 13,.u 15 (.load true 3) 14,.b 16 .callv 11 15] (.cond (.t 16) (.r [.m 17 5,.m 4 17] .ret) .skip)))) (.reg [.a 18 (.bin .add) 8 1,.m 8 18]))))))) (.r [.v 4 (.int .i64 (-1))] .ret)))
theorem ok132e : compF Tryz.prog Tryz.f231 ⟨false, false, []⟩ = some (c132, [.tmp 4], 19) := by kernel_rfl
def c133 : AC := (.r [.v 4 (.int .i64 0)] (.seq (.r [.m 6 0,.u 7 (.len 1 0) 6,.v 8 (.int .i64 0)] (.block 0 (.loop (.r [.b 9 (.bin .lss) 8 7] (.seq (.w 9 0) (.seq (.block 1 (.r [.m 10 8,.m 5 10] (.r [.m 11 1,.m 12 0,.m 13 5,.b 14 (.idxp 1) 12 13,.u 15 (.load false 1) 14,.b 16 .callv 11 15] (.cond (.t 16) (.r [.m 17 5,.m 4 17] .ret) .skip)))) (.reg [.a 18 (.bin .add) 8 1,.m 8 18]))))))) (.r [.v 4 (.int .i64 (-1))] .ret)))
theorem ok133e : compF Tryz.prog Tryz.f232 ⟨false, false, []⟩ = some (c133, [.tmp 4], 19) := by kernel_rfl
def c92 : AC := (.r [.v 6 (.bool false)] (.r [.m 7 0,.m 8 1,.b 9 (.bin .geq) 7 8,.m 10 9,.M 11 0 10 true,.M 12 2 10 true,.B 13 (.bin .leq) 11 12 10 true,.p 14 .pick [.t 10,.t 13,.F],.m 6 14] .ret))
theorem ok92e : compF Tryz.prog Tryz.f177 ⟨false, false, []⟩ = some (c92, [.tmp 6], 15) := by kernel_rfl
def c108 : AC := (.r [.u 1 .box 0,.v 2 (.bool false)] (.r [.u 3 (.fld 1) 1,.u 4 (.load false 1) 3,.p 5 (.bin .geq) [.t 4,.c (.int .u8 8)],.m 6 5,.U 7 (.fld 0) 1 6 false,.U 8 (.load false 1) 7 6 false,.M 9 8 6 false,.U 10 (.fld 2) 1 9 true,.U 11 (.load false 1) 10 9 true,.P 12 (.bin .neq) [.t 11,.c (.int .u16 0)] 9 true,.P 13 .pick [.t 9,.t 12,.F] 6 false,.p 14 .pick [.t 6,.T,.t 13],.m 2 14] .ret))
theorem ok108e : compF Tryz.prog Tryz.f193 ⟨false, false, []⟩ = some (c108, [.tmp 2], 15) := by kernel_rfl
def c110 : AC := (.r [.v 2 (.bool false)] (.r [.m 3 0,.u 4 (.len 1 0) 3,.a 5 (.bin .gtr) 4 32,.m 2 5] .ret))
theorem ok110e : compF Tryz.prog Tryz.f195 ⟨false, false, []⟩ = some (c110, [.tmp 2], 6) := by kernel_rfl
def c109 : AC := (.r [.v 4 (.bool false)] (.r [.m 5 0,.m 6 1,.b 7 (.call 231) 5 6,.a 8 (.bin .geq) 7 0,.m 4 8] .ret))
theorem ok109e : compF Tryz.prog Tryz.f194 ⟨false, false, []⟩ = some (c109, [.tmp 4], 9) := by kernel_rfl
def c111 : AC := (.r [.v 4 (.bool false)] (.r [.m 5 0,.m 6 1,.b 7 (.call 232) 5 6,.a 8 (.bin .geq) 7 0,.m 4 8] .ret))
theorem ok111e : compF Tryz.prog Tryz.f196 ⟨false, false, []⟩ = some (c111, [.tmp 4], 9) := by kernel_rfl
def sameLs (a b : List (Option (List Int))) : Bool := decide (a.map nums = b.map nums)
theorem eqFunc_c (hP : PE E) (W : AW) {v v' : V} {l l' : List (Option (List Int))} (h : isLs v l) (h' : isLs v' l') (hl : l.length < 2 ^ 40) (hs : ∀ x ∈ l, (nums x).length < 2 ^ 40) :
  ACalls E 118 [v, v', .fn (.func 95) [] []] W fun X W' => X = .bool (sameLs l l') ∧ W' = W := by
 obtain ⟨xs, i1, i2, i3⟩ := h
 obtain ⟨ys, j1, j2, j3⟩ := h'
 refine ACalls.of hP Tryz.func118 ok51e (by simp) fun _ hok => ?_
 have f1 := i1.frz (W := W)
 by_cases hlen : l.length = l'.length
 ·simp only [c51, BX, ↓reduceIte, nE, reduceCtorEq, i1.len, j1.len, i2, j2, hlen, bne_self_eq_false]
  rw [Ai]
  refine alp (fun (k : Nat) A1 W1 => A1 0 = some v ∧ A1 1 = some v' ∧ A1 2 = some (.fn (.func 95) [] []) ∧ A1 15 = some v ∧ A1 16 = some (.int .i64 l'.length) ∧ A1 17 = some (.int .i64 k) ∧ k ≤ l'.length ∧ W1 = W ∧ (l.map nums).take k = (l'.map nums).take k) (fun k => l'.length - k) 0
   ⟨rfl, rfl, rfl, rfl, rfl, rfl, Nat.zero_le _, rfl, rfl⟩ ?_
  rintro k A1 W1 ⟨g0, g1, g2, g15, g16, g17, gk, rfl, ge⟩ _
  by_cases hk1 : k < l'.length
  ·have hk2 : k < l.length := by omega
   have e1 : xs[k]? = some (xs[k]'(by omega)) := gEg _
   have e2 : ys[k]? = some (ys[k]'(by omega)) := gEg _
   have t1 := (i3 k (by omega) hk2).isS
   have t2 := (j3 k (by omega) hk1).isS
   have n1 : k < (l.map nums).length := by simpa using hk2
   have n2 : k < (l'.map nums).length := by simpa using hk1
   simp (disch:=omega) only [BX, ↓reduceIte, nE, BD, g1, g2, g15, g16, g17, clt, hk1, dT, i1.idx e1, j1.idx e2, t1.loadf, t2.loadf, t1.frz, t2.frz]
   refine pc (eqI_c hP W1 t1 t2 (hs _ (gmm hk2))) ?_
   by_cases he : nums l[k] = nums l'[k]
   ·simp (disch:=omega) only [BS, BC, Ad, ↓reduceIte, nE, reduceCtorEq, BD, g0, g1, g2, g15, g16, g17, decide_eq_true he, Ah]
    exact ⟨k + 1, ⟨tt, tt, tt, tt, tt, tt, tt, tt, F8 ge n1 n2 (by simpa using he)⟩, by omega, lr _⟩
   ·simp (disch:=omega) only [BX, ↓reduceIte, BD, decide_eq_false he]
    refine ⟨_, rfl, _, _, .weak Ab, lr _, ?_, rfl⟩
    have := Uh n1 n2 (by simpa using he)
    simp [sameLs, this]
  ·obtain rfl : k = l'.length := by omega
   simp only [BX, ↓reduceIte, g16, g17, clt, hk1, dF]
   refine ⟨_, rfl, _, _, .weak Ab, lr _, ?_, rfl⟩
   rw [List.take_of_length_le (by simp; omega), List.take_of_length_le (by simp)] at ge
   simp [sameLs, ge]
 ·have hne : l.map nums ≠ l'.map nums := fun e => hlen (by have := congrArg List.length e; simpa using this)
  have hb : ((l.length : Int) != (l'.length : Int)) = true := by simp; omega
  simp only [c51, BX, ↓reduceIte, nE, reduceCtorEq, i1.len, j1.len, i2, j2, hb]
  exact ⟨_, rfl, _, _, .weak Ab, lr _, by simp [sameLs, hne], rfl⟩
def idxV {α : Type} (p : α → Bool) (l : List α) : Int := match l.findIdx? p with
 | some i => i
 | none => -1
theorem Ez {α : Type} {p : α → Bool} {l : List α} {k : Nat} (h : k < l.length) (hp : p l[k] = true) (hb : ∀ i (hi : i < l.length), i < k → p l[i] = false) : idxV p l = k := by
 have : l.findIdx? p = some k := by
  rw [List.findIdx?_eq_some_iff_getElem]
  exact ⟨h, hp, fun i hi => by simp [hb i (by omega) hi]⟩
 simp [idxV, this]
theorem Eo {α : Type} {p : α → Bool} {l : List α} (hb : ∀ i (hi : i < l.length), p l[i] = false) : idxV p l = -1 := by
 have : l.findIdx? p = none := by
  rw [List.findIdx?_eq_none_iff]
  intro x hx
  obtain ⟨i, hi, rfl⟩ := List.mem_iff_getElem.1 hx
  exact hb i hi
 simp [idxV, this]
theorem H5 {α : Type} {p : α → Bool} {l : List α} : decide (idxV p l ≥ 0) = l.any p := by
 cases h : l.findIdx? p with
 | none =>
  simp only [idxV, h]
  rw [List.findIdx?_eq_none_iff] at h
  have : l.any p = false := by simpa using h
  rw [this]; rfl
 | some i =>
  simp only [idxV, h]
  obtain ⟨h1, h2, _⟩ := List.findIdx?_eq_some_iff_getElem.1 h
  have : l.any p = true := List.any_eq_true.2 ⟨_, gmm h1, h2⟩
  rw [this]
  simp
def badMi (m : Mi) : Bool := decide (m.key ≥ 8) || (m.read && decide (m.v ≠ 0))
theorem bad_c (hP : PE E) (W : AW) (m : Mi) : ACalls E 193 [m.V] W fun X W' => X = .bool (badMi m) ∧ W' = W := by
 refine ACalls.of hP Tryz.func193 ok108e (by simp) fun _ hok => ?_
 refine Af hok ?_
 obtain ⟨r, k, v⟩ := m
 by_cases h1 : k ≥ 8
 ·simp only [c108, BZ, Aa, ↓reduceIte, nE, BM, BD, Mi.V, h1, dT]
  exact ⟨_, rfl, _, W, Ap hok rfl, lr _, by simp [badMi, h1], rfl⟩
 ·cases r <;> simp only [c108, BZ, Aa, ↓reduceIte, nE, BM, BD, Mi.V, h1, dF, Dl]
  ·exact ⟨_, rfl, _, W, Ap hok rfl, lr _, by simp [badMi, h1], rfl⟩
  ·exact ⟨_, rfl, _, W, Ap hok rfl, lr _, by simp [badMi, h1], rfl⟩
theorem idxMi_c (hP : PE E) (W : AW) {v : V} {l : List Mi} (h : isMs v l) (hl : l.length < 2 ^ 40) :
  ACalls E 231 [v, .fn (.func 193) [] []] W fun X W' => X = .int .i64 (idxV badMi l) ∧ W' = W := by
 refine ACalls.of hP Tryz.func231 ok132e (by simp) fun _ hok => ?_
 simp only [c132, BZ, ↓reduceIte, reduceCtorEq, h.len, lmp]
 rw [Ai]
 refine alp (fun (k : Nat) A1 W1 => A1 0 = some v ∧ A1 1 = some (.fn (.func 193) [] []) ∧ A1 7 = some (.int .i64 l.length) ∧ A1 8 = some (.int .i64 k) ∧ k ≤ l.length ∧ W1 = W ∧ ∀ i (hi : i < l.length), i < k → badMi l[i] = false) (fun k => l.length - k) 0
  ⟨rfl, rfl, rfl, rfl, Nat.zero_le _, rfl, fun _ _ h => by omega⟩ ?_
 rintro k A1 W1 ⟨g0, g1, g7, g8, gk, rfl, ge⟩ _
 by_cases hk1 : k < l.length
 ·simp (disch:=omega) only [BX, ↓reduceIte, nE, reduceCtorEq, BD, g0, g1, g7, g8, clt, hk1, dT, h.idx (C5 hk1), Gx, mi_frz]
  refine pc (bad_c hP W1 _) ?_
  cases hb : badMi l[k]
  ·simp (disch:=omega) only [BS, BC, Ad, ↓reduceIte, nE, reduceCtorEq, g0, g1, g7, g8, Ah]
   refine ⟨k + 1, ⟨tt, tt, tt, tt, tt, tt, fun i hi hk => ?_⟩, by omega, lr _⟩
   by_cases e : i = k
   ·subst e; exact hb
   ·exact ge i hi (by omega)
  ·simp (disch:=omega) only [BX, ↓reduceIte, nE]
   exact ⟨_, rfl, _, _, .weak Ab, lr _, by rw [Ez hk1 hb ge], rfl⟩
 ·obtain rfl : k = l.length := by omega
  simp only [BX, ↓reduceIte, g7, g8, clt, hk1, dF]
  exact ⟨_, rfl, _, _, .weak Ab, lr _, by rw [Eo fun i hi => ge i hi hi], rfl⟩
theorem long_c (hP : PE E) (W : AW) {v : V} {o : Option (List Int)} (h : isEl v o) : ACalls E 195 [v] W fun X W' => X = .bool (decide ((nums o).length > 32)) ∧ W' = W := by
 refine ACalls.of hP Tryz.func195 ok110e (by simp) fun _ hok => ?_
 have h32 : decide (((nums o).length : Int) > 32) = decide ((nums o).length > 32) := by simp; omega
 simp only [c110, BZ, ↓reduceIte, reduceCtorEq, h.isS.len, Ak, h32]
 exact ⟨_, rfl, _, _, .weak Ab, lr _, rfl, rfl⟩
def longL (o : Option (List Int)) : Bool := decide ((nums o).length > 32)
theorem idxLs_c (hP : PE E) (W : AW) {v : V} {l : List (Option (List Int))} (h : isLs v l) (hl : l.length < 2 ^ 40) :
  ACalls E 232 [v, .fn (.func 195) [] []] W fun X W' => X = .int .i64 (idxV longL l) ∧ W' = W := by
 obtain ⟨xs, i1, i2, i3⟩ := h
 refine ACalls.of hP Tryz.func232 ok133e (by simp) fun _ hok => ?_
 simp only [c133, BZ, ↓reduceIte, reduceCtorEq, i1.len, i2]
 rw [Ai]
 refine alp (fun (k : Nat) A1 W1 => A1 0 = some v ∧ A1 1 = some (.fn (.func 195) [] []) ∧ A1 7 = some (.int .i64 l.length) ∧ A1 8 = some (.int .i64 k) ∧ k ≤ l.length ∧ W1 = W ∧ ∀ i (hi : i < l.length), i < k → longL l[i] = false) (fun k => l.length - k) 0
  ⟨rfl, rfl, rfl, rfl, Nat.zero_le _, rfl, fun _ _ h => by omega⟩ ?_
 rintro k A1 W1 ⟨g0, g1, g7, g8, gk, rfl, ge⟩ _
 by_cases hk1 : k < l.length
 ·have e1 : xs[k]? = some (xs[k]'(by omega)) := gEg _
  have t := i3 k (by omega) hk1
  simp (disch:=omega) only [BX, ↓reduceIte, nE, reduceCtorEq, BD, g0, g1, g7, g8, clt, hk1, dT, i1.idx e1, t.isS.loadf, t.isS.frz]
  refine pc (long_c hP W1 t) ?_
  cases hb : longL l[k]
  ·simp (disch:=omega) only [BS, BC, Ad, ↓reduceIte, nE, reduceCtorEq, g0, g1, g7, g8, Ah, show decide ((nums l[k]).length > 32) = false from hb]
   refine ⟨k + 1, ⟨tt, tt, tt, tt, tt, tt, fun i hi hk => ?_⟩, by omega, lr _⟩
   by_cases e : i = k
   ·subst e; exact hb
   ·exact ge i hi (by omega)
  ·simp (disch:=omega) only [BX, ↓reduceIte, nE, show decide ((nums l[k]).length > 32) = true from hb]
   exact ⟨_, rfl, _, _, .weak Ab, lr _, by rw [Ez hk1 hb ge], rfl⟩
 ·obtain rfl : k = l.length := by omega
  simp only [BX, ↓reduceIte, g7, g8, clt, hk1, dF]
  exact ⟨_, rfl, _, _, .weak Ab, lr _, by rw [Eo fun i hi => ge i hi hi], rfl⟩
theorem anyMi_c (hP : PE E) (W : AW) {v : V} {l : List Mi} (h : isMs v l) (hl : l.length < 2 ^ 40) :
  ACalls E 194 [v, .fn (.func 193) [] []] W fun X W' => X = .bool (l.any badMi) ∧ W' = W := by
 refine ACalls.of hP Tryz.func194 ok109e (by simp) fun _ hok => ?_
 simp only [c109, BZ, ↓reduceIte, nE, reduceCtorEq, h.frz]
 refine pc (idxMi_c hP W h hl) ?_
 simp only [BS, BC, ↓reduceIte, H5]
 exact ⟨_, rfl, _, _, .weak Ab, lr _, rfl, rfl⟩
theorem anyLs_c (hP : PE E) (W : AW) {v : V} {l : List (Option (List Int))} (h : isLs v l) (hl : l.length < 2 ^ 40) :
  ACalls E 196 [v, .fn (.func 195) [] []] W fun X W' => X = .bool (l.any longL) ∧ W' = W := by
 have hs := h
 obtain ⟨xs, i1, _, _⟩ := hs
 refine ACalls.of hP Tryz.func196 ok111e (by simp) fun _ hok => ?_
 simp only [c111, BZ, ↓reduceIte, nE, reduceCtorEq, i1.frz]
 refine pc (idxLs_c hP W h hl) ?_
 simp only [BS, BC, ↓reduceIte, H5]
 exact ⟨_, rfl, _, _, .weak Ab, lr _, rfl, rfl⟩
theorem Yf (hP : PE E) (W : AW) (a b c : Int) : ACalls E 177 [.int .i64 a, .int .i64 b, .int .i64 c] W fun X W' => X = .bool (decide (b ≤ a) && decide (a ≤ c)) ∧ W' = W := by
 refine ACalls.of hP Tryz.func177 ok92e (by simp) fun _ hok => ?_
 by_cases h : a ≥ b
 ·simp only [c92, BZ, Aa, ↓reduceIte, nE, reduceCtorEq, BD, decide_eq_true h]
  exact ⟨_, rfl, _, _, .weak Ab, lr _, by simp, rfl⟩
 ·simp only [c92, BZ, Aa, ↓reduceIte, nE, reduceCtorEq, BM, decide_eq_false h]
  exact ⟨_, rfl, _, _, .weak Ab, lr _, by simp, rfl⟩
def c42 : AC := (.r [.p 2 (.alloc [.nilfn,.nilfn,.nilfn,.nilfn]) [],.v 3 (.bool false)] (.seq (.r [.m 4 0,.p 5 (.bin .lss) [.t 4,.c (.int .u8 1)],.m 6 5,.M 7 0 6 false,.P 8 (.bin .gtr) [.t 7,.c (.int .u8 7)] 6 false,.p 9 .pick [.t 6,.T,.t 8]] (.cond (.t 9) (.r [.p 10 (.build [.nilfn,.nilfn,.nilfn,.nilfn] []) [],⟨none,.store 4, [.t 2,.t 10], none⟩,.v 3 (.bool false)] .ret) .skip)) (.r [.p 11 (.call 116) [],.m 12 0,.b 13 (.idxv 8 4 true) 11 12,⟨none,.store 4, [.t 2,.t 13], none⟩,.v 3 (.bool true)] .ret)))
theorem ok42e : compF Tryz.prog Tryz.f89 ⟨false, false, []⟩ = some (c42, [.cell 2 true 4, .tmp 3], 14) := by kernel_rfl
def c49 : AC := (.r [.p 0 (.alloc [.nilfn,.nilfn,.nilfn,.nilfn,.nilfn,.nilfn,.nilfn,.nilfn,.nilfn,.nilfn,.nilfn,.nilfn,.nilfn,.nilfn,.nilfn,.nilfn,.nilfn,.nilfn,.nilfn,.nilfn,.nilfn,.nilfn,.nilfn,.nilfn,.nilfn,.nilfn,.nilfn,.nilfn,.nilfn,.nilfn,.nilfn,.nilfn]) []] (.r [.p 1 (.build [.nilfn,.nilfn,.nilfn,.nilfn] [(0, 1), (1, 1), (2, 1), (3, 1)]) [.f 132,.f 133,.f 134,.f 135],.p 2 (.build [.nilfn,.nilfn,.nilfn,.nilfn] [(0, 1), (1, 1), (2, 1), (3, 1)]) [.f 136,.f 137,.f 138,.f 139],.p 3 (.build [.nilfn,.nilfn,.nilfn,.nilfn] [(0, 1), (1, 1), (2, 1), (3, 1)]) [.f 140,.f 141,.f 142,.f 143],.p 4 (.build [.nilfn,.nilfn,.nilfn,.nilfn] [(0, 1), (1, 1), (2, 1), (3, 1)]) [.f 144,.f 145,.f 146,.f 147],.p 5 (.build [.nilfn,.nilfn,.nilfn,.nilfn] [(0, 1), (1, 1), (2, 1), (3, 1)]) [.f 148,.f 149,.f 150,.f 151],.p 6 (.build [.nilfn,.nilfn,.nilfn,.nilfn] [(0, 1), (1, 1), (2, 1), (3, 1)]) [.f 152,.f 153,.f 154,.f 155],.p 7 (.build [.nilfn,.nilfn,.nilfn,.nilfn] [(0, 1), (1, 1), (2, 1), (3, 1)]) [.f 144,.f 145,.f 146,.f 147],.p 8 (.build [.nilfn,.nilfn,.nilfn,.nilfn,.nilfn,.nilfn,.nilfn,.nilfn,.nilfn,.nilfn,.nilfn,.nilfn,.nilfn,.nilfn,.nilfn,.nilfn,.nilfn,.nilfn,.nilfn,.nilfn,.nilfn,.nilfn,.nilfn,.nilfn,.nilfn,.nilfn,.nilfn,.nilfn,.nilfn,.nilfn,.nilfn,.nilfn] [(4, 4), (8, 4), (12, 4), (16, 4), (20, 4), (24, 4), (28, 4)]) [.t 1,.t 2,.t 3,.t 4,.t 5,.t 6,.t 7],⟨none,.store 32, [.t 0,.t 8], none⟩] .ret))
theorem ok49e : compF Tryz.prog Tryz.f116 ⟨false, false, []⟩ = some (c49, [.cell 0 true 32], 9) := by kernel_rfl
def c73 : AC := (.r [.u 1 .box 0,.p 2 (.alloc [.int .u8 0,.int .u8 0,.int .u16 0,.int .u8 0,.int .u8 0,.int .u8 0,.int .u16 0,.int .u16 0,.int .u8 0,.int .u16 0,.nilsl,.nilsl,.int .u8 0,.int .i64 0,.int .i64 0,.int .i64 0,.bool false,.bool false,.bool false]) []] (.r [.u 3 (.fld 10) 1,.u 4 (.load false 1) 3,.u 5 (.build [.int .u8 0,.int .u8 0,.int .u16 0,.int .u8 0,.int .u8 0,.int .u8 0,.int .u16 0,.int .u16 0,.int .u8 0,.int .u16 0,.nilsl,.nilsl,.int .u8 0,.int .i64 0,.int .i64 0,.int .i64 0,.bool false,.bool false,.bool false] [(10, 1)]) 4,⟨none,.store 19, [.t 2,.t 5], none⟩] .ret))
theorem ok73e : compF Tryz.prog Tryz.f148 ⟨false, false, []⟩ = some (c73, [.cell 2 true 19], 6) := by kernel_rfl
def c77 : AC := (.r [.u 1 .box 0,.p 2 (.alloc [.int .u8 0,.int .u8 0,.int .u16 0,.int .u8 0,.int .u8 0,.int .u8 0,.int .u16 0,.int .u16 0,.int .u8 0,.int .u16 0,.nilsl,.nilsl,.int .u8 0,.int .i64 0,.int .i64 0,.int .i64 0,.bool false,.bool false,.bool false]) []] (.r [.u 3 (.fld 11) 1,.u 4 (.load false 1) 3,.u 5 (.build [.int .u8 0,.int .u8 0,.int .u16 0,.int .u8 0,.int .u8 0,.int .u8 0,.int .u16 0,.int .u16 0,.int .u8 0,.int .u16 0,.nilsl,.nilsl,.int .u8 0,.int .i64 0,.int .i64 0,.int .i64 0,.bool false,.bool false,.bool false] [(11, 1)]) 4,⟨none,.store 19, [.t 2,.t 5], none⟩] .ret))
theorem ok77e : compF Tryz.prog Tryz.f152 ⟨false, false, []⟩ = some (c77, [.cell 2 true 19], 6) := by kernel_rfl
def c74 : AC := (.r [.u 1 .box 0,.v 2 (.bool false)] (.r [.p 3 .mov [.f 193]] (.r [.u 4 (.fld 10) 1,.u 5 (.load false 1) 4,.u 6 (.len 1 0) 5,.p 7 (.call 177) [.t 6,.i 1,.i 8],.m 8 7,.U 9 (.fld 10) 1 8 true,.U 10 (.load false 1) 9 8 true,.M 11 3 8 true,.B 12 (.call 194) 10 11 8 true,.U 13 (.un .not) 12 8 true,.p 14 .pick [.t 8,.t 13,.F],.m 2 14] .ret)))
theorem ok74e : compF Tryz.prog Tryz.f149 ⟨false, false, []⟩ = some (c74, [.tmp 2], 15) := by kernel_rfl
def c78 : AC := (.r [.u 1 .box 0,.v 2 (.bool false)] (.r [.p 3 .mov [.f 195]] (.r [.u 4 (.fld 11) 1,.u 5 (.load false 1) 4,.u 6 (.len 1 0) 5,.a 7 (.bin .leq) 6 8,.m 8 7,.U 9 (.fld 11) 1 8 true,.U 10 (.load false 1) 9 8 true,.M 11 3 8 true,.B 12 (.call 196) 10 11 8 true,.U 13 (.un .not) 12 8 true,.p 14 .pick [.t 8,.t 13,.F],.m 2 14] .ret)))
theorem ok78e : compF Tryz.prog Tryz.f153 ⟨false, false, []⟩ = some (c78, [.tmp 2], 15) := by kernel_rfl
def c43 : AC := (.r [.u 2 .box 0,.u 3 .box 1,.v 4 (.bool false)] (.r [.u 5 (.fld 0) 2,.u 6 (.load false 1) 5,.u 7 (.fld 0) 3,.u 8 (.load false 1) 7,.b 9 (.bin .eql) 6 8,.m 10 9,.U 11 (.fld 1) 2 10 true,.U 12 (.load false 1) 11 10 true,.U 13 (.fld 1) 3 10 true,.U 14 (.load false 1) 13 10 true,.B 15 (.bin .eql) 12 14 10 true,.p 16 .pick [.t 10,.t 15,.F],.m 17 16,.U 18 (.fld 2) 2 17 true,.U 19 (.load false 1) 18 17 true,.U 20 (.fld 2) 3 17 true,.U 21 (.load false 1) 20 17 true,.B 22 (.bin .eql) 19 21 17 true,.p 23 .pick [.t 17,.t 22,.F],.m 24 23,.U 25 (.fld 3) 2 24 true,.U 26 (.load true 5) 25 24 true,.U 27 (.fld 3) 3 24 true,.U 28 (.load true 5) 27 24 true,.B 29 (.eqv false (true, [.i .u8,.i .u8,.i .u8,.i .u16,.i .u16])) 26 28 24 true,.p 30 .pick [.t 24,.t 29,.F],.m 31 30,.U 32 (.fld 8) 2 31 true,.U 33 (.load true 2) 32 31 true,.U 34 (.fld 8) 3 31 true,.U 35 (.load true 2) 34 31 true,.B 36 (.eqv false (true, [.i .u8,.i .u16])) 33 35 31 true,.p 37 .pick [.t 31,.t 36,.F],.m 38 37,.U 39 (.fld 10) 2 38 true,.U 40 (.load false 1) 39 38 true,.U 41 (.fld 10) 3 38 true,.U 42 (.load false 1) 41 38 true,.B 43 (.call 117) 40 42 38 true,.p 44 .pick [.t 38,.t 43,.F],.m 45 44,.U 46 (.fld 11) 2 45 true,.U 47 (.load false 1) 46 45 true,.U 48 (.fld 11) 3 45 true,.U 49 (.load false 1) 48 45 true,.P 50 (.call 118) [.t 47,.t 49,.f 95] 45 true,.p 51 .pick [.t 45,.t 50,.F],.m 52 51,.U 53 (.fld 12) 2 52 true,.U 54 (.load true 7) 53 52 true,.U 55 (.fld 12) 3 52 true,.U 56 (.load true 7) 55 52 true,.B 57 (.eqv false (true, [.i .u8,.i .i64,.i .i64,.i .i64,.b,.b,.b])) 54 56 52 true,.p 58 .pick [.t 52,.t 57,.F],.m 4 58] .ret))
theorem ok43e : compF Tryz.prog Tryz.f90 ⟨false, false, []⟩ = some (c43, [.tmp 4], 59) := by kernel_rfl
def c27 : AC := (.r [.u 1 .box 0,.v 2 (.int .i64 0)] (.r [.u 7 (.fld 0) 1,.u 8 (.load false 1) 7,.u 9 (.call 89) 8,.m 6 9,.u 10 (.ext 0) 6,.u 11 (.ext 1) 6,.p 3 (.alloc [.nilfn,.nilfn,.nilfn,.nilfn]) [],⟨none,.store 4, [.t 3,.t 10], none⟩,.m 4 11] (.seq (.r [.m 12 4,.u 13 (.un .not) 12,.m 14 13,.U 15 (.fld 1) 3 14 false,.U 16 (.load false 1) 15 14 false,.U 17 (.load true 19) 1 14 false,.B 18 .callv 16 17 14 false,.U 19 (.un .not) 18 14 false,.p 20 .pick [.t 14,.T,.t 19],.m 21 20,.U 22 (.fld 1) 1 21 false,.U 23 (.load false 1) 22 21 false,.P 24 (.bin .geq) [.t 23,.c (.int .u8 16)] 21 false,.p 25 .pick [.t 21,.T,.t 24]] (.cond (.t 25) (.r [.v 2 (.int .i64 4)] .ret) .skip)) (.r [.u 26 (.fld 0) 3,.u 27 (.load false 1) 26,.u 28 (.load true 19) 1,.b 29 .callv 27 28,.p 5 (.alloc [.int .u8 0,.int .u8 0,.int .u16 0,.int .u8 0,.int .u8 0,.int .u8 0,.int .u16 0,.int .u16 0,.int .u8 0,.int .u16 0,.nilsl,.nilsl,.int .u8 0,.int .i64 0,.int .i64 0,.int .i64 0,.bool false,.bool false,.bool false]) [],⟨none,.store 19, [.t 5,.t 29], none⟩] (.r [.u 30 (.fld 0) 1,.u 31 (.load false 1) 30,.u 32 (.fld 0) 5,⟨none,.store 1, [.t 32,.t 31], none⟩] (.seq (.r [.u 33 (.fld 0) 1,.u 34 (.load false 1) 33,.p 35 (.bin .neq) [.t 34,.c (.int .u8 1)]] (.cond (.t 35) (.par (.step 0 (.u 36 (.fld 1) 1) (.step 2 (.u 38 (.fld 2) 1) (.step 1 (.u 37 (.load false 1) 36) (.step 4 (.u 40 (.fld 1) 5) (.alt (.step 3 (.u 39 (.load false 1) 38) (.step 5 ⟨none,.store 1, [.t 40,.t 37], none⟩ (.step 6 (.u 41 (.fld 2) 5) (.step 7 ⟨none,.store 1, [.t 41,.t 39], none⟩ .done)))) (.step 5 ⟨none,.store 1, [.t 40,.t 37], none⟩ (.step 3 (.u 39 (.load false 1) 38) (.step 6 (.u 41 (.fld 2) 5) (.step 7 ⟨none,.store 1, [.t 41,.t 39], none⟩ .done)))))))))) .skip)) (.seq (.r [.u 42 (.load true 19) 1,.u 43 (.load true 19) 5,.b 44 (.call 90) 42 43,.u 45 (.un .not) 44] (.cond (.t 45) (.r [.v 2 (.int .i64 4)] .ret) .skip)) (.r [.v 2 (.int .i64 0)] .ret))))))))
theorem ok27e : compF Tryz.prog Tryz.f52 ⟨false, false, []⟩ = some (c27, [.tmp 2], 46) := by kernel_rfl
def evV (kind client id : Int) (t r : V) : V := .agg [.int .u8 kind, .int .u8 client, .int .u16 id, .int .u8 0, .int .u8 0, .int .u8 0, .int .u16 0, .int .u16 0, .int .u8 0, .int .u16 0, t, r, .int .u8 0, .int .i64 0, .int .i64 0, .int .i64 0, .bool false, .bool false, .bool false]
theorem m_idxv {W : AW} {K : V → AW → Prop} {n s : Nat} {g : Bool} {cs : List V} {k : IntKind} {i : Int} : sem E (.idxv n s g) [.agg cs, .int k i] W K = if 0 ≤ i ∧ i < n then optK (partV cs (i.toNat * s) s g) (fun v => K v W) else False := by
 by_cases h : 0 ≤ i ∧ i < n
 ·simp only [sem, rsem, tsem, h, if_true, and_self]
  cases partV cs (i.toNat * s) s g <;> rfl
 ·simp only [sem, rsem, tsem, h, if_false]
def kindB : V := .agg [.fn (.func 148) [] [], .fn (.func 149) [] [], .fn (.func 150) [] [], .fn (.func 151) [] []]
def kindC : V := .agg [.fn (.func 152) [] [], .fn (.func 153) [] [], .fn (.func 154) [] [], .fn (.func 155) [] []]
def kindsL : List V := [.nilfn, .nilfn, .nilfn, .nilfn, .fn (.func 132) [] [], .fn (.func 133) [] [], .fn (.func 134) [] [], .fn (.func 135) [] [], .fn (.func 136) [] [], .fn (.func 137) [] [], .fn (.func 138) [] [], .fn (.func 139) [] [], .fn (.func 140) [] [], .fn (.func 141) [] [], .fn (.func 142) [] [], .fn (.func 143) [] [], .fn (.func 144) [] [], .fn (.func 145) [] [], .fn (.func 146) [] [], .fn (.func 147) [] [], .fn (.func 148) [] [], .fn (.func 149) [] [], .fn (.func 150) [] [], .fn (.func 151) [] [], .fn (.func 152) [] [], .fn (.func 153) [] [], .fn (.func 154) [] [], .fn (.func 155) [] [], .fn (.func 144) [] [], .fn (.func 145) [] [], .fn (.func 146) [] [], .fn (.func 147) [] []]
theorem kinds_c (hP : PE E) (W : AW) : ACalls E 116 [] W fun X W' => X = .agg kindsL ∧ W' = W := by
 refine ACalls.of hP Tryz.func116 ok49e (by simp) fun _ hok => ?_
 refine Af hok ?_
 simp only [c49, BZ, ↓reduceIte, nE, reduceCtorEq, BM, BD, nA, nL, nT]
 exact ⟨_, rfl, _, W, Ap hok rfl, lr _, rfl, rfl⟩
theorem of_c (hP : PE E) (W : AW) (k : Int) (hk : k = 5 ∨ k = 6) : ACalls E 89 [.int .u8 k] W fun X W' => X = .tuple [if k = 5 then kindB else kindC, .bool true] ∧ W' = W := by
 refine ACalls.of hP Tryz.func89 ok42e (by simp) fun _ hok => ?_
 refine Af hok ?_
 have h1 : decide (k < 1) = false := by simp; omega
 have h2 : decide (k > 7) = false := by simp; omega
 simp only [c42, BX, Aa, ↓reduceIte, nE, reduceCtorEq, BM, BD, h1, h2]
 refine pc (kinds_c hP _) ?_
 have e5 : partV kindsL (k.toNat * 4) 4 true = some (if k = 5 then kindB else kindC) := by
  rcases hk with rfl | rfl <;> rfl
 have h3 : (0 ≤ k ∧ k < ((8 : Nat) : Int)) = True := by simp; omega
 simp only [BS, BC, ↓reduceIte, nE, reduceCtorEq, BM, BD, nA, nL, nT, m_idxv, h3, e5]
 rcases hk with rfl | rfl
 ·simp only [BS, BC, ↓reduceIte, BM, BD, nA, nL, kindB]
  exact ⟨_, rfl, _, W, Ap hok rfl, lr _, rfl, rfl⟩
 ·simp only [BS, BC, ↓reduceIte, BM, BD, nA, nL, kindC, show ((6 : Int) = 5) = False by simp]
  exact ⟨_, rfl, _, W, Ap hok rfl, lr _, rfl, rfl⟩
theorem begun_c (hP : PE E) (W : AW) (k c i : Int) {t r : V} {l : List Mi} {s : List V} (h : isMs t l) (_ : isS 1 r s) : ACalls E 148 [evV k c i t r] W fun X W' => X = evV 0 0 0 t .nilsl ∧ W' = W := by
 refine ACalls.of hP Tryz.func148 ok73e (by simp) fun _ hok => ?_
 refine Af hok ?_
 simp only [c73, BZ, ↓reduceIte, nE, BM, BD, nA, nL, nT, evV, h.cells, h.one]
 refine ⟨_, rfl, _, W, Ap hok ?_, lr _, rfl, rfl⟩
 simp only [V.bel, V.belL, h.lens (J1 l _), Bool.and_true]
theorem Q0 (hP : PE E) (W : AW) (k c i : Int) {t r : V} {l : List Mi} {s : List V} (_ : isMs t l) (hr : isS 1 r s) (hb : V.belL W.nx s = true) : ACalls E 152 [evV k c i t r] W fun X W' => X = evV 0 0 0 .nilsl r ∧ W' = W := by
 refine ACalls.of hP Tryz.func152 ok77e (by simp) fun _ hok => ?_
 refine Af hok ?_
 simp only [c77, BZ, ↓reduceIte, nE, BM, BD, nA, nL, nT, evV, hr.cells, hr.one]
 refine ⟨_, rfl, _, W, Ap hok ?_, lr _, rfl, rfl⟩
 simp only [V.bel, V.belL, hr.lens hb, Bool.and_true]
theorem mayTxn_c (hP : PE E) (W : AW) (k c i : Int) {t r : V} {l : List Mi} {s : List V} (h : isMs t l) (_ : isS 1 r s) (hl : l.length < 2 ^ 40) : ACalls E 149 [evV k c i t r] W fun X W' => X = .bool (decide (1 ≤ l.length) && decide (l.length ≤ 8) && !l.any badMi) ∧ W' = W := by
 refine ACalls.of hP Tryz.func149 ok74e (by simp) fun _ hok => ?_
 refine Af hok ?_
 have e1 : decide ((1 : Int) ≤ (l.length : Int)) = decide (1 ≤ l.length) := by simp; omega
 have e2 : decide ((l.length : Int) ≤ 8) = decide (l.length ≤ 8) := by simp; omega
 simp only [c74, BZ, ↓reduceIte, nE, BM, BD, evV, h.len, lmp]
 refine pc (Yf hP _ _ _ _) ?_
 cases hb : decide (1 ≤ l.length) && decide (l.length ≤ 8) with
 | false =>
  simp only [BS, BC, Aa, ↓reduceIte, nE, BM, e1, e2, hb]
  exact ⟨_, rfl, _, W, Ap hok rfl, lr _, by simp, rfl⟩
 | true =>
  simp only [BS, BC, Aa, ↓reduceIte, nE, BM, BD, e1, e2, hb, h.frz]
  refine pc (anyMi_c hP _ h hl) ?_
  simp only [BS, BC, Aa, ↓reduceIte, nE]
  exact ⟨_, rfl, _, W, Ap hok rfl, lr _, by simp, rfl⟩
theorem Sk (hP : PE E) (W : AW) (k c i : Int) {t r : V} {l : List Mi} {ls : List (Option (List Int))} (_ : isMs t l) (hr : isLs r ls) (hl : ls.length < 2 ^ 40) : ACalls E 153 [evV k c i t r] W fun X W' => X = .bool (decide (ls.length ≤ 8) && !ls.any longL) ∧ W' = W := by
 obtain ⟨xs, i1, i2, _⟩ := id hr
 refine ACalls.of hP Tryz.func153 ok78e (by simp) fun _ hok => ?_
 refine Af hok ?_
 have e2 : decide ((ls.length : Int) ≤ 8) = decide (ls.length ≤ 8) := by simp; omega
 cases hb : decide (ls.length ≤ 8) with
 | false =>
  simp only [c78, BZ, Aa, ↓reduceIte, nE, BM, BD, evV, i1.len, i2, e2, hb]
  exact ⟨_, rfl, _, W, Ap hok rfl, lr _, by simp, rfl⟩
 | true =>
  simp only [c78, BZ, Aa, ↓reduceIte, nE, BM, BD, evV, i1.len, i2, e2, hb, i1.frz]
  refine pc (anyLs_c hP _ hr hl) ?_
  simp only [BS, BC, Aa, ↓reduceIte, nE]
  exact ⟨_, rfl, _, W, Ap hok rfl, lr _, by simp, rfl⟩
theorem eqv_op {W : AW} {K : V → AW → Prop} : sem E (.eqv false (true, [.i .u8, .i .u8, .i .u8, .i .u16, .i .u16])) [.agg [.int .u8 0, .int .u8 0, .int .u8 0, .int .u16 0, .int .u16 0], .agg [.int .u8 0, .int .u8 0, .int .u8 0, .int .u16 0, .int .u16 0]] W K = K (.bool true) W := id rfl
theorem eqv_res {W : AW} {K : V → AW → Prop} : sem E (.eqv false (true, [.i .u8, .i .u16])) [.agg [.int .u8 0, .int .u16 0], .agg [.int .u8 0, .int .u16 0]] W K = K (.bool true) W := id rfl
theorem eqv_cf {W : AW} {K : V → AW → Prop} : sem E (.eqv false (true, [.i .u8, .i .i64, .i .i64, .i .i64, .b, .b, .b])) [.agg [.int .u8 0, .int .i64 0, .int .i64 0, .int .i64 0, .bool false, .bool false, .bool false], .agg [.int .u8 0, .int .i64 0, .int .i64 0, .int .i64 0, .bool false, .bool false, .bool false]] W K = K (.bool true) W := id rfl
theorem Pi (hP : PE E) (W : AW) (k c i : Int) {t r : V} {l : List Mi} {ls : List (Option (List Int))} (h : isMs t l) (hr : isLs r ls) (ho : ∀ m ∈ l, m.ok) (hl : l.length < 2 ^ 40) (hls : ls.length < 2 ^ 40) (hs : ∀ x ∈ ls, (nums x).length < 2 ^ 40) :
  ACalls E 90 [evV k c i t r, evV k c i t r] W fun X W' => X = .bool true ∧ W' = W := by
 obtain ⟨xs, i1, i2, _⟩ := id hr
 refine ACalls.of hP Tryz.func90 ok43e (by simp) fun _ hok => ?_
 refine Af hok ?_
 simp only [c43, BZ, Aa, ↓reduceIte, nE, BM, BD, nA, nL, evV, beq_self_eq_true, eqv_op, eqv_res, h.frz]
 refine pc (eqMi_c hP _ h h ho ho hl) ?_
 simp only [BS, BC, Aa, ↓reduceIte, nE, BM, BD, dT, i1.frz]
 refine pc (eqFunc_c hP _ hr hr hls hs) ?_
 simp only [BS, BC, Aa, ↓reduceIte, nE, BM, BD, nA, nL, sameLs, dT, eqv_cf]
 exact ⟨_, rfl, _, W, Ap hok rfl, lr _, rfl, rfl⟩
def okB (c : Int) (l : List Mi) : Bool := (decide (1 ≤ l.length) && decide (l.length ≤ 8) && !l.any badMi) && decide (c < 16)
def okC (ls : List (Option (List Int))) : Bool := decide (ls.length ≤ 8) && !ls.any longL
theorem checkB_c (hP : PE E) (W : AW) (c i : Int) {t : V} {l : List Mi} (h : isMs t l) (ho : ∀ m ∈ l, m.ok) (hl : l.length < 2 ^ 40) :
  ACalls E 52 [evV 5 c i t .nilsl] W fun X W' => X = .int .i64 (if okB c l then 0 else 4) ∧ W' = W := by
 refine ACalls.of hP Tryz.func52 ok27e (by simp) fun _ hok => ?_
 refine Af hok ?_
 have hn : isLs .nilsl [] := ⟨[], .inl ⟨rfl, rfl⟩, rfl, fun k h => by simp at h⟩
 have hs : isS 1 .nilsl ([] : List V) := .inl ⟨rfl, rfl⟩
 simp only [c27, BZ, ↓reduceIte, nE, BM, BD, evV]
 refine pc (of_c hP _ 5 (.inl rfl)) ?_
 simp only [BZ, Aa, ↓reduceIte, nE, BM, BD, nA, nL, nT, kindB]
 refine pc (mayTxn_c hP _ 5 c i h hs hl) ?_
 cases hm : (decide (1 ≤ l.length) && decide (l.length ≤ 8) && !l.any badMi) with
 | false =>
  simp only [BX, Aa, ↓reduceIte, nE, BM, BD]
  exact ⟨_, rfl, _, W, Ap hok rfl, lr _, by simp [okB, hm], rfl⟩
 | true =>
  by_cases hc : c ≥ 16
  ·simp only [BX, Aa, ↓reduceIte, nE, BM, BD, decide_eq_true hc]
   exact ⟨_, rfl, _, W, Ap hok rfl, lr _, by simp [okB, hm]; omega, rfl⟩
  ·simp only [BX, Aa, ↓reduceIte, nE, BM, BD, nA, nL, decide_eq_false hc]
   refine pc (begun_c hP _ 5 c i h hs) ?_
   simp only [BX, ↓reduceIte, nE, BM, BD, nA, nL, nT, evV, h.one, show ((5 : Int) != 1) = true by decide]
   simp only [and_self]
   refine pc (Pi hP _ 5 c i h hn ho hl (by simp) (by simp)) ?_
   simp only [BX, ↓reduceIte, BD]
   exact ⟨_, rfl, _, W, Ap hok rfl, lr _, by simp [okB, hm]; omega, rfl⟩
theorem checkC_c (hP : PE E) (W : AW) (i : Int) {r : V} {ls : List (Option (List Int))} (hr : isLs r ls) (hl : ls.length < 2 ^ 40) (hs : ∀ x ∈ ls, (nums x).length < 2 ^ 40) (hb : r.bel 0 = true) :
  ACalls E 52 [evV 6 0 i .nilsl r] W fun X W' => X = .int .i64 (if okC ls then 0 else 4) ∧ W' = W := by
 refine ACalls.of hP Tryz.func52 ok27e (by simp) fun _ hok => ?_
 refine Af hok ?_
 obtain ⟨xs, i1, i2, i3⟩ := id hr
 have hn : isMs .nilsl [] := .inl ⟨rfl, rfl⟩
 simp only [c27, BZ, ↓reduceIte, nE, BM, BD, evV]
 refine pc (of_c hP _ 6 (.inr rfl)) ?_
 simp only [BZ, Aa, ↓reduceIte, nE, BM, BD, nA, nL, nT, kindC, show ((6 : Int) = 5) = False by simp]
 refine pc (Sk hP _ 6 0 i hn hr hl) ?_
 cases hm : (decide (ls.length ≤ 8) && !ls.any longL) with
 | false =>
  simp only [BX, Aa, ↓reduceIte, nE, BM, BD]
  exact ⟨_, rfl, _, W, Ap hok rfl, lr _, by simp [okC, hm], rfl⟩
 | true =>
  simp only [BX, Aa, ↓reduceIte, nE, BM, BD, nA, nL, show decide ((0 : Int) ≥ 16) = false by decide]
  have hb2 : ∀ n, V.belL n xs = true := by
   intro n
   rcases i1 with ⟨_, rfl⟩ | ⟨_, rfl⟩ | ⟨f, rfl⟩
   ·rfl
   ·rfl
   ·exact D4 (Nat.zero_le n) _ hb
  refine pc (Q0 hP _ 6 0 i hn i1 (hb2 _)) ?_
  simp only [BX, ↓reduceIte, nE, BM, BD, nA, nL, nT, evV, i1.one, show ((6 : Int) != 1) = true by decide]
  simp only [and_self]
  refine pc (Pi hP _ 6 0 i hn hr (by simp) (by simp) hl hs) ?_
  simp only [BX, ↓reduceIte, BD]
  exact ⟨_, rfl, _, W, Ap hok rfl, lr _, by simp [okC, hm], rfl⟩
def c30 : AC := (.r [.v 2 (.bool false)] (.r [.m 3 0,.p 4 (.eqn true 0) [.t 3,.c (.nilptr)],.m 5 4,.M 6 0 5 true,.U 7 .nilck 6 5 true,.U 8 (.fld 0) 7 5 true,.U 9 (.load false 1) 8 5 true,.P 10 (.eqn true 2) [.t 9,.c (.nilmap)] 5 true,.p 11 .pick [.t 5,.t 10,.F],.m 2 11] .ret))
theorem ok30e : compF Tryz.prog Tryz.f49 ⟨false, false, []⟩ = some (c30, [.tmp 2], 12) := by kernel_rfl
def c7 : AC := (.r [.v 0 (.nilptr)] (.r [.p 1 .mkmap [],.p 2 .mkmap [],.p 3 (.build [.nilmap,.nilmap,.int .i64 0] [(0, 1), (1, 1), (2, 1)]) [.t 1,.t 2,.c (.int .i64 (-1))],.u 4 .box 3,.m 0 4] .ret))
theorem ok7e : compF Tryz.prog Tryz.f27 ⟨false, false, []⟩ = some (c7, [.tmp 0], 5) := by kernel_rfl
def c26 : AC := (.r [.p 4 (.alloc [.int .u16 0,.int .u8 0,.nilsl,.nilsl,.int .u8 0]) [],.v 5 (.int .i64 0)] (.seq (.r [.m 8 0,.u 9 (.call 49) 8,.u 10 (.un .not) 9] (.cond (.t 10) (.r [.p 11 (.build [.int .u16 0,.int .u8 0,.nilsl,.nilsl,.int .u8 0] []) [],⟨none,.store 5, [.t 4,.t 11], none⟩,.v 5 (.int .i64 1)] .ret) .skip)) (.r [.m 13 0,.u 14 .nilck 13,.u 15 (.fld 0) 14,.u 16 (.load false 1) 15,.m 17 1,.b 18 (.lookup (false, [.i .u16]) (.agg [.int .u16 0,.int .u8 0,.nilsl,.nilsl,.int .u8 0]) true) 16 17,.m 12 18,.u 19 (.ext 0) 12,.u 20 (.ext 1) 12,.p 6 (.alloc [.int .u16 0,.int .u8 0,.nilsl,.nilsl,.int .u8 0]) [],⟨none,.store 5, [.t 6,.t 19], none⟩,.m 7 20] (.seq (.r [.m 21 7,.u 22 (.un .not) 21,.m 23 22,.U 24 (.fld 4) 6 23 false,.U 25 (.load false 1) 24 23 false,.P 26 (.bin .neq) [.t 25,.c (.int .u8 0)] 23 false,.p 27 .pick [.t 23,.T,.t 26]] (.cond (.t 27) (.r [.p 28 (.build [.int .u16 0,.int .u8 0,.nilsl,.nilsl,.int .u8 0] []) [],⟨none,.store 5, [.t 4,.t 28], none⟩,.v 5 (.int .i64 7)] .ret) .skip)) (.r [.u 29 (.load true 5) 6,⟨none,.store 5, [.t 4,.t 29], none⟩,.v 5 (.int .i64 0)] .ret)))))
theorem ok26e : compF Tryz.prog Tryz.f51 ⟨false, false, []⟩ = some (c26, [.cell 4 true 5, .tmp 5], 30) := by kernel_rfl
def c29 : AC := (.r [.v 6 (.int .i64 0)] (.r [.m 10 0,.m 11 1,.b 12 (.call 51) 10 11,.m 9 12,.u 13 (.ext 0) 9,.u 14 (.ext 1) 9,.p 7 (.alloc [.int .u16 0,.int .u8 0,.nilsl,.nilsl,.int .u8 0]) [],⟨none,.store 5, [.t 7,.t 13], none⟩,.m 8 14] (.seq (.r [.m 15 8,.a 16 (.bin .eql) 15 0] (.cond (.t 16) (.r [.m 17 2,.u 18 (.fld 4) 7,⟨none,.store 1, [.t 18,.t 17], none⟩] (.par (.step 0 (.m 19 0) (.step 1 (.u 20 .nilck 19) (.step 2 (.u 21 (.fld 0) 20) (.step 4 (.m 23 1) (.step 3 (.u 22 (.load false 1) 21) (.step 5 (.u 24 (.load true 5) 7) (.step 6 ⟨none,.mupd (false, [.i .u16]), [.t 22,.t 23,.t 24], none⟩ .done))))))))) .skip)) (.r [.m 25 8,.m 6 25] .ret))))
theorem ok29e : compF Tryz.prog Tryz.f62 ⟨false, false, []⟩ = some (c29, [.tmp 6], 26) := by kernel_rfl
def c9 : AC := (.r [.v 4 (.int .i64 0)] (.r [.m 5 0,.m 6 1,.p 7 (.call 62) [.t 5,.t 6,.c (.int .u8 2)],.m 4 7] .ret))
theorem ok9e : compF Tryz.prog Tryz.f36 ⟨false, false, []⟩ = some (c9, [.tmp 4], 8) := by kernel_rfl
def c10 : AC := (.r [.v 4 (.int .i64 0)] (.r [.m 5 0,.m 6 1,.p 7 (.call 62) [.t 5,.t 6,.c (.int .u8 3)],.m 4 7] .ret))
theorem ok10e : compF Tryz.prog Tryz.f37 ⟨false, false, []⟩ = some (c10, [.tmp 4], 8) := by kernel_rfl
def c16 : AC := (.r [.p 4 (.alloc [.int .u16 0,.int .u8 0,.nilsl,.nilsl,.int .u8 0]) [],.v 5 (.bool false)] (.seq (.r [.m 8 0,.u 9 (.call 49) 8,.u 10 (.un .not) 9] (.cond (.t 10) (.r [.p 11 (.build [.int .u16 0,.int .u8 0,.nilsl,.nilsl,.int .u8 0] []) [],⟨none,.store 5, [.t 4,.t 11], none⟩,.v 5 (.bool false)] .ret) .skip)) (.r [.m 13 0,.u 14 .nilck 13,.u 15 (.fld 0) 14,.u 16 (.load false 1) 15,.m 17 1,.b 18 (.lookup (false, [.i .u16]) (.agg [.int .u16 0,.int .u8 0,.nilsl,.nilsl,.int .u8 0]) true) 16 17,.m 12 18,.u 19 (.ext 0) 12,.u 20 (.ext 1) 12,.p 6 (.alloc [.int .u16 0,.int .u8 0,.nilsl,.nilsl,.int .u8 0]) [],⟨none,.store 5, [.t 6,.t 19], none⟩,.m 7 20] (.r [.u 21 (.load true 5) 6,.u 22 (.call 50) 21,.m 23 7,⟨none,.store 5, [.t 4,.t 22], none⟩,.m 5 23] .ret))))
theorem ok16e : compF Tryz.prog Tryz.f18 ⟨false, false, []⟩ = some (c16, [.cell 4 true 5, .tmp 5], 24) := by kernel_rfl
def c21 : AC := (.r [.p 6 (.alloc [.int .u16 0,.int .u8 0,.nilsl,.nilsl,.int .u8 0]) [],.v 7 (.bool false)] (.seq (.r [.m 10 0,.u 11 (.call 49) 10,.u 12 (.un .not) 11] (.cond (.t 12) (.r [.p 13 (.build [.int .u16 0,.int .u8 0,.nilsl,.nilsl,.int .u8 0] []) [],⟨none,.store 5, [.t 6,.t 13], none⟩,.v 7 (.bool false)] .ret) .skip)) (.r [.m 15 0,.u 16 .nilck 15,.u 17 (.fld 1) 16,.u 18 (.load false 1) 17,.m 19 1,.m 20 2,.b 21 (.build [.int .u8 0,.int .u16 0] [(0, 1), (1, 1)]) 19 20,.b 22 (.lookup (true, [.i .u8,.i .u16]) (.int .u16 0) true) 18 21,.m 14 22,.u 23 (.ext 0) 14,.u 24 (.ext 1) 14,.m 8 23,.m 9 24] (.seq (.r [.m 25 9,.u 26 (.un .not) 25] (.cond (.t 26) (.r [.p 27 (.build [.int .u16 0,.int .u8 0,.nilsl,.nilsl,.int .u8 0] []) [],⟨none,.store 5, [.t 6,.t 27], none⟩,.v 7 (.bool false)] .ret) .skip)) (.r [.m 28 0,.m 29 8,.b 30 (.call 18) 28 29,.u 31 (.ext 0) 30,.u 32 (.ext 1) 30,⟨none,.store 5, [.t 6,.t 31], none⟩,.m 7 32] .ret)))))
theorem ok21e : compF Tryz.prog Tryz.f73 ⟨false, false, []⟩ = some (c21, [.cell 6 true 5, .tmp 7], 33) := by kernel_rfl
structure Tx where
 id : Int
 client : Int
 ms : List Mi
 ls : List (Option (List Int))
 st : Int
 deriving DecidableEq
def Tx.V (t : Tx) : V := .agg [.int .u16 t.id, .int .u8 t.client, msV t.ms, lsV t.ls, .int .u8 t.st]
def Tx.zero : Tx := ⟨0, 0, [], [], 0⟩
structure Tx.ok (t : Tx) : Prop where
 id0 : 0 ≤ t.id
 id1 : t.id < 65536
 cl0 : 0 ≤ t.client
 cl1 : t.client < 256
 ms : ∀ m ∈ t.ms, m.ok
 msl : t.ms.length ≤ 8
 lsl : t.ls.length ≤ 8
 ls : ∀ o ∈ t.ls, (nums o).length ≤ 32 ∧ ∀ n ∈ nums o, 0 ≤ n ∧ n < 65536
 st : 0 ≤ t.st ∧ t.st < 4
abbrev Str := List Tx
def lastId (s : Str) : Int := match s.getLast? with
 | some t => t.id
 | none => -1
def find (s : Str) (i : Int) : Option Tx := s.find? fun t => decide (t.id = i)
def has (t : Tx) (k v : Int) : Bool := t.ms.any fun m => !m.read && (decide (m.key = k) && decide (m.v = v))
def who (s : Str) (k v : Int) : Option Tx := s.find? fun t => has t k v
def upd (s : Str) (x : Tx) : Str := match s with
 | [] => []
 | t :: s => if t.id = x.id then x :: s else t :: upd s x
def esFrom : Nat → Str → List En
 | _, [] => []
 | n, t :: s => (.int .u16 t.id, t.V, n) :: esFrom (n + 1) s
structure SOk (s : Str) : Prop where
 ok : ∀ t ∈ s, t.ok
 lt : s.Pairwise fun a b => a.id < b.id
def kV (k v : Int) : V := .agg [.int .u8 k, .int .u16 v]
def KeysK (ws : List En) : Prop := ∀ e ∈ ws, ∃ k v n, e.1 = kV k v ∧ e.2.1 = .int .u16 n ∧ 0 ≤ k ∧ k < 256 ∧ 0 ≤ v ∧ v < 65536
structure WsOk (ws : List En) (s : Str) : Prop where
 key : KeysK ws
 val : ∀ k v, (findK (kV k v) ws).map (·.2.1) = (who s k v).map fun t => .int .u16 t.id
structure St (W : AW) (p ra rw : Nat) (s : Str) : Prop where
 hp : W.get p = some (.row [.map ra, .map rw, .int .i64 (lastId s)])
 ha : W.get ra = some (.map (esFrom 0 s) s.length)
 hw : ∃ ws cw, W.get rw = some (.map ws cw) ∧ WsOk ws s
 ne : ra ≠ rw
 lp : p < W.nx
 la : ra < W.nx
 lw : rw < W.nx
 ok : SOk s
theorem To {i : Int} (h0 : 0 ≤ i) (h1 : i < 65536) : (V.int .u16 i).has (false, [.i .u16]) = true := by
 simp [V.has, V.isAgg, V.cells, V.hasKs, V.hasK, Lit.wf, IntKind.min, IntKind.max, IntKind.signed, IntKind.bits]
 omega
theorem kV_has {k v : Int} (h0 : 0 ≤ k) (h1 : k < 256) (h2 : 0 ≤ v) (h3 : v < 65536) : (kV k v).has (true, [.i .u8, .i .u16]) = true := by
 simp [kV, V.has, V.isAgg, V.cells, V.hasKs, V.hasK, Lit.wf, IntKind.min, IntKind.max, IntKind.signed, IntKind.bits]
 omega
theorem Ut {k k' : IntKind} {a b : Int} : (V.int k a).keq (.int k' b) = decide (a = b) := by
 simp only [V.keq, V.cells, V.eqs, V.eq1, Bool.and_true, D8]
theorem Hi {k v k' v' : Int} : (kV k v).keq (kV k' v') = (decide (k = k') && decide (v = v')) := by
 simp only [kV, V.keq, V.cells, V.eqs, V.eq1, Bool.and_true, D8]
theorem G1 {s : Str} (h : ∀ t ∈ s, t.ok) {i : Int} (h0 : 0 ≤ i) (h1 : i < 65536) : ∀ n, keysOk (false, [.i .u16]) (.int .u16 i) (esFrom n s) := by
 intro n
 refine ⟨To h0 h1, ?_⟩
 induction s generalizing n with
 | nil => intro e he; simp [esFrom] at he
 | cons t s ih =>
  intro e he
  rcases List.mem_cons.1 he with rfl | he
  ·exact To (h t (by simp)).id0 (h t (by simp)).id1
  ·exact ih (fun x hx => h x (by simp [hx])) _ e he
theorem N3 (s : Str) (i : Int) : ∀ n, (findK (.int .u16 i) (esFrom n s)).map (·.2.1) = (find s i).map Tx.V := by
 induction s with
 | nil => intro n; rfl
 | cons t s ih =>
  intro n
  simp only [esFrom, findK, find, List.find?_cons, Ut]
  by_cases h : t.id = i
  ·have h' : i = t.id := h.symm
   simp [h']
  ·have h' : ¬ (i = t.id) := fun e => h e.symm
   simp only [decide_eq_false h, decide_eq_false h', Bool.false_eq_true, if_false]
   exact ih (n + 1)
theorem es_upd (s : Str) (x : Tx) : ∀ n, updK (.int .u16 x.id) x.V (esFrom n s) = esFrom n (upd s x) := by
 induction s with
 | nil => intro n; rfl
 | cons t s ih =>
  intro n
  simp only [esFrom, updK, upd, Ut]
  by_cases h : t.id = x.id
  ·have h' : x.id = t.id := h.symm
   simp [h', esFrom]
  ·have h' : ¬ (x.id = t.id) := fun e => h e.symm
   simp only [decide_eq_false h', h, Bool.false_eq_true, if_false, esFrom, ih]
theorem es_app (s : Str) (x : Tx) : ∀ n, esFrom n (s ++ [x]) = esFrom n s ++ [(.int .u16 x.id, x.V, n + s.length)] := by
 induction s with
 | nil => intro n; simp [esFrom]
 | cons t s ih =>
  intro n
  simp only [List.cons_append, esFrom, ih, lcs]
  rw [show n + 1 + s.length = n + (s.length + 1) by omega]
theorem es_len (s : Str) : ∀ n, (esFrom n s).length = s.length := by
 induction s with
 | nil => intro n; rfl
 | cons t s ih => intro n; simp [esFrom, ih]
def lookK (_ : Bool × List SK) (z : V) (ok : Bool) (key : V) (es : List En) (k : V → Prop) : Prop := match (findK key es).map (·.2.1) with
 | some v => k (if ok = true then .tuple [v, .bool true] else v)
 | none => k (if ok = true then .tuple [z, .bool false] else z)
theorem D7 {W : AW} {K : V → AW → Prop} {sh : Bool × List SK} {z key : V} {ok : Bool} {r c : Nat} {es : List En} (h : W.get r = some (.map es c)) (hk : keysOk sh key es) : sem E (.lookup sh z ok) [.map r, key] W K = lookK sh z ok key es (fun v => K v W) := by
 simp only [sem, h, lookK]
 cases hf : findK key es with
 | none => exact propext ⟨fun h => h.2, fun h => ⟨hk, h⟩⟩
 | some e => exact propext ⟨fun h => h.2, fun h => ⟨hk, h⟩⟩
theorem Ix {sh : Bool × List SK} {z : V} {ok : Bool} {s : Str} {n : Nat} {i : Int} {k : V → Prop} : lookK sh z ok (.int .u16 i) (esFrom n s) k = (match find s i with
  | some t => k (if ok = true then .tuple [t.V, .bool true] else t.V)
  | none => k (if ok = true then .tuple [z, .bool false] else z)) := by
 simp only [lookK, N3]
 cases find s i <;> rfl
theorem Fe {sh : Bool × List SK} {z : V} {ok : Bool} {s : Str} {ws : List En} {a b : Int} {k : V → Prop} (h : WsOk ws s) : lookK sh z ok (kV a b) ws k = (match who s a b with
  | some t => k (if ok = true then .tuple [.int .u16 t.id, .bool true] else .int .u16 t.id)
  | none => k (if ok = true then .tuple [z, .bool false] else z)) := by
 simp only [lookK, h.val]
 cases who s a b <;> rfl
theorem Hq {ws : List En} (h : KeysK ws) {k v : Int} (h0 : 0 ≤ k) (h1 : k < 256) (h2 : 0 ≤ v) (h3 : v < 65536) : keysOk (true, [.i .u8, .i .u16]) (kV k v) ws := by
 refine ⟨kV_has h0 h1 h2 h3, fun e he => ?_⟩
 obtain ⟨k, v, n, e1, _, a, b, c, d⟩ := h e he
 rw [e1]; exact kV_has a b c d
theorem Tk {ws : List En} {s : Str} (h : WsOk ws s) {k v : Int} (h0 : 0 ≤ k) (h1 : k < 256) (h2 : 0 ≤ v) (h3 : v < 65536) : keysOk (true, [.i .u8, .i .u16]) (kV k v) ws := Hq h.key h0 h1 h2 h3
theorem L5 (l : List Mi) : (msV l).cells = [msV l] := (De l).cells
theorem Ce (l : List Mi) : (msV l).one = true := (De l).one
theorem Jv (l : List Mi) (n : Nat) : (msV l).bel n = true := (De l).lens (J1 l n)
theorem lsV_S (l : List (Option (List Int))) : ∃ xs, isS 1 (lsV l) xs := by
 obtain ⟨xs, h, _⟩ := lsV_isLs l; exact ⟨xs, h⟩
theorem L9 (l : List (Option (List Int))) : (lsV l).cells = [lsV l] := by
 obtain ⟨xs, h⟩ := lsV_S l; exact h.cells
theorem Cb (l : List (Option (List Int))) : (lsV l).one = true := by
 obtain ⟨xs, h⟩ := lsV_S l; exact h.one
theorem Vg (o : Option (List Int)) (n : Nat) : (elV o).bel n = true := by
 cases o with
 | none => rfl
 | some l => exact Dc l n
theorem Jw (l : List (Option (List Int))) (n : Nat) : (lsV l).bel n = true := by
 unfold lsV
 split
 ·rfl
 ·rename_i h; clear h
  show V.belL n (l.map elV) = true
  induction l with
  | nil => rfl
  | cons x l ih =>
   simp only [mcs, V.belL, Bool.and_eq_true]
   exact ⟨Vg x n, ih⟩
theorem Yn (t : Tx) (n : Nat) : t.V.bel n = true := by
 simp only [Tx.V, V.bel, V.belL, Jv, Jw, Bool.and_true]
theorem msV_frz {W : AW} (l : List Mi) : W.frz (msV l) = msV l := (De l).frz
theorem lsV_frz {W : AW} (l : List (Option (List Int))) : W.frz (lsV l) = lsV l := by
 obtain ⟨xs, h⟩ := lsV_S l; exact h.frz
theorem zero_V : V.agg [.int .u16 0, .int .u8 0, .nilsl, .nilsl, .int .u8 0] = Tx.zero.V := id rfl
theorem G0 {s : Str} {i : Int} {t : Tx} (hs : SOk s) (h : find s i = some t) : t ∈ s ∧ t.id = i ∧ t.ok := by
 have h1 := List.mem_of_find?_eq_some h
 have h2 := List.find?_some h
 exact ⟨h1, by simpa using h2, hs.ok t h1⟩
theorem is_c (hP : PE E) (W : AW) {p ra : Nat} {r : List V} (h : W.get p = some (.row (.map ra :: r))) : ACalls E 49 [.ptr p 0] W fun Y W' => Y = .bool true ∧ W' = W := by
 refine ACalls.of hP Tryz.func49 ok30e (by simp) fun _ hok => ?_
 simp only [c30, BZ, Aa, ↓reduceIte, nE, reduceCtorEq, BM, BD, h]
 exact ⟨_, rfl, _, _, .weak Ab, lr _, rfl, rfl⟩
theorem Zh (hP : PE E) (W : AW) {t : Tx} (h : t.ok) : ACalls E 50 [t.V] W fun Y W' => Y = t.V ∧ W' = W := by
 refine ACalls.of hP Tryz.func50 ok36e (by simp) fun _ hok => ?_
 refine Af hok ?_
 have hm := De t.ms
 have hc : cloneV 3 (msV t.ms) = msV t.ms := by
  unfold msV
  split
  ·rfl
  ·cases h : t.ms with
   | nil => contradiction
   | cons a l => rfl
 obtain ⟨xs, hx⟩ : ∃ xs, xs = t.ls.map elV := ⟨_, rfl⟩
 have i1 : isS 1 (lsV t.ls) xs := by
  rw [hx]; unfold lsV
  split
  ·rename_i h; rw [h]; exact .nil
  ·exact .mk
 have i2 : xs.length = t.ls.length := by rw [hx]; simp
 have hL : ∀ x ∈ xs, isL x := by
  intro x hx'
  rw [hx] at hx'
  obtain ⟨o, ho, rfl⟩ := List.mem_map.1 hx'
  cases o with
  | none => exact .inl rfl
  | some l =>
   refine .inr (.inr ⟨_, intsV l, rfl, Dc l 0, ?_⟩)
   rw [Ak]
   have := (h.ls _ ho).1
   simp only [nums, Option.getD_some] at this
   omega
 have hlv : listsV xs = lsV t.ls := by
  rw [hx]
  unfold listsV lsV
  by_cases h0 : t.ls = []
  ·simp [h0]
  ·simp only [List.map_eq_nil_iff, h0, if_false, List.map_map]
   congr 1
   apply List.map_congr_left
   intro o _
   cases o with
   | none => rfl
   | some l => cases l <;> rfl
 have hll : xs.length < 2 ^ 40 := by have := h.lsl; omega
 have hml : (t.ms.map Mi.V).length < 2 ^ 40 := by have := h.msl; simp; omega
 simp only [c36, BZ, ↓reduceIte, nE, BM, BD, Nm, nA, nL, nT, msV_frz, lsV_frz, Tx.V]
 refine ⟨_, (Ms hP _ _ _ hm (J1 _ _) hml), ?_⟩
 rw [hc]
 simp only [↓reduceIte, nE, BD, nL, L5, Ce]
 refine ⟨_, (Uq hP _ _ xs i1 hL hll), ?_⟩
 rw [hlv]
 simp only [BS, BC, ↓reduceIte, BM, BD, nA, nL, L9, Cb]
 exact ⟨_, rfl, _, W, Ap hok (Yn t _), lr _, rfl, rfl⟩
theorem S3 (hP : PE E) (W : AW) {p ra rw : Nat} {s : Str} (h : St W p ra rw s) (i : Int) (h0 : 0 ≤ i) (h1 : i < 65536) :
  ACalls E 18 [.ptr p 0, .int .u16 i] W fun Y W' => Y = .tuple [((find s i).getD Tx.zero).V, .bool (find s i).isSome] ∧ W' = W := by
 refine ACalls.of hP Tryz.func18 ok16e (by simp) fun _ hok => ?_
 refine Af hok ?_
 have hla := h.la
 have hlp := h.lp
 simp only [c16, BZ, ↓reduceIte, reduceCtorEq, BM, BD]
 refine pc (is_c hP _ (r := [.map rw, .int .i64 (lastId s)]) (by rw [Aj h.lp]; exact h.hp)) ?_
 have hr : ∀ l, (X W W.nx l).get ra = some (.map (esFrom 0 s) s.length) := fun l => by rw [Aj h.la]; exact h.ha
 simp (disch:=omega) only [BX, ↓reduceIte, nE, reduceCtorEq, BM, BD, nA, nL, nT, h.hp, D7 (hr _) (G1 h.ok.ok h0 h1 0), Ix]
 cases hf : find s i with
 | none =>
  simp only [zero_V]
  refine pc (Zh hP _ (t := Tx.zero) ⟨by decide, by decide, by decide, by decide, by simp [Tx.zero], by decide, by decide, by simp [Tx.zero], by decide⟩) ?_
  simp only [BS, BC, ↓reduceIte, nE, BM, BD, nA, nL, nT, Ce, Cb, Tx.V]
  exact ⟨_, rfl, _, W, Ap hok rfl, lr _, rfl, rfl⟩
 | some t =>
  simp only [↓reduceIte, BM, BD, nA, nL, Ce, Cb, Tx.V]
  refine pc (Zh hP _ (t := t) (G0 h.ok hf).2.2) ?_
  simp only [BS, BC, ↓reduceIte, nE, BM, BD, nA, nL, nT, Ce, Cb, Tx.V]
  refine ⟨_, rfl, _, W, Ap hok ?_, lr _, rfl, rfl⟩
  simp only [V.bel, V.belL, Jv, Jw, Bool.and_true]
theorem Iy {s : Str} (h : s.Pairwise fun a b => a.id < b.id) {t : Tx} (ht : t ∈ s) : find s t.id = some t := by
 induction s with
 | nil => simp at ht
 | cons x s ih =>
  have hp := List.pairwise_cons.1 h
  simp only [find, List.find?_cons]
  rcases List.mem_cons.1 ht with rfl | ht
  ·simp
  ·have hne : x.id ≠ t.id := by have := hp.1 t ht; omega
   simp only [decide_eq_false hne]
   exact ih hp.2 ht
theorem Hs {s : Str} {k v : Int} {t : Tx} (h : who s k v = some t) : t ∈ s ∧ S.has t k v = true := by
 unfold who at h
 exact ⟨List.mem_of_find?_eq_some h, by simpa using List.find?_some h⟩
theorem Tl (hP : PE E) (W : AW) {p ra rw : Nat} {s : Str} (h : St W p ra rw s) (k v : Int) (h0 : 0 ≤ k) (h1 : k < 256) (h2 : 0 ≤ v) (h3 : v < 65536) :
  ACalls E 73 [.ptr p 0, .int .u8 k, .int .u16 v] W fun Y W' => Y = .tuple [((who s k v).getD Tx.zero).V, .bool (who s k v).isSome] ∧ W' = W := by
 refine ACalls.of hP Tryz.func73 ok21e (by simp) fun _ hok => ?_
 refine Af hok ?_
 have hlw := h.lw
 have hlp := h.lp
 obtain ⟨ws, cw, hw, hws⟩ := h.hw
 simp only [c21, BZ, ↓reduceIte, reduceCtorEq, BM, BD]
 refine pc (is_c hP _ (r := [.map rw, .int .i64 (lastId s)]) (by rw [Aj h.lp]; exact h.hp)) ?_
 have hr : ∀ l, (X W W.nx l).get rw = some (.map ws cw) := fun l => by rw [Aj h.lw]; exact hw
 have hk : ∀ (l : List AObj) K, sem E (.lookup (true, [.i .u8, .i .u16]) (.int .u16 0) true) [.map rw, .agg [.int .u8 k, .int .u16 v]] (X W W.nx l) K = lookK (true, [.i .u8, .i .u16]) (.int .u16 0) true (kV k v) ws (fun v => K v (X W W.nx l)) := fun l K => D7 (hr l) (Tk hws h0 h1 h2 h3)
 simp (disch:=omega) only [BX, ↓reduceIte, nE, reduceCtorEq, BM, BD, nA, nL, nT, h.hp, hk, Fe hws]
 cases hf : who s k v with
 | none =>
  dsimp only
  exact ⟨_, rfl, _, W, Ap hok rfl, lr _, rfl, rfl⟩
 | some t =>
  have ht := Hs hf
  have hto := h.ok.ok t ht.1
  have hX : ∀ l, St (X W W.nx l) p ra rw s := fun l => ⟨by rw [Aj h.lp]; exact h.hp, by rw [Aj h.la]; exact h.ha, ⟨ws, cw, hr l, hws⟩, h.ne, by simp [Ci, rf]; omega, by have := h.la; simp [Ci, rf]; omega, by simp [Ci, rf]; omega, h.ok⟩
  dsimp only
  refine pc (S3 hP _ (hX _) t.id hto.id0 hto.id1) ?_
  simp only [Iy h.ok.lt ht.1, Option.getD_some, Option.isSome_some, BS, BC, ↓reduceIte, nE, BM, BD, nA, nL, nT, Ce, Cb, Tx.V]
  refine ⟨_, rfl, _, W, Ap hok ?_, lr _, rfl, rfl⟩
  simp only [V.bel, V.belL, Jv, Jw, Bool.and_true]
def openR (s : Str) (i : Int) : Tx × Int := match find s i with
 | some t => if t.st = 0 then (t, 0) else (Tx.zero, 7)
 | none => (Tx.zero, 7)
theorem Zi (hP : PE E) (W : AW) {p ra rw : Nat} {s : Str} (h : St W p ra rw s) (i : Int) (h0 : 0 ≤ i) (h1 : i < 65536) :
  ACalls E 51 [.ptr p 0, .int .u16 i] W fun Y W' => Y = .tuple [(openR s i).1.V, .int .i64 (openR s i).2] ∧ W' = W := by
 refine ACalls.of hP Tryz.func51 ok26e (by simp) fun _ hok => ?_
 refine Af hok ?_
 have hla := h.la
 have hlp := h.lp
 simp only [c26, BZ, ↓reduceIte, reduceCtorEq, BM, BD]
 refine pc (is_c hP _ (r := [.map rw, .int .i64 (lastId s)]) (by rw [Aj h.lp]; exact h.hp)) ?_
 have hr : ∀ l, (X W W.nx l).get ra = some (.map (esFrom 0 s) s.length) := fun l => by rw [Aj h.la]; exact h.ha
 simp (disch:=omega) only [BX, Aa, ↓reduceIte, nE, reduceCtorEq, BM, BD, nA, nL, nT, h.hp, D7 (hr _) (G1 h.ok.ok h0 h1 0), Ix]
 cases hf : find s i with
 | none =>
  simp only [openR, hf]
  exact ⟨_, rfl, _, W, Ap hok rfl, lr _, rfl, rfl⟩
 | some t =>
  by_cases hst : t.st = 0
  ·simp only [BX, ↓reduceIte, nE, BM, BD, nA, nL, nT, Ce, Cb, Tx.V, openR, hf, Dl, show decide (t.st ≠ 0) = false by simp [hst], if_pos hst]
   refine ⟨_, rfl, _, W, Ap hok ?_, lr _, rfl, rfl⟩
   simp only [V.bel, V.belL, Jv, Jw, Bool.and_true]
  ·simp only [BX, ↓reduceIte, nE, BM, BD, nA, nL, nT, Ce, Cb, Tx.V, openR, hf, Dl, show decide (t.st ≠ 0) = true by simp [hst], if_neg hst]
   exact ⟨_, rfl, _, W, Ap hok rfl, lr _, rfl, rfl⟩
structure Fr (W W' : AW) (p ra rw : Nat) : Prop where
 nx : W'.nx = W.nx
 get : ∀ x, x ≠ p → x ≠ ra → x ≠ rw → W'.get x = W.get x
theorem Fr.refl (W : AW) (p ra rw : Nat) : Fr W W p ra rw := ⟨rfl, fun _ _ _ _ => rfl⟩
theorem St.pra {W : AW} {p ra rw : Nat} {s : Str} (h : St W p ra rw s) : p ≠ ra := by
 rintro rfl
 have := h.hp.symm.trans h.ha
 cases this
theorem St.prw {W : AW} {p ra rw : Nat} {s : Str} (h : St W p ra rw s) : p ≠ rw := by
 rintro rfl
 obtain ⟨ws, cw, hw, _⟩ := h.hw
 have := h.hp.symm.trans hw
 cases this
theorem Eb {W : AW} {r : Nat} {o : AObj} (h : W.ok) (hr : r < W.nx) (ho : o.bel W.nx = true) : (W.put r o).ok := by
 intro x o' hx
 rw [Gv] at hx
 split at hx
 ·rename_i e; subst e; cases hx; exact ⟨hr, ho⟩
 ·exact h x o' hx
theorem S7 (s : Str) (m : Nat) : ∀ n, ((esFrom n s).all fun e => e.1.bel m && e.2.1.bel m) = true := by
 induction s with
 | nil => intro n; rfl
 | cons t s ih => intro n; simp only [esFrom, List.all_cons, ih, Yn, Bool.and_true]; rfl
theorem I4 {x : V} {W1 : AW} {n : Nat} {l : List AObj} (hn : W1.nx = n) (hok : W1.ok) (hx : x.bel n = true) : RetV x (X W1 n l) x W1 := by
 subst hn
 exact .weak (An hok hx fun _ h => Aj h)
def Cl (W : AW) : Prop := ∀ r, W.nx ≤ r → W.get r = none
theorem Cl.start {W : AW} (h : Cl W) : W = X W W.nx [] := by
 refine I5 (fun r => ?_) rfl
 rw [E9]
 by_cases hr : r < W.nx
 ·simp [hr]
 ·simp only [hr, if_false]
  rw [h r (by omega)]; simp
theorem Cl.X {W : AW} {n : Nat} {l : List AObj} : Cl (S.X W n l) := by
 intro r hr
 simp only [S.X] at hr ⊢
 rw [if_neg (by omega), List.getElem?_eq_none (by omega)]
theorem Je {W : AW} (h : W.ok) : Cl W := by
 intro r hr
 cases hg : W.get r with
 | none => rfl
 | some o => have := (h r o hg).1; omega
theorem Cl.put {W : AW} {r : Nat} {o : AObj} (h : Cl W) (hr : r < W.nx) : Cl (W.put r o) := by
 intro x hx
 rw [Gv, if_neg (by have : W.nx ≤ x := hx; omega)]
 exact h x hx
theorem Au {W : AW} {c : AC} {Q : Exit → AFr → AW → Prop} {A : AFr} (h : Cl W) (g : awp E c Q A (S.X W W.nx [])) : awp E c Q A W := by
 rw [h.start]; exact g
structure Ex (W W1 : AW) : Prop where
 cl : Cl W1
 nx : W.nx ≤ W1.nx
 get : ∀ x, x < W.nx → W1.get x = W.get x
theorem Ex.refl {W : AW} (h : Cl W) : Ex W W := ⟨h, lr _, fun _ _ => rfl⟩
theorem Ex.X {W W1 : AW} {l : List AObj} (h : Ex W W1) : Ex W (S.X W1 W1.nx l) :=
 ⟨Cl.X, by have := h.nx; simp only [S.X]; omega, fun x hx => by rw [Aj (by have := h.nx; omega)]; exact h.get x hx⟩
theorem Ex.trans {W W1 W2 : AW} (h : Ex W W1) (h' : Ex W1 W2) : Ex W W2 :=
 ⟨h'.cl, Nat.le_trans h.nx h'.nx, fun x hx => by rw [h'.get x (by have := h.nx; omega)]; exact h.get x hx⟩
theorem Ex.x0 {W : AW} {l : List AObj} : Ex W (S.X W W.nx l) := ⟨Cl.X, by simp [S.X], fun _ h => Aj h⟩
theorem Ex.back {W W1 : AW} {x : V} (h : Ex W W1) (hok : W.ok) (hx : x.bel W.nx = true) : RetV x W1 x W := .weak (An hok hx h.get)
theorem Nn {W : AW} {K : V → AW → Prop} {sh : Bool × List SK} {key x : V} {r c : Nat} {es : List En} (h : W.get r = some (.map es c)) (hk : keysOk sh key es) : sem E (.mupd sh) [.map r, key, x] W K = (match findK key es with
  | some _ => K .undef (W.put r (.map (updK key x es) c))
  | none => K .undef (W.put r (.map (es ++ [(key, x, c)]) (c + 1)))) := by
 simp only [sem, h]
 cases hf : findK key es with
 | none => exact propext ⟨fun h => h.2, fun h => ⟨hk, h⟩⟩
 | some e => exact propext ⟨fun h => h.2, fun h => ⟨hk, h⟩⟩
theorem Va {s : Str} {i : Int} {t : Tx} (h : find s i = some t) (n : Nat) : ∃ e, findK (.int .u16 i) (esFrom n s) = some e := by
 have := N3 s i n
 rw [h] at this
 cases hf : findK (.int .u16 i) (esFrom n s) with
 | none => rw [hf] at this; cases this
 | some e => exact ⟨e, rfl⟩
theorem es_none {s : Str} {i : Int} (h : find s i = none) (n : Nat) : findK (.int .u16 i) (esFrom n s) = none := by
 have := N3 s i n
 rw [h] at this
 cases hf : findK (.int .u16 i) (esFrom n s) with
 | none => rfl
 | some e => rw [hf] at this; cases this
theorem Mz (s : Str) (x : Tx) : (upd s x).map (·.id) = s.map (·.id) := by
 induction s with
 | nil => rfl
 | cons t s ih =>
  simp only [upd]
  split
  ·rename_i h; simp [h]
  ·simp [ih]
theorem upd_len (s : Str) (x : Tx) : (upd s x).length = s.length := by
 have := congrArg List.length (Mz s x); simpa using this
theorem Yi (s : Str) (x : Tx) : lastId (upd s x) = lastId s := by
 have h : ∀ l : Str, lastId l = ((l.map (·.id)).getLast?).getD (-1) := by
  intro l
  simp only [lastId, List.getLast?_map]
  cases l.getLast? <;> rfl
 rw [h, h, Mz]
theorem upd_mem {s : Str} {x y : Tx} (h : y ∈ upd s x) : y = x ∨ y ∈ s := by
 induction s with
 | nil => simp [upd] at h
 | cons t s ih =>
  simp only [upd] at h
  split at h
  ·rcases List.mem_cons.1 h with h | h
   ·exact .inl h
   ·exact .inr (by simp [h])
  ·rcases List.mem_cons.1 h with h | h
   ·exact .inr (by simp [h])
   ·rcases ih h with h | h
    ·exact .inl h
    ·exact .inr (by simp [h])
theorem Yh {s : Str} {x : Tx} (h : SOk s) (hx : x.ok) : SOk (upd s x) := by
 refine ⟨fun t ht => ?_, ?_⟩
 ·rcases upd_mem ht with rfl | ht
  ·exact hx
  ·exact h.ok t ht
 ·have := h.lt
  rw [← List.pairwise_map (f := Tx.id) (R := fun a b => a < b)] at this ⊢
  rwa [Mz]
theorem upd_who {s : Str} (hs : s.Pairwise fun a b => a.id < b.id) {t x : Tx} (ht : t ∈ s) (hi : x.id = t.id) (hm : x.ms = t.ms) (k v : Int) : (who (upd s x) k v).map Tx.id = (who s k v).map Tx.id := by
 induction s with
 | nil => rfl
 | cons y s ih =>
  have hp := List.pairwise_cons.1 hs
  simp only [upd]
  by_cases e : y.id = x.id
  ·have hy : y = t := by
    rcases List.mem_cons.1 ht with h | h
    ·exact h.symm
    ·have := hp.1 t h; omega
   subst hy
   have hh : S.has x k v = S.has y k v := by simp only [S.has, hm]
   simp only [if_pos e, who, List.find?_cons, hh]
   split
   ·simp [hi]
   ·rfl
  ·rw [if_neg e]
   have ht' : t ∈ s := by
    rcases List.mem_cons.1 ht with h | h
    ·subst h; exact absurd hi.symm e
    ·exact h
   simp only [who, List.find?_cons]
   split
   ·rfl
   ·exact ih hp.2 ht'
theorem ws_upd {ws : List En} {s : Str} (h : WsOk ws s) (hs : s.Pairwise fun a b => a.id < b.id) {t x : Tx} (ht : t ∈ s) (hi : x.id = t.id) (hm : x.ms = t.ms) : WsOk ws (upd s x) := by
 refine ⟨h.key, fun k v => ?_⟩
 rw [h.val k v]
 have := upd_who hs ht hi hm k v
 cases h1 : who (upd s x) k v <;> cases h2 : who s k v <;> simp [h1, h2] at this ⊢
 exact this.symm
theorem St.upd {W : AW} {p ra rw : Nat} {s : Str} (h : St W p ra rw s) {t x : Tx} (ht : t ∈ s) (hi : x.id = t.id) (hm : x.ms = t.ms) (hx : x.ok) : St (W.put ra (.map (esFrom 0 (upd s x)) s.length)) p ra rw (S.upd s x) := by
 obtain ⟨ws, cw, hw, hws⟩ := h.hw
 refine ⟨?_, ?_, ⟨ws, cw, ?_, ws_upd hws h.ok.lt ht hi hm⟩, h.ne, h.lp, h.la, h.lw, Yh h.ok hx⟩
 ·rw [put_ne h.pra, Yi]; exact h.hp
 ·rw [put_at, upd_len]
 ·rw [put_ne h.ne.symm]; exact hw
theorem Fr.put {W : AW} {p ra rw : Nat} {o : AObj} : Fr W (W.put ra o) p ra rw := ⟨rfl, fun _ _ h2 _ => put_ne h2⟩
end Go.AL.S
namespace Go.AL
open Go Go.AL Go.Proofs Go.Sort Go.Shelf Go.RowKit
variable {E : Env} {γ : G} {w : World} {W : AW}
theorem Nc {α : Type} [Inhabited α] (enc : α → Value) (d : Array α) {pre c t : List Value} (h : d.size = c.length) : putCells enc pre.length d (pre ++ c ++ t).toArray = (pre ++ d.toList.map enc ++ t).toArray := by
 apply Array.ext_getElem?
 intro k
 simp only [putCells, Array.getElem?_mapIdx, List.getElem?_toArray]
 have hl : (d.toList.map enc).length = c.length := by simp [h]
 rw [List.append_assoc, List.append_assoc]
 by_cases h1 : k < pre.length
 ·rw [List.getElem?_append_left (l₁ := pre) h1, List.getElem?_append_left (l₁ := pre) h1, gEg h1, Option.map_some, if_neg (by omega)]
 ·have h1' : pre.length ≤ k := by omega
  rw [List.getElem?_append_right (l₁ := pre) h1', List.getElem?_append_right (l₁ := pre) h1']
  by_cases h2 : k - pre.length < c.length
  ·rw [List.getElem?_append_left (l₁ := c) h2, List.getElem?_append_left (l₁ := d.toList.map enc) (by omega), gEg h2, Option.map_some, if_pos (by omega), List.getElem?_map, Array.getElem?_toList, Array.getElem?_eq_getElem (by omega), getElem!_pos d _ (by omega)]
   rfl
  ·have h2' : c.length ≤ k - pre.length := by omega
   rw [List.getElem?_append_right (l₁ := c) h2', List.getElem?_append_right (l₁ := d.toList.map enc) (by omega), hl]
   cases t[k - pre.length - c.length]? with
   | none => rfl
   | some v => rw [Option.map_some, if_neg (by omega)]
theorem RelW.laid (h : RelW E γ w W) {r b s : Nat} {cells cells' : List V} {pre c t : List Value} {e : TypeId} (hr : W.get r = some (.vec s cells)) (hb : γ.obj r = some b) (hheap : w.heap[b]? = some (.cells (pre ++ c ++ t).toArray e (0, 0))) (hp : pre.length = (γ.vb r).1) (hz : (c ++ t).length = (γ.vb r).2 * s)
  {α : Type} [Inhabited α] (enc : α → Value) (d : Array α) (hd : d.size = c.length) (hrel : RelL γ cells' (d.toList.map enc)) (m : Nat) (os : Array Obj) : RelW E γ (Sort.grow (putRow enc (Sort.ahead w m) b pre.length d) os) (W.put r (.vec s cells')) := by
 have hB := h.apart r _ b hr hb
 have hh : (putRow enc (Sort.ahead w m) b pre.length d).heap[b]? = some (.cells (pre ++ d.toList.map enc ++ t).toArray e (0, 0)) := by
  simp only [putRow, mapBlock, Array.getElem?_modify, Sort.ahead, if_true, hheap, Option.map_some, onCells]
  rw [Nc enc d hd]
 have ho : ∀ k, k ≠ b → (putRow enc (Sort.ahead w m) b pre.length d).heap[k]? = w.heap[k]? := fun k hk => by
  simp only [putRow, mapBlock, Array.getElem?_modify, Sort.ahead]; rw [if_neg (Ne.symm hk)]
 have hs : (putRow enc (Sort.ahead w m) b pre.length d).heap.size = w.heap.size := by simp [putRow, mapBlock, Sort.ahead]
 have h1 := h.setObj (w' := putRow enc (Sort.ahead w m) b pre.length d) (o' := .vec s cells') hr hb (by rw [hheap]; simp) ⟨⟨rfl, rfl, rfl, by rw [hs]; exact lr _, fun k hk => ho k (by omega)⟩, Nat.le_add_right _ _⟩ hs ho ⟨b, pre, d.toList.map enc, t, e, hb, hh, hp, hrel, by simpa [hd] using hz⟩
 exact h1.grow ⟨⟨rfl, rfl, rfl, by rw [size_grow]; omega, fun k hk => heap_grow_old _ _ (by rw [hs]; omega)⟩, lr _⟩ (fun k hk => heap_grow_old _ _ hk) (by rw [size_grow]; omega)
theorem Kv {α : Type} [Inhabited α] (enc : α → Value) (d : Array α) {b : Nat} {pre c t : List Value} {e : TypeId} (hheap : w.heap[b]? = some (.cells (pre ++ c ++ t).toArray e (0, 0))) (hd : d.toList.map enc = c) : Holds enc w b pre.length d := by
 intro j hj
 have hc : c[j]? = some (enc d[j]!) := by
  rw [← hd, List.getElem?_map, Array.getElem?_toList, Array.getElem?_eq_getElem hj, getElem!_pos d _ hj]; rfl
 have hjc : j < c.length := by rw [← hd]; simpa using hj
 constructor
 ·simp only [World.cell?, hheap, List.getElem?_toArray]
  rw [List.append_assoc, List.getElem?_append_right (by omega), List.getElem?_append_left (by omega), Nat.add_sub_cancel_left]
  exact hc
 ·simp [World.frozen?, hheap]
theorem RelL.at : ∀ {xs : List V} {l : List Value}, RelL γ xs l → ∀ {i : Nat} (h : i < xs.length) (h' : i < l.length), RelV γ xs[i] l[i]
 | _ :: _, _, ⟨_, _, rfl, h1, _⟩, 0, _, _ => h1
 | _ :: _, _, ⟨_, _, rfl, _, h2⟩, i + 1, h, h' => RelL.at h2 (by simpa using h) (by simpa using h')
theorem RelL.mapped {α : Type} {f : α → V} {g : α → Value} (h : ∀ x, RelV γ (f x) (g x)) : ∀ l : List α, RelL γ (l.map f) (l.map g)
 | [] => rfl
 | x :: l => ⟨_, _, rfl, h x, RelL.mapped h l⟩
end Go.AL
namespace Go.AL.S
open Go Go.AL Go.Proofs Go.Shelf
def lays189_ren : Go.Shelf.Ren := ⟨fun | 189 => 237 | 125 => 124 | 257 => 241 | 128 => 164 | 129 => 165 | 294 => 243 | 295 => 244 | 296 => 245 | 297 => 246 | 298 => 247 | 299 => 248 | 216 => 249 | 300 => 250 | 301 => 251 | 328 => 252 | 329 => 200 | 330 => 201 | 331 => 253 | 332 => 254 | 215 => 255 | 343 => 256 | n => n, fun | 28 => 185 | 3 => 3 | 46 => 215 | 0 => 0 | 51 => 244 | 53 => 246 | 4 => 4 | 183 => 238 | 182 => 237 | 131 => 190 | 5 => 5 | 9 => 9 | 218 => 288 | 222 => 292 | 228 => 329 | 229 => 330 | n => n, fun | n => n⟩
theorem lays189 : Go.Proofs.Lays.n189 Tryz.prog lays189_ren := {
 mixed := by kernel_rfl
 f125 := Tryz.func124.trans (congrArg some (by kernel_rfl))
 f128 := Tryz.func164.trans (congrArg some (by kernel_rfl))
 f129 := Tryz.func165.trans (congrArg some (by kernel_rfl))
 f189 := Tryz.func237.trans (congrArg some (by kernel_rfl))
 f215 := Tryz.func255.trans (congrArg some (by kernel_rfl))
 f216 := Tryz.func249.trans (congrArg some (by kernel_rfl))
 f257 := Tryz.func241.trans (congrArg some (by kernel_rfl))
 f294 := Tryz.func243.trans (congrArg some (by kernel_rfl))
 f295 := Tryz.func244.trans (congrArg some (by kernel_rfl))
 f296 := Tryz.func245.trans (congrArg some (by kernel_rfl))
 f297 := Tryz.func246.trans (congrArg some (by kernel_rfl))
 f298 := Tryz.func247.trans (congrArg some (by kernel_rfl))
 f299 := Tryz.func248.trans (congrArg some (by kernel_rfl))
 f300 := Tryz.func250.trans (congrArg some (by kernel_rfl))
 f301 := Tryz.func251.trans (congrArg some (by kernel_rfl))
 f328 := Tryz.func252.trans (congrArg some (by kernel_rfl))
 f329 := Tryz.func200.trans (congrArg some (by kernel_rfl))
 f330 := Tryz.func201.trans (congrArg some (by kernel_rfl))
 f331 := Tryz.func253.trans (congrArg some (by kernel_rfl))
 f332 := Tryz.func254.trans (congrArg some (by kernel_rfl))
 f343 := Tryz.func256.trans (congrArg some (by kernel_rfl))
 t0 := Tryz.underlying0
 a0 := Tryz.isAgg0
 z0 := Tryz.sizeOf0
 v0 := Tryz.zeroValue0
 t3 := Tryz.underlying3
 a3 := Tryz.isAgg3
 z3 := Tryz.sizeOf3
 v3 := Tryz.zeroValue3
 t4 := Tryz.underlying4
 a4 := Tryz.isAgg4
 z4 := Tryz.sizeOf4
 v4 := Tryz.zeroValue4
 t5 := Tryz.underlying5
 a5 := Tryz.isAgg5
 z5 := Tryz.sizeOf5
 v5 := Tryz.zeroValue5
 t9 := Tryz.underlying9
 a9 := Tryz.isAgg9
 z9 := Tryz.sizeOf9
 v9 := Tryz.zeroValue9
 t28 := Tryz.underlying185
 a28 := Tryz.isAgg185
 z28 := Tryz.sizeOf185
 v28 := Tryz.zeroValue185
 t46 := Tryz.underlying215
 a46 := Tryz.isAgg215
 z46 := Tryz.sizeOf215
 v46 := Tryz.zeroValue215
 t51 := Tryz.underlying244
 a51 := Tryz.isAgg244
 z51 := Tryz.sizeOf244
 v51 := Tryz.zeroValue244
 t53 := Tryz.underlying246
 a53 := Tryz.isAgg246
 z53 := Tryz.sizeOf246
 v53 := Tryz.zeroValue246
 t131 := Tryz.underlying190
 a131 := Tryz.isAgg190
 z131 := Tryz.sizeOf190
 v131 := Tryz.zeroValue190
 t182 := Tryz.underlying237
 a182 := Tryz.isAgg237
 z182 := Tryz.sizeOf237
 v182 := Tryz.zeroValue237
 t183 := Tryz.underlying238
 a183 := Tryz.isAgg238
 z183 := Tryz.sizeOf238
 v183 := Tryz.zeroValue238
 t218 := Tryz.underlying288
 a218 := Tryz.isAgg288
 z218 := Tryz.sizeOf288
 v218 := Tryz.zeroValue288
 t222 := Tryz.underlying292
 a222 := Tryz.isAgg292
 z222 := Tryz.sizeOf292
 v222 := Tryz.zeroValue292
 t228 := Tryz.underlying329
 a228 := Tryz.isAgg329
 z228 := Tryz.sizeOf329
 v228 := Tryz.zeroValue329
 t229 := Tryz.underlying330
 a229 := Tryz.isAgg330
 z229 := Tryz.sizeOf330
 v229 := Tryz.zeroValue330 }
def laysLL_ren : Go.Shelf.Ren := ⟨fun | 6 => 128 | 15 => 124 | 14 => 176 | 28 => 164 | 29 => 165 | 20 => 211 | 21 => 212 | 22 => 213 | 23 => 214 | 24 => 215 | 25 => 216 | 26 => 217 | 27 => 218 | 46 => 238 | 47 => 200 | 48 => 201 | 49 => 239 | 50 => 240 | 57 => 242 | n => n, fun | 22 => 188 | 24 => 185 | 25 => 233 | 3 => 3 | 39 => 215 | 0 => 0 | 53 => 244 | 55 => 246 | 4 => 4 | 46 => 238 | 45 => 237 | 50 => 190 | 5 => 5 | 9 => 9 | 66 => 288 | 70 => 292 | 76 => 329 | 77 => 330 | n => n, fun | n => n⟩
theorem laysLL : Go.Proofs.SlLaysF.n6 Tryz.prog laysLL_ren := {
 mixed := by kernel_rfl
 f6 := ⟨Tryz.f128.name, by decide, Tryz.func128.trans (congrArg some (by kernel_rfl))⟩
 f14 := ⟨Tryz.f176.name, by decide, Tryz.func176.trans (congrArg some (by kernel_rfl))⟩
 f15 := Tryz.func124.trans (congrArg some (by kernel_rfl))
 f20 := ⟨Tryz.f211.name, by decide, Tryz.func211.trans (congrArg some (by kernel_rfl))⟩
 f21 := ⟨Tryz.f212.name, by decide, Tryz.func212.trans (congrArg some (by kernel_rfl))⟩
 f22 := ⟨Tryz.f213.name, by decide, Tryz.func213.trans (congrArg some (by kernel_rfl))⟩
 f23 := ⟨Tryz.f214.name, by decide, Tryz.func214.trans (congrArg some (by kernel_rfl))⟩
 f24 := ⟨Tryz.f215.name, by decide, Tryz.func215.trans (congrArg some (by kernel_rfl))⟩
 f25 := ⟨Tryz.f216.name, by decide, Tryz.func216.trans (congrArg some (by kernel_rfl))⟩
 f26 := ⟨Tryz.f217.name, by decide, Tryz.func217.trans (congrArg some (by kernel_rfl))⟩
 f27 := ⟨Tryz.f218.name, by decide, Tryz.func218.trans (congrArg some (by kernel_rfl))⟩
 f28 := Tryz.func164.trans (congrArg some (by kernel_rfl))
 f29 := Tryz.func165.trans (congrArg some (by kernel_rfl))
 f46 := ⟨Tryz.f238.name, by decide, Tryz.func238.trans (congrArg some (by kernel_rfl))⟩
 f47 := Tryz.func200.trans (congrArg some (by kernel_rfl))
 f48 := Tryz.func201.trans (congrArg some (by kernel_rfl))
 f49 := ⟨Tryz.f239.name, by decide, Tryz.func239.trans (congrArg some (by kernel_rfl))⟩
 f50 := ⟨Tryz.f240.name, by decide, Tryz.func240.trans (congrArg some (by kernel_rfl))⟩
 f57 := ⟨Tryz.f242.name, by decide, Tryz.func242.trans (congrArg some (by kernel_rfl))⟩
 t0 := Tryz.underlying0
 a0 := Tryz.isAgg0
 z0 := Tryz.sizeOf0
 v0 := Tryz.zeroValue0
 t3 := Tryz.underlying3
 a3 := Tryz.isAgg3
 z3 := Tryz.sizeOf3
 v3 := Tryz.zeroValue3
 t4 := Tryz.underlying4
 a4 := Tryz.isAgg4
 z4 := Tryz.sizeOf4
 v4 := Tryz.zeroValue4
 t5 := Tryz.underlying5
 a5 := Tryz.isAgg5
 z5 := Tryz.sizeOf5
 v5 := Tryz.zeroValue5
 t9 := Tryz.underlying9
 a9 := Tryz.isAgg9
 z9 := Tryz.sizeOf9
 v9 := Tryz.zeroValue9
 t22 := Tryz.underlying188
 a22 := Tryz.isAgg188
 z22 := Tryz.sizeOf188
 v22 := Tryz.zeroValue188
 a24 := Tryz.isAgg185
 z24 := Tryz.sizeOf185
 t25 := Tryz.underlying233
 a25 := Tryz.isAgg233
 z25 := Tryz.sizeOf233
 v25 := Tryz.zeroValue233
 t39 := Tryz.underlying215
 a39 := Tryz.isAgg215
 z39 := Tryz.sizeOf215
 v39 := Tryz.zeroValue215
 t45 := Tryz.underlying237
 a45 := Tryz.isAgg237
 z45 := Tryz.sizeOf237
 v45 := Tryz.zeroValue237
 t46 := Tryz.underlying238
 a46 := Tryz.isAgg238
 z46 := Tryz.sizeOf238
 v46 := Tryz.zeroValue238
 t50 := Tryz.underlying190
 a50 := Tryz.isAgg190
 z50 := Tryz.sizeOf190
 v50 := Tryz.zeroValue190
 t53 := Tryz.underlying244
 a53 := Tryz.isAgg244
 z53 := Tryz.sizeOf244
 v53 := Tryz.zeroValue244
 t55 := Tryz.underlying246
 a55 := Tryz.isAgg246
 z55 := Tryz.sizeOf246
 v55 := Tryz.zeroValue246
 t66 := Tryz.underlying288
 a66 := Tryz.isAgg288
 z66 := Tryz.sizeOf288
 v66 := Tryz.zeroValue288
 t70 := Tryz.underlying292
 a70 := Tryz.isAgg292
 z70 := Tryz.sizeOf292
 v70 := Tryz.zeroValue292
 t76 := Tryz.underlying329
 a76 := Tryz.isAgg329
 z76 := Tryz.sizeOf329
 v76 := Tryz.zeroValue329
 t77 := Tryz.underlying330
 a77 := Tryz.isAgg330
 z77 := Tryz.sizeOf330
 v77 := Tryz.zeroValue330 }
end Go.AL.S
namespace Go.AL.S
inductive Rch {α : Type} (nx : α → List α) : α → α → Prop where
 | refl (a : α) : Rch nx a a
 | step {a b c : α} : b ∈ nx a → Rch nx b c → Rch nx a c
theorem Rch.trans {α : Type} {nx : α → List α} {a b c : α} (h : Rch nx a b) (h2 : Rch nx b c) : Rch nx a c := by
 induction h with
 | refl => exact h2
 | step e _ ih => exact .step e (ih h2)
theorem Rch.one {α : Type} {nx : α → List α} {a b : α} (h : b ∈ nx a) : Rch nx a b := .step h (.refl b)
theorem Rch.closed {α : Type} {nx : α → List α} {p : α → Prop} (hc : ∀ a, p a → ∀ b ∈ nx a, p b) {a b : α} (h : Rch nx a b) (ha : p a) : p b := by
 induction h with
 | refl => exact ha
 | step e _ ih => exact ih (hc _ ha _ e)
theorem Rch.mono {α : Type} {nx nx' : α → List α} (hm : ∀ a, ∀ b ∈ nx a, b ∈ nx' a) {a b : α} (h : Rch nx a b) : Rch nx' a b := by
 induction h with
 | refl => exact .refl _
 | step e _ ih => exact .step (hm _ _ e) ih
def fset {α : Type} (f : Nat → α) (i : Nat) (v : α) : Nat → α := fun j => if j = i then v else f j
theorem Cn {α : Type} {f : Nat → α} {i : Nat} {v : α} : fset f i v i = v := if_pos rfl
theorem Cu {α : Type} {f : Nat → α} {i j : Nat} {v : α} (h : j ≠ i) : fset f i v j = f j := if_neg h
structure TS where
 met : Nat → Nat
 low : Nat → Nat
 gone : Nat → Nat
 wt : Nat → Bool
 way : List Nat
 wtg : List Nat
 ended : List (List Nat)
 cnt : Nat
structure TI (nx : Nat → List Nat) (s : TS) : Prop where
 mle : ∀ i, s.met i ≤ s.cnt
 inj : ∀ i j, s.met i = s.met j → 0 < s.met i → i = j
 wsub : ∀ i ∈ s.way, i ∈ s.wtg
 wpw : s.way.Pairwise fun a b => s.met a < s.met b
 tpw : s.wtg.Pairwise fun a b => s.met a < s.met b
 vis : ∀ i ∈ s.wtg, 0 < s.met i
 wti : ∀ i, s.wt i = true ↔ i ∈ s.wtg
 g0 : ∀ i, s.met i = 0 → s.gone i = 0
 gle : ∀ i, s.gone i ≤ (nx i).length
 gvis : ∀ i, ∀ k (h : k < (nx i).length), k < s.gone i → 0 < s.met (nx i)[k]
 blk : ∀ i, 0 < s.met i → i ∉ s.way → s.gone i = (nx i).length
 don : ∀ i, 0 < s.met i → i ∉ s.wtg → ∀ k ∈ nx i, 0 < s.met k ∧ k ∉ s.wtg
 rch : ∀ x ∈ s.way, ∀ u ∈ s.wtg, s.met x ≤ s.met u → Rch nx x u
 l1 : ∀ x ∈ s.way, s.low x ≤ s.met x ∧ ∃ y ∈ s.wtg, s.met y = s.low x ∧ Rch nx x y
 l2 : ∀ x ∈ s.way, ∀ u ∈ s.wtg, s.met x ≤ s.met u → (∀ z ∈ s.way, s.met x < s.met z → s.met u < s.met z) → ∀ k (h : k < (nx u).length), k < s.gone u → (nx u)[k] ∈ s.wtg → s.low x ≤ s.met (nx u)[k]
 l3 : ∀ u ∈ s.wtg, u ∉ s.way → ∃ y ∈ s.wtg, s.met y < s.met u ∧ Rch nx u y
 und : ∀ u ∈ s.wtg, ∃ x ∈ s.way, s.met x ≤ s.met u
 grp : ∀ g ∈ s.ended, g ≠ [] ∧ ∀ a ∈ g, ∀ b, b ∈ g ↔ (Rch nx a b ∧ Rch nx b a)
 all : ∀ i, (0 < s.met i ∧ i ∉ s.wtg) ↔ ∃ g ∈ s.ended, i ∈ g
def TS.meet (s : TS) (i : Nat) : TS := { s with cnt := s.cnt + 1, met := fset s.met i (s.cnt + 1), low := fset s.low i (s.cnt + 1), wt := fset s.wt i true, way := s.way ++ [i], wtg := s.wtg ++ [i] }
theorem TI.meet {nx : Nat → List Nat} {s : TS} (h : TI nx s) {i : Nat} (hi : s.met i = 0)
  (hw : s.wtg = [] ∨ ∃ t, ∃ p, s.way = p ++ [t] ∧ i ∈ nx t) : TI nx (s.meet i) := by
 have hne : ∀ j, 0 < s.met j → j ≠ i := fun j hj e => by subst e; omega
 have hwi : ∀ j ∈ s.wtg, j ≠ i := fun j hj => hne j (h.vis j hj)
 have hwa : ∀ j ∈ s.way, j ≠ i := fun j hj => hwi j (h.wsub j hj)
 have m0 : (s.meet i).met i = s.cnt + 1 := Cn
 have m1 : ∀ j, j ≠ i → (s.meet i).met j = s.met j := fun j hj => Cu hj
 have n1 : ∀ j, j ≠ i → (s.meet i).low j = s.low j := fun j hj => Cu hj
 have n0 : (s.meet i).low i = s.cnt + 1 := Cn
 have mg : ∀ j, (s.meet i).gone j = s.gone j := fun _ => rfl
 have me : (s.meet i).ended = s.ended := rfl
 have mW : ∀ j, j ∈ (s.meet i).wtg ↔ j ∈ s.wtg ∨ j = i := fun j => by simp [TS.meet]
 have mA : ∀ j, j ∈ (s.meet i).way ↔ j ∈ s.way ∨ j = i := fun j => by simp [TS.meet]
 have hlt : ∀ j, s.met j < s.cnt + 1 := fun j => by have := h.mle j; omega
 refine ⟨?_, ?_, ?_, ?_, ?_, ?_, ?_, ?_, ?_, ?_, ?_, ?_, ?_, ?_, ?_, ?_, ?_, ?_, ?_⟩
 ·intro j
  by_cases e : j = i
  ·subst e; rw [m0]; exact lr _
  ·rw [m1 j e]; have := h.mle j; show _ ≤ s.cnt + 1; omega
 ·intro a b e hp
  by_cases ea : a = i <;> by_cases eb : b = i
  ·rw [ea, eb]
  ·subst ea; rw [m0, m1 b eb] at e; have := hlt b; omega
  ·subst eb; rw [m0, m1 a ea] at e; have := hlt a; omega
  ·rw [m1 a ea, m1 b eb] at e; rw [m1 a ea] at hp; exact h.inj a b e hp
 ·intro j hj
  rcases (mA j).1 hj with hj | e
  ·exact (mW j).2 (.inl (h.wsub j hj))
  ·exact (mW j).2 (.inr e)
 ·refine List.pairwise_append.2 ⟨h.wpw.imp_of_mem fun ha hb hab => ?_, List.pairwise_singleton _ _, fun a ha b hb => ?_⟩
  ·rw [m1 _ (hwa _ ha), m1 _ (hwa _ hb)]; exact hab
  ·rw [List.mem_singleton.1 hb, m0, m1 a (hwa a ha)]; exact hlt a
 ·refine List.pairwise_append.2 ⟨h.tpw.imp_of_mem fun ha hb hab => ?_, List.pairwise_singleton _ _, fun a ha b hb => ?_⟩
  ·rw [m1 _ (hwi _ ha), m1 _ (hwi _ hb)]; exact hab
  ·rw [List.mem_singleton.1 hb, m0, m1 a (hwi a ha)]; exact hlt a
 ·intro j hj
  rcases (mW j).1 hj with hj | rfl
  ·rw [m1 j (hwi j hj)]; exact h.vis j hj
  ·rw [m0]; omega
 ·intro j
  rw [mW]
  by_cases e : j = i
  ·subst e; exact ⟨fun _ => .inr rfl, fun _ => Cn⟩
  ·show fset s.wt i true j = true ↔ _
   rw [Cu e, h.wti j]
   exact ⟨.inl, fun hj => hj.resolve_right e⟩
 ·intro j hj
  by_cases e : j = i
  ·subst e; exact h.g0 j hi
  ·rw [m1 j e] at hj; exact h.g0 j hj
 ·exact h.gle
 ·intro j k hk hkg
  have hv := h.gvis j k hk hkg
  rw [m1 _ (hne _ hv)]; exact hv
 ·intro j hj hnw
  have e : j ≠ i := fun e => hnw ((mA j).2 (.inr e))
  rw [m1 j e] at hj
  exact h.blk j hj fun hw => hnw ((mA j).2 (.inl hw))
 ·intro j hj hnw k hk
  have e : j ≠ i := fun e => hnw ((mW j).2 (.inr e))
  rw [m1 j e] at hj
  obtain ⟨h1, h2⟩ := h.don j hj (fun hw => hnw ((mW j).2 (.inl hw))) k hk
  have ek := hne k h1
  exact ⟨by rw [m1 k ek]; exact h1, fun hw => ((mW k).1 hw).elim h2 ek⟩
 ·intro x hx u hu hxu
  have hiw : ∀ x ∈ s.way, Rch nx x i := fun x hx => by
   rcases hw with hw | ⟨t, p, hp, hti⟩
   ·have := h.wsub x hx; rw [hw] at this; cases this
   ·refine Rch.trans ?_ (Rch.one hti)
    have ht : t ∈ s.way := by rw [hp]; simp
    by_cases e : x = t
    ·rw [e]; exact .refl t
    ·refine h.rch x hx t (h.wsub t ht) (Nat.le_of_lt ?_)
     have hpw := h.wpw
     rw [hp] at hpw hx
     rcases List.mem_append.1 hx with hx | hx
     ·exact (List.pairwise_append.1 hpw).2.2 x hx t (by simp)
     ·exact absurd (List.mem_singleton.1 hx) e
  rcases (mA x).1 hx with hx' | ex <;> rcases (mW u).1 hu with hu' | eu
  ·rw [m1 x (hwa x hx'), m1 u (hwi u hu')] at hxu; exact h.rch x hx' u hu' hxu
  ·rw [eu]; exact hiw x hx'
  ·rw [ex, m0, m1 u (hwi u hu')] at hxu; have := hlt u; omega
  ·rw [ex, eu]; exact .refl _
 ·intro x hx
  rcases (mA x).1 hx with hx | rfl
  ·obtain ⟨h1, y, hy, h2, h3⟩ := h.l1 x hx
   rw [n1 x (hwa x hx), m1 x (hwa x hx)]
   exact ⟨h1, y, (mW y).2 (.inl hy), by rw [m1 y (hwi y hy)]; exact h2, h3⟩
  ·rw [n0, m0]; exact ⟨lr _, x, (mW x).2 (.inr rfl), m0, .refl x⟩
 ·intro x hx u hu hxu hz k hk hkg hkw
  rw [mg] at hkg
  rcases (mA x).1 hx with hx | rfl
  ·rw [n1 x (hwa x hx)]
   rcases (mW u).1 hu with hu | rfl
   ·rcases (mW _).1 hkw with hkw | e
    ·rw [m1 _ (hwi _ hkw)]
     rw [m1 x (hwa x hx), m1 u (hwi u hu)] at hxu
     refine h.l2 x hx u hu hxu (fun z hz1 hz2 => ?_) k hk hkg hkw
     have := hz z ((mA z).2 (.inl hz1)) (by rw [m1 x (hwa x hx), m1 z (hwa z hz1)]; exact hz2)
     rw [m1 u (hwi u hu), m1 z (hwa z hz1)] at this
     exact this
    ·rw [e, m0]
     have := (h.l1 x hx).1
     have := hlt x
     omega
   ·rw [h.g0 u hi] at hkg; omega
  ·rcases (mW u).1 hu with hu | rfl
   ·rw [m0, m1 u (hwi u hu)] at hxu; have := hlt u; omega
   ·rw [h.g0 u hi] at hkg; omega
 ·intro u hu hnw
  have e : u ≠ i := fun e => hnw ((mA u).2 (.inr e))
  have hu := ((mW u).1 hu).resolve_right e
  obtain ⟨y, hy, h1, h2⟩ := h.l3 u hu fun hw => hnw ((mA u).2 (.inl hw))
  exact ⟨y, (mW y).2 (.inl hy), by rw [m1 y (hwi y hy), m1 u e]; exact h1, h2⟩
 ·intro u hu
  rcases (mW u).1 hu with hu' | eu
  ·obtain ⟨x, hx, hxu⟩ := h.und u hu'
   exact ⟨x, (mA x).2 (.inl hx), by rw [m1 x (hwa x hx), m1 u (hwi u hu')]; exact hxu⟩
  ·exact ⟨i, (mA i).2 (.inr rfl), by rw [eu]; exact lr _⟩
 ·exact h.grp
 ·intro j
  rw [me, ← h.all j, mW]
  by_cases e : j = i
  ·subst e; simp [hi]
  ·rw [m1 j e]; simp [e]
def TS.go (s : TS) (i : Nat) : TS := { s with gone := fset s.gone i (s.gone i + 1) }
theorem TI.go {nx : Nat → List Nat} {s : TS} (h : TI nx s) {i k : Nat} (hiw : i ∈ s.way) (hk : (nx i)[s.gone i]? = some k) (hv : 0 < s.met k) (hl : k ∈ s.wtg → s.low i ≤ s.met k) : TI nx (s.go i) := by
 obtain ⟨hgl, hgk⟩ := List.getElem?_eq_some_iff.1 hk
 have hiv := h.vis i (h.wsub i hiw)
 have g0 : (s.go i).gone i = s.gone i + 1 := Cn
 have g1 : ∀ j, j ≠ i → (s.go i).gone j = s.gone j := fun j hj => Cu hj
 have hcase : ∀ u, ∀ j (hj : j < (nx u).length), j < (s.go i).gone u → j < s.gone u ∨ (u = i ∧ (nx u)[j] = k) := fun u j hj hjg => by
  by_cases e : u = i
  ·subst e
   rw [g0] at hjg
   by_cases ej : j = s.gone u
   ·subst ej; exact .inr ⟨rfl, hgk⟩
   ·exact .inl (by omega)
  ·rw [g1 u e] at hjg; exact .inl hjg
 refine ⟨h.mle, h.inj, h.wsub, h.wpw, h.tpw, h.vis, h.wti, ?_, ?_, ?_, ?_, h.don, h.rch, h.l1, ?_, h.l3, h.und, h.grp, h.all⟩
 ·intro j hj
  by_cases e : j = i
  ·subst e; have : s.met j = 0 := hj; omega
  ·rw [g1 j e]; exact h.g0 j hj
 ·intro j
  by_cases e : j = i
  ·subst e; rw [g0]; omega
  ·rw [g1 j e]; exact h.gle j
 ·intro j m hm hmg
  rcases hcase j m hm hmg with hg | ⟨_, e⟩
  ·exact h.gvis j m hm hg
  ·rw [e]; exact hv
 ·intro j hj hnw
  have e : j ≠ i := fun e => hnw (by rw [e]; exact hiw)
  rw [g1 j e]; exact h.blk j hj hnw
 ·intro x hx u hu hxu hz m hm hmg hmw
  rcases hcase u m hm hmg with hg | ⟨eu, em⟩
  ·exact h.l2 x hx u hu hxu hz m hm hg hmw
  ·subst eu
   have hxe : x = u := by
    have hxu' : s.met x ≤ s.met u := hxu
    by_cases e : s.met x < s.met u
    ·exact absurd (hz u hiw e) (Nat.lt_irrefl _)
    ·exact h.inj x u (by omega) (h.vis x (h.wsub x hx))
   subst hxe
   have hmw' : (nx x)[m] ∈ s.wtg := hmw
   show s.low x ≤ s.met (nx x)[m]
   rw [em] at hmw' ⊢
   exact hl hmw'
def TS.lower (s : TS) (i n : Nat) : TS := { s with low := fset s.low i (min (s.low i) n) }
theorem TI.lower {nx : Nat → List Nat} {s : TS} (h : TI nx s) {i y : Nat} (hy : y ∈ s.wtg) (hr : Rch nx i y) : TI nx (s.lower i (s.met y)) := by
 have n1 : ∀ j, j ≠ i → (s.lower i (s.met y)).low j = s.low j := fun j hj => Cu hj
 have n0 : (s.lower i (s.met y)).low i = min (s.low i) (s.met y) := Cn
 refine ⟨h.mle, h.inj, h.wsub, h.wpw, h.tpw, h.vis, h.wti, h.g0, h.gle, h.gvis, h.blk, h.don, h.rch, ?_, ?_, h.l3, h.und, h.grp, h.all⟩
 ·intro x hx
  obtain ⟨h1, z, hz, h2, h3⟩ := h.l1 x hx
  by_cases e : x = i
  ·subst e
   rw [n0]
   refine ⟨Nat.le_trans (Nat.min_le_left _ _) h1, ?_⟩
   by_cases e : s.low x ≤ s.met y
   ·rw [Nat.min_eq_left e]; exact ⟨z, hz, h2, h3⟩
   ·rw [Nat.min_eq_right (by omega)]; exact ⟨y, hy, rfl, hr⟩
  ·rw [n1 x e]; exact ⟨h1, z, hz, h2, h3⟩
 ·intro x hx u hu hxu hz m hm hmg hmw
  have := h.l2 x hx u hu hxu hz m hm hmg hmw
  by_cases e : x = i
  ·subst e; rw [n0]; exact Nat.le_trans (Nat.min_le_left _ _) this
  ·rw [n1 x e]; exact this
theorem TI.last {nx : Nat → List Nat} {s : TS} (h : TI nx s) {p : List Nat} {i : Nat} (hw : s.way = p ++ [i]) : (∀ x ∈ p, x ∈ s.way ∧ s.met x < s.met i) ∧ i ∈ s.way ∧ ∀ x ∈ s.way, x ∉ p → x = i := by
 have hpw := h.wpw
 rw [hw] at hpw
 refine ⟨fun x hx => ⟨by rw [hw]; simp [hx], (List.pairwise_append.1 hpw).2.2 x hx i (by simp)⟩, by rw [hw]; simp, fun x hx hn => ?_⟩
 rw [hw] at hx
 exact List.mem_singleton.1 ((List.mem_append.1 hx).resolve_left hn)
theorem TI.popA {nx : Nat → List Nat} {s : TS} (h : TI nx s) {p : List Nat} {i : Nat} (hw : s.way = p ++ [i]) (hg : s.gone i = (nx i).length) (hlow : s.low i ≠ s.met i) (ht : ∀ t, p.getLast? = some t → s.low t ≤ s.low i) : TI nx { s with way := p } := by
 obtain ⟨hp, hiw, hpi⟩ := h.last hw
 obtain ⟨hl1, y, hy, hym, hyr⟩ := h.l1 i hiw
 have hlt : s.low i < s.met i := by omega
 have hlast : ∀ x ∈ p, (∀ z ∈ p, ¬ s.met x < s.met z) → p.getLast? = some x := by
  intro x hx hz
  cases hgl : p.getLast? with
  | none => rw [List.getLast?_eq_none_iff] at hgl; subst hgl; cases hx
  | some t =>
   have hpt : t ∈ p := List.mem_of_getLast? hgl
   obtain ⟨q, hq⟩ := List.getLast?_eq_some_iff.1 hgl
   by_cases e : x = t
   ·rw [e]
   ·have hpw := h.wpw
    rw [hw, hq, List.append_assoc] at hpw
    have hxq : x ∈ q := by
     rw [hq] at hx
     exact (List.mem_append.1 hx).resolve_right fun h => e (List.mem_singleton.1 h)
    exact absurd ((List.pairwise_append.1 hpw).2.2 x hxq t (by simp)) (hz t hpt)
 refine ⟨h.mle, h.inj, fun j hj => h.wsub j (hp j hj).1, ?_, h.tpw, h.vis, h.wti, h.g0, h.gle, h.gvis, ?_, h.don, fun x hx => h.rch x (hp x hx).1, fun x hx => h.l1 x (hp x hx).1, ?_, ?_, ?_, h.grp, h.all⟩
 ·have hpw := h.wpw
  rw [hw] at hpw
  exact (List.pairwise_append.1 hpw).1
 ·intro j hj hn
  by_cases e : j ∈ s.way
  ·rw [hpi j e hn]; exact hg
  ·exact h.blk j hj e
 ·intro x hx u hu hxu hz k hk hkg hkw
  by_cases e : s.met u < s.met i
  ·refine h.l2 x (hp x hx).1 u hu hxu (fun z hz1 hz2 => ?_) k hk hkg hkw
   by_cases ez : z ∈ p
   ·exact hz z ez hz2
   ·rw [hpi z hz1 ez]; exact e
  ·have hxl := hlast x hx fun z hz1 hz2 => by
    have h1 : s.met u < s.met z := hz z hz1 hz2
    have h2 := (hp z hz1).2
    omega
   refine Nat.le_trans (ht x hxl) (h.l2 i hiw u hu (by omega) (fun z hz1 hz2 => ?_) k hk hkg hkw)
   by_cases ez : z ∈ p
   ·have := (hp z ez).2; omega
   ·rw [hpi z hz1 ez] at hz2; omega
 ·intro u hu hn
  by_cases e : u ∈ s.way
  ·rw [hpi u e hn]; exact ⟨y, hy, by show s.met y < s.met i; omega, hyr⟩
  ·exact h.l3 u hu e
 ·intro u hu
  obtain ⟨x, hx, hxu⟩ := h.und u hu
  by_cases e : x ∈ p
  ·exact ⟨x, e, hxu⟩
  ·rw [hpi x hx e] at hxu
   obtain ⟨z, hz, hzy⟩ := h.und y hy
   have hzp : z ∈ p := Classical.byContradiction fun hn => by rw [hpi z hz hn] at hzy; omega
   exact ⟨z, hzp, by show s.met z ≤ s.met u; have := (hp z hzp).2; omega⟩
theorem TI.popB {nx : Nat → List Nat} {s : TS} (h : TI nx s) {p g wtg' : List Nat} {wt' : Nat → Bool} {i : Nat} (hw : s.way = p ++ [i]) (hg : s.gone i = (nx i).length) (hlow : s.low i = s.met i)
  (hgm : ∀ j, j ∈ g ↔ j ∈ s.wtg ∧ s.met i ≤ s.met j) (hw' : ∀ j, j ∈ wtg' ↔ j ∈ s.wtg ∧ s.met j < s.met i) (hpw' : wtg'.Pairwise fun a b => s.met a < s.met b) (hwt : ∀ j, wt' j = true ↔ j ∈ wtg') :
  TI nx { s with way := p, wtg := wtg', wt := wt', ended := s.ended ++ [g] } := by
 obtain ⟨hp, hiw, hpi⟩ := h.last hw
 have hit := h.wsub i hiw
 have hcl : ∀ j ∈ s.wtg, s.met i ≤ s.met j → ∀ k ∈ nx j, 0 < s.met k ∧ (k ∈ s.wtg → s.met i ≤ s.met k) := by
  intro j hj hij k hk
  have hgj : s.gone j = (nx j).length := by
   by_cases e : j ∈ s.way
   ·by_cases ep : j ∈ p
    ·have := (hp j ep).2; omega
    ·rw [hpi j e ep]; exact hg
   ·exact h.blk j (h.vis j hj) e
  obtain ⟨m, hm, rfl⟩ := List.getElem_of_mem hk
  refine ⟨h.gvis j m hm (by omega), fun hkw => ?_⟩
  rw [← hlow]
  refine h.l2 i hiw j hj hij (fun z hz1 hz2 => ?_) m hm (by omega) hkw
  by_cases ez : z ∈ p
  ·have := (hp z ez).2; omega
  ·rw [hpi z hz1 ez] at hz2; omega
 have hcl2 : ∀ j, (0 < s.met j ∧ (j ∈ s.wtg → s.met i ≤ s.met j)) → ∀ k ∈ nx j, 0 < s.met k ∧ (k ∈ s.wtg → s.met i ≤ s.met k) := by
  rintro j ⟨h1, h2⟩ k hk
  by_cases e : j ∈ s.wtg
  ·exact hcl j e (h2 e) k hk
  ·obtain ⟨q1, q2⟩ := h.don j h1 e k hk
   exact ⟨q1, fun hw => absurd hw q2⟩
 have hback : ∀ n, ∀ a ∈ s.wtg, s.met a ≤ n → s.met i ≤ s.met a → Rch nx a i := by
  intro n
  induction n with
  | zero => intro a ha h0 h1; have := h.vis a ha; omega
  | succ n ih =>
   intro a ha h0 h1
   by_cases e : a = i
   ·rw [e]; exact .refl i
   ·have hnw : a ∉ s.way := fun hw2 => by
     by_cases ep : a ∈ p
     ·have := (hp a ep).2; omega
     ·exact e (hpi a hw2 ep)
    obtain ⟨y, hy, hlt, hr⟩ := h.l3 a ha hnw
    have := (Rch.closed (p := fun j => 0 < s.met j ∧ (j ∈ s.wtg → s.met i ≤ s.met j)) hcl2 hr ⟨h.vis a ha, fun _ => h1⟩).2 hy
    exact hr.trans (ih y hy (by omega) this)
 refine ⟨h.mle, h.inj, fun j hj => (hw' j).2 ⟨h.wsub j (hp j hj).1, (hp j hj).2⟩, ?_, hpw', fun j hj => h.vis j ((hw' j).1 hj).1, hwt, h.g0, h.gle, h.gvis, ?_, ?_, fun x hx u hu => h.rch x (hp x hx).1 u ((hw' u).1 hu).1, ?_, ?_, ?_, ?_, ?_, ?_⟩
 ·have hpw := h.wpw
  rw [hw] at hpw
  exact (List.pairwise_append.1 hpw).1
 ·intro j hj hn
  by_cases e : j ∈ s.way
  ·rw [hpi j e hn]; exact hg
  ·exact h.blk j hj e
 ·intro j hj hn k hk
  have hj' : 0 < s.met j := hj
  by_cases e : j ∈ s.wtg
  ·have hij : s.met i ≤ s.met j := Classical.byContradiction fun hc => hn ((hw' j).2 ⟨e, by omega⟩)
   obtain ⟨q1, q2⟩ := hcl j e hij k hk
   exact ⟨q1, fun hkw => by obtain ⟨h1, h2⟩ := (hw' k).1 hkw; have := q2 h1; omega⟩
  ·obtain ⟨q1, q2⟩ := h.don j hj' e k hk
   exact ⟨q1, fun hkw => q2 ((hw' k).1 hkw).1⟩
 ·intro x hx
  obtain ⟨h1, y, hy, h2, h3⟩ := h.l1 x (hp x hx).1
  exact ⟨h1, y, (hw' y).2 ⟨hy, by have := (hp x hx).2; omega⟩, h2, h3⟩
 ·intro x hx u hu hxu hz k hk hkg hkw
  obtain ⟨u1, u2⟩ := (hw' u).1 hu
  refine h.l2 x (hp x hx).1 u u1 hxu (fun z hz1 hz2 => ?_) k hk hkg ((hw' _).1 hkw).1
  by_cases ez : z ∈ p
  ·exact hz z ez hz2
  ·rw [hpi z hz1 ez]; exact u2
 ·intro u hu hn
  obtain ⟨u1, u2⟩ := (hw' u).1 hu
  have hnw : u ∉ s.way := fun hw2 => by rw [hpi u hw2 hn] at u2; omega
  obtain ⟨y, hy, q1, q2⟩ := h.l3 u u1 hnw
  exact ⟨y, (hw' y).2 ⟨hy, by omega⟩, q1, q2⟩
 ·intro u hu
  obtain ⟨u1, u2⟩ := (hw' u).1 hu
  obtain ⟨x, hx, hxu⟩ := h.und u u1
  have hxp : x ∈ p := Classical.byContradiction fun hn => by rw [hpi x hx hn] at hxu; omega
  exact ⟨x, hxp, hxu⟩
 ·intro g' hg'
  rcases List.mem_append.1 hg' with hg' | hg'
  ·exact h.grp g' hg'
  ·rw [List.mem_singleton.1 hg']
   refine ⟨fun e => (by have := (hgm i).2 ⟨hit, lr _⟩; rw [e] at this; cases this), fun a ha b => ?_⟩
   obtain ⟨a1, a2⟩ := (hgm a).1 ha
   have hai := hback _ a a1 (lr _) a2
   constructor
   ·intro hb
    obtain ⟨b1, b2⟩ := (hgm b).1 hb
    have hbi := hback _ b b1 (lr _) b2
    exact ⟨hai.trans (h.rch i hiw b b1 b2), hbi.trans (h.rch i hiw a a1 a2)⟩
   ·rintro ⟨h1, h2⟩
    obtain ⟨q1, q2⟩ := Rch.closed (p := fun j => 0 < s.met j ∧ (j ∈ s.wtg → s.met i ≤ s.met j)) hcl2 h1 ⟨h.vis a a1, fun _ => a2⟩
    have hbw : b ∈ s.wtg := Classical.byContradiction fun hn => by
     have := Rch.closed (p := fun j => 0 < s.met j ∧ j ∉ s.wtg) (fun j hj k hk => h.don j hj.1 hj.2 k hk) h2 ⟨q1, hn⟩
     exact this.2 a1
    exact (hgm b).2 ⟨hbw, q2 hbw⟩
 ·intro j
  constructor
  ·rintro ⟨h1, h2⟩
   by_cases e : j ∈ s.wtg
   ·have hij : s.met i ≤ s.met j := Classical.byContradiction fun hc => h2 ((hw' j).2 ⟨e, by omega⟩)
    exact ⟨g, by simp, (hgm j).2 ⟨e, hij⟩⟩
   ·obtain ⟨g', hg1, hg2⟩ := (h.all j).1 ⟨h1, e⟩
    exact ⟨g', by simp [hg1], hg2⟩
  ·rintro ⟨g', hg1, hg2⟩
   rcases List.mem_append.1 hg1 with hg1 | hg1
   ·obtain ⟨q1, q2⟩ := (h.all j).2 ⟨g', hg1, hg2⟩
    exact ⟨q1, fun hw2 => q2 ((hw' j).1 hw2).1⟩
   ·rw [List.mem_singleton.1 hg1] at hg2
    obtain ⟨q1, q2⟩ := (hgm j).1 hg2
    exact ⟨h.vis j q1, fun hw2 => by have := ((hw' j).1 hw2).2; omega⟩
theorem TI.fin {nx : Nat → List Nat} {s : TS} (h : TI nx s) (hw : s.way = []) : s.wtg = [] := by
 refine List.eq_nil_iff_forall_not_mem.2 fun u hu => ?_
 obtain ⟨x, hx, _⟩ := h.und u hu
 rw [hw] at hx; cases hx
theorem TI.classes {nx : Nat → List Nat} {s : TS} (h : TI nx s) (hw : s.way = []) {i j : Nat} (hi : 0 < s.met i) : (∃ g ∈ s.ended, i ∈ g ∧ j ∈ g) ↔ (Rch nx i j ∧ Rch nx j i) := by
 have hf := h.fin hw
 obtain ⟨g, hg, hig⟩ := (h.all i).1 ⟨hi, by rw [hf]; exact List.not_mem_nil⟩
 constructor
 ·rintro ⟨g', h1, h2, h3⟩
  exact ((h.grp g' h1).2 i h2 j).1 h3
 ·intro hr
  exact ⟨g, hg, hig, ((h.grp g hg).2 i hig j).2 hr⟩
theorem TI.once {nx : Nat → List Nat} {s : TS} (h : TI nx s) {g g' : List Nat} (hg : g ∈ s.ended) (hg' : g' ∈ s.ended) {i : Nat} (h1 : i ∈ g) (h2 : i ∈ g') : ∀ j, j ∈ g ↔ j ∈ g' := fun j => by
 rw [(h.grp g hg).2 i h1 j, (h.grp g' hg').2 i h2 j]
end Go.AL.S
namespace Go.AL.S
def TS.init : TS := ⟨fun _ => 0, fun _ => 0, fun _ => 0, fun _ => false, [], [], [], 0⟩
theorem TI.init (nx : Nat → List Nat) : TI nx TS.init := by
 refine ⟨fun _ => lr _, fun i j _ h => absurd h (by simp [TS.init]), ?_, ?_, ?_, ?_, ?_, fun _ _ => rfl, fun _ => Nat.zero_le _, ?_, ?_, ?_, ?_, ?_, ?_, ?_, ?_, ?_, ?_⟩
 all_goals simp [TS.init]
def gapS (nx : Nat → List Nat) (s : TS) : Nat → Nat
 | 0 => 0
 | n + 1 => gapS nx s n + ((nx n).length - s.gone n)
theorem Jx {nx : Nat → List Nat} {s s' : TS} (h : s'.gone = s.gone) : ∀ n, gapS nx s' n = gapS nx s n
 | 0 => rfl
 | n + 1 => by rw [gapS, gapS, Jx h n, h]
theorem Ux {nx : Nat → List Nat} {s : TS} {i : Nat} (hg : s.gone i < (nx i).length) : ∀ n, gapS nx (s.go i) n + (if i < n then 1 else 0) = gapS nx s n
 | 0 => by simp [gapS]
 | n + 1 => by
  have := Ux (nx := nx) (s := s) hg n
  rw [gapS, gapS]
  show gapS nx (s.go i) n + ((nx n).length - fset s.gone i (s.gone i + 1) n) + _ = _
  by_cases e : n = i
  ·subst e
   rw [Cn, if_pos (by omega)]
   rw [if_neg (by omega)] at this
   omega
  ·rw [Cu e]
   by_cases h1 : i < n
   ·rw [if_pos h1] at this; rw [if_pos (by omega)]; omega
   ·rw [if_neg h1] at this; rw [if_neg (by omega)]; omega
def unm (s : TS) : Nat → Nat
 | 0 => 0
 | n + 1 => unm s n + (if s.met n = 0 then 1 else 0)
theorem Yj {s s' : TS} (h : s'.met = s.met) : ∀ n, unm s' n = unm s n
 | 0 => rfl
 | n + 1 => by rw [unm, unm, Yj h n, h]
theorem Oy {s : TS} {i : Nat} (hi : s.met i = 0) : ∀ n, unm (s.meet i) n + (if i < n then 1 else 0) = unm s n
 | 0 => by simp [unm]
 | n + 1 => by
  have := Oy hi n
  rw [unm, unm]
  show unm (s.meet i) n + (if fset s.met i (s.cnt + 1) n = 0 then 1 else 0) + _ = _
  by_cases e : n = i
  ·subst e
   rw [Cn, if_neg (by omega), if_pos (by omega), hi]
   rw [if_neg (by omega)] at this
   simp; omega
  ·rw [Cu e]
   by_cases h1 : i < n
   ·rw [if_pos h1] at this; rw [if_pos (show i < n + 1 by omega)]; omega
   ·rw [if_neg h1] at this; rw [if_neg (show ¬ i < n + 1 by omega)]; omega
structure TB (nx : Nat → List Nat) (n : Nat) (s : TS) : Prop where
 ti : TI nx s
 cnt : s.cnt + unm s n = n
 lt : ∀ i, 0 < s.met i → i < n
 gl : ∀ g ∈ s.ended, g.length ≤ n
theorem TB.init (nx : Nat → List Nat) (n : Nat) : TB nx n TS.init := by
 refine ⟨TI.init nx, ?_, fun i h => absurd h (by simp [TS.init]), fun g hg => (by cases hg)⟩
 have : ∀ n, unm TS.init n = n := by
  intro n
  induction n with
  | zero => rfl
  | succ n ih => rw [unm, ih]; rfl
 rw [this]; show 0 + n = n; omega
theorem TB.cn {nx : Nat → List Nat} {n : Nat} {s : TS} (h : TB nx n s) : s.cnt ≤ n := by have := h.cnt; omega
theorem TB.mt {nx : Nat → List Nat} {n : Nat} {s : TS} (h : TB nx n s) (i : Nat) : s.met i ≤ n := Nat.le_trans (h.ti.mle i) h.cn
theorem TB.wtl {nx : Nat → List Nat} {n : Nat} {s : TS} (h : TB nx n s) : ∀ i ∈ s.wtg, i < n := fun i hi => h.lt i (h.ti.vis i hi)
theorem TB.wal {nx : Nat → List Nat} {n : Nat} {s : TS} (h : TB nx n s) : ∀ i ∈ s.way, i < n := fun i hi => h.wtl i (h.ti.wsub i hi)
theorem Ps {f : Nat → Nat} {n : Nat} : ∀ {l : List Nat}, l.Pairwise (fun a b => f a < f b) → (∀ i ∈ l, f i ≤ n) → (∀ i ∈ l, 0 < f i) → l.length ≤ n := by
 have key : ∀ (l : List Nat) (m : Nat), l.Pairwise (fun a b => f a < f b) → (∀ i ∈ l, f i ≤ n) → (∀ i ∈ l, m < f i) → m ≤ n → l.length + m ≤ n := by
  intro l
  induction l with
  | nil => intro m _ _ _ h; simpa using h
  | cons a l ih =>
   intro m hp hn hm _
   have h1 := List.pairwise_cons.1 hp
   have h2 := hm a (by simp)
   have h3 := hn a (by simp)
   have := ih (f a) h1.2 (fun i hi => hn i (by simp [hi])) (fun i hi => h1.1 i hi) h3
   simp only [lcs]; omega
 intro l hp hn h0
 have := key l 0 hp hn h0 (Nat.zero_le _)
 simpa using this
theorem TB.wl {nx : Nat → List Nat} {n : Nat} {s : TS} (h : TB nx n s) : s.way.length ≤ n := Ps h.ti.wpw (fun i _ => h.mt i) fun i hi => h.ti.vis i (h.ti.wsub i hi)
theorem TB.tl {nx : Nat → List Nat} {n : Nat} {s : TS} (h : TB nx n s) : s.wtg.length ≤ n := Ps h.ti.tpw (fun i _ => h.mt i) h.ti.vis
theorem TB.meet {nx : Nat → List Nat} {n : Nat} {s : TS} (h : TB nx n s) {i : Nat} (hin : i < n) (hi : s.met i = 0) (hw : s.wtg = [] ∨ ∃ t, ∃ p, s.way = p ++ [t] ∧ i ∈ nx t) : TB nx n (s.meet i) := by
 refine ⟨h.ti.meet hi hw, ?_, fun j hj => ?_, h.gl⟩
 ·have := Oy hi n
  rw [if_pos hin] at this
  have := h.cnt
  show s.cnt + 1 + _ = n; omega
 ·by_cases e : j = i
  ·subst e; exact hin
  ·have e2 : (s.meet i).met j = s.met j := Cu e
   rw [e2] at hj; exact h.lt j hj
theorem TB.same {nx : Nat → List Nat} {n : Nat} {s s' : TS} (h : TB nx n s) (ht : TI nx s') (hm : s'.met = s.met) (hc : s'.cnt = s.cnt) (hg : ∀ g ∈ s'.ended, g.length ≤ n) : TB nx n s' :=
 ⟨ht, by rw [hc, Yj hm]; exact h.cnt, fun i => by rw [hm]; exact h.lt i, hg⟩
theorem TB.old {nx : Nat → List Nat} {n : Nat} {s : TS} (h : TB nx n s) {i k : Nat} (hiw : i ∈ s.way) (hk : (nx i)[s.gone i]? = some k) (hv : 0 < s.met k) (hn : s.wt k = false) : TB nx n (s.go i) :=
 h.same (h.ti.go hiw hk hv fun hw => by rw [(h.ti.wti k).2 hw] at hn; cases hn) rfl rfl h.gl
theorem TB.back {nx : Nat → List Nat} {n : Nat} {s : TS} (h : TB nx n s) {i k : Nat} (hiw : i ∈ s.way) (hk : (nx i)[s.gone i]? = some k) (hn : s.wt k = true) : TB nx n ((s.go i).lower i (s.met k)) := by
 have hw := (h.ti.wti k).1 hn
 have hmem : k ∈ nx i := List.mem_of_getElem? hk
 have h1 := h.ti.lower (i := i) hw (Rch.one hmem)
 have h2 := h1.go (i := i) (k := k) hiw hk (h.ti.vis k hw) fun _ => by
  show fset s.low i _ i ≤ s.met k
  rw [Cn]; exact Nat.min_le_right _ _
 exact h.same h2 rfl rfl h.gl
theorem TB.new {nx : Nat → List Nat} {n : Nat} {s : TS} (h : TB nx n s) {p : List Nat} {i k : Nat} (hw : s.way = p ++ [i]) (hk : (nx i)[s.gone i]? = some k) (hv : s.met k = 0) (hkn : k < n) : TB nx n ((s.go i).meet k) := by
 have hmem : k ∈ nx i := List.mem_of_getElem? hk
 have hiw : i ∈ s.way := by rw [hw]; simp
 have hme := h.meet hkn hv (.inr ⟨i, p, hw, hmem⟩)
 have hne : i ≠ k := fun e => by
  have := h.ti.vis i (h.ti.wsub i hiw)
  rw [e] at this; omega
 have h2 := hme.ti.go (i := i) (k := k) (List.mem_append_left _ hiw) hk (by show 0 < fset s.met k _ k; rw [Cn]; omega) fun _ => by
  show fset s.low k _ i ≤ fset s.met k _ k
  rw [Cu hne, Cn]
  have := (h.ti.l1 i hiw).1
  have := h.ti.mle i
  omega
 exact hme.same h2 rfl rfl hme.gl
def TS.up (s : TS) (p : List Nat) (i : Nat) : TS := match p.getLast? with
 | none => s
 | some t => s.lower t (s.low i)
theorem TS.up_way {s : TS} {p : List Nat} {i : Nat} : (s.up p i).way = s.way ∧ (s.up p i).wtg = s.wtg ∧ (s.up p i).met = s.met ∧ (s.up p i).cnt = s.cnt ∧ (s.up p i).gone = s.gone ∧ (s.up p i).wt = s.wt ∧ (s.up p i).ended = s.ended := by
 unfold TS.up
 split <;> exact ⟨rfl, rfl, rfl, rfl, rfl, rfl, rfl⟩
theorem TB.up {nx : Nat → List Nat} {n : Nat} {s : TS} (h : TB nx n s) {p : List Nat} {i : Nat} (hw : s.way = p ++ [i]) : TB nx n (s.up p i) ∧ (s.up p i).low i = s.low i ∧ ∀ t, p.getLast? = some t → (s.up p i).low t ≤ s.low i := by
 obtain ⟨hp, hiw, _⟩ := h.ti.last hw
 unfold TS.up
 cases hl : p.getLast? with
 | none => exact ⟨h, rfl, fun t ht => by cases ht⟩
 | some t =>
  have ht : t ∈ p := List.mem_of_getLast? hl
  obtain ⟨h1, h2⟩ := hp t ht
  obtain ⟨_, y, hy, hym, hyr⟩ := h.ti.l1 i hiw
  have hr : Rch nx t i := h.ti.rch t h1 i (h.ti.wsub i hiw) (Nat.le_of_lt h2)
  have hlo := h.ti.lower (i := t) hy (hr.trans hyr)
  rw [hym] at hlo
  refine ⟨h.same hlo rfl rfl h.gl, Cu (fun e => by rw [e] at h2; omega), fun t' ht' => ?_⟩
  cases ht'
  show fset s.low t _ t ≤ _
  rw [Cn]; exact Nat.min_le_right _ _
theorem TB.popA {nx : Nat → List Nat} {n : Nat} {s : TS} (h : TB nx n s) {p : List Nat} {i : Nat} (hw : s.way = p ++ [i]) (hg : s.gone i = (nx i).length) (hlow : s.low i ≠ s.met i) : TB nx n { s.up p i with way := p } := by
 obtain ⟨h1, h2, h3⟩ := h.up hw
 obtain ⟨w1, w2, w3, w4, w5, w6, w7⟩ := TS.up_way (s := s) (p := p) (i := i)
 exact h1.same (h1.ti.popA (by rw [w1]; exact hw) (by rw [w5]; exact hg) (by rw [h2, w3]; exact hlow) fun t ht => by rw [h2]; exact h3 t ht) rfl rfl h1.gl
theorem TB.popB {nx : Nat → List Nat} {n : Nat} {s : TS} (h : TB nx n s) {p a b g : List Nat} {wt' : Nat → Bool} {i : Nat} (hw : s.way = p ++ [i]) (hg : s.gone i = (nx i).length) (hlow : s.low i = s.met i)
  (hs : s.wtg = a ++ i :: b) (hgl : g.length = (i :: b).length) (hgm : ∀ j, j ∈ g ↔ j ∈ i :: b) (hwt : ∀ j, wt' j = (s.wt j && !decide (j ∈ g))) : TB nx n { s.up p i with way := p, wtg := a, wt := wt', ended := s.ended ++ [g] } := by
 obtain ⟨h1, h2, h3⟩ := h.up hw
 obtain ⟨w1, w2, w3, w4, w5, w6, w7⟩ := TS.up_way (s := s) (p := p) (i := i)
 have hpw := h.ti.tpw
 rw [hs] at hpw
 obtain ⟨pa, pb, pab⟩ := List.pairwise_append.1 hpw
 have hlt : ∀ j ∈ a, s.met j < s.met i := fun j hj => pab j hj i (by simp)
 have hge : ∀ j ∈ i :: b, s.met i ≤ s.met j := fun j hj => by
  rcases List.mem_cons.1 hj with rfl | hj
  ·exact lr _
  ·exact Nat.le_of_lt ((List.pairwise_cons.1 pb).1 j hj)
 have hmem : ∀ j, j ∈ s.wtg ↔ j ∈ a ∨ j ∈ i :: b := fun j => by rw [hs, map']
 have := h1.ti.popB (p := p) (g := g) (wtg' := a) (wt' := wt') (i := i) (by rw [w1]; exact hw) (by rw [w5]; exact hg) (by rw [h2, w3]; exact hlow)
  (fun j => by
   rw [w2, w3, hgm, hmem]
   exact ⟨fun hj => ⟨.inr hj, hge j hj⟩, fun ⟨hj, hm⟩ => hj.resolve_left fun ha => by have := hlt j ha; omega⟩)
  (fun j => by
   rw [w2, w3, hmem]
   exact ⟨fun hj => ⟨.inl hj, hlt j hj⟩, fun ⟨hj, hm⟩ => hj.resolve_right fun ha => by have := hge j ha; omega⟩)
  (by rw [w3]; exact pa)
  (fun j => by
   rw [hwt, Bool.and_eq_true, h.ti.wti, hmem]
   simp only [Bool.not_eq_true', decide_eq_false_iff_not, hgm]
   exact ⟨fun ⟨hj, hm⟩ => hj.resolve_right hm, fun hj => ⟨.inl hj, fun hb => by have := hlt j hj; have := hge j hb; omega⟩⟩)
 rw [w7] at this
 refine h1.same this rfl rfl fun x hx => ?_
 rcases List.mem_append.1 hx with hx | hx
 ·exact h.gl x hx
 ·have := h.tl
  rw [hs] at this
  rw [List.mem_singleton.1 hx, hgl]
  simp only [lap] at this; omega
open Go Go.AL Go.Proofs
variable {E : Env}
def nodeV (s : TS) (i : Nat) : List V := [.int .i64 (s.met i), .int .i64 (s.low i), .bool (s.wt i), .int .i64 (s.gone i)]
def nodeC (s : TS) : Nat → List V
 | 0 => []
 | n + 1 => nodeC s n ++ nodeV s n
theorem Fc (s : TS) : ∀ n, (nodeC s n).length = n * 4
 | 0 => rfl
 | n + 1 => by rw [nodeC, lap, Fc s n]; show n * 4 + 4 = _; omega
theorem Jg (s : TS) {i : Nat} : ∀ {n : Nat}, i < n → ∃ t, nodeC s n = nodeC s i ++ nodeV s i ++ t ∧ ∀ s' : TS, (∀ j, j ≠ i → nodeV s' j = nodeV s j) → nodeC s' n = nodeC s i ++ nodeV s' i ++ t := by
 have pre : ∀ (s' : TS), (∀ j, j ≠ i → nodeV s' j = nodeV s j) → ∀ m, m ≤ i → nodeC s' m = nodeC s m := by
  intro s' h m
  induction m with
  | zero => intro _; rfl
  | succ m ih => intro hm; rw [nodeC, nodeC, ih (by omega), h m (by omega)]
 intro n
 induction n with
 | zero => intro h; omega
 | succ n ih =>
  intro h
  by_cases e : n = i
  ·subst e
   exact ⟨[], by rw [nodeC, apn], fun s' hs => by rw [nodeC, apn, pre s' hs n (lr _)]⟩
  ·obtain ⟨t, h1, h2⟩ := ih (by omega)
   exact ⟨t ++ nodeV s n, by rw [nodeC, h1, List.append_assoc], fun s' hs => by rw [nodeC, h2 s' hs, hs n e, List.append_assoc]⟩
theorem Eu {s : TS} {i n : Nat} (h : i < n) : ((nodeC s n).drop (i * 4)).take 4 = nodeV s i ∧ ∀ j, j < 4 → (nodeC s n)[i * 4 + j]? = (nodeV s i)[j]? := by
 obtain ⟨t, h1, _⟩ := Jg s h
 have hl := Fc s i
 have hv : (nodeV s i).length = 4 := rfl
 constructor
 ·rw [h1, List.append_assoc, List.drop_append, List.drop_of_length_le (by omega), List.nil_append, hl, Nat.sub_self, List.drop_zero, List.take_append, hv, Nat.sub_self, List.take_zero, apn, List.take_of_length_le (by omega)]
 ·intro j hj
  rw [h1, List.append_assoc, List.getElem?_append_right (by omega), List.getElem?_append_left (by omega), hl, Nat.add_sub_cancel_left]
theorem Xi {s s' : TS} {i n j : Nat} {x : List V} (h : i < n) (hj : j + x.length ≤ 4) (hs : ∀ k, k ≠ i → nodeV s' k = nodeV s k) (hx : (nodeV s i).take j ++ x ++ (nodeV s i).drop (j + x.length) = nodeV s' i) : (nodeC s n).take (i * 4 + j) ++ x ++ (nodeC s n).drop (i * 4 + j + x.length) = nodeC s' n := by
 obtain ⟨t, h1, h2⟩ := Jg s h
 have hl := Fc s i
 have hv : (nodeV s i).length = 4 := rfl
 rw [h2 s' hs, ← hx, h1, List.append_assoc (nodeC s i), List.take_append, List.drop_append, hl, List.take_of_length_le (by omega), List.drop_of_length_le (by omega), Nat.add_sub_cancel_left, show i * 4 + j + x.length - i * 4 = j + x.length by omega, List.nil_append, List.take_append_of_le_length (by omega), List.drop_append_of_le_length (by omega)]
 simp only [List.append_assoc]
section
variable {W : AW} {K : V → AW → Prop} {rn n i : Nat} {s : TS}
theorem ix4 (h : i < n) : sem E (.idxp 4) [.slr rn 0 n 4, .int .i64 (i : Int)] W K = K (.vptr rn (i * 4)) W := by
 rw [Ef (by omega) (by omega)]; simp
def TS.setL (s : TS) (i a : Nat) : TS := { s with low := fset s.low i a }
def TS.setW (s : TS) (i : Nat) (b : Bool) : TS := { s with wt := fset s.wt i b }
def TS.setN (s : TS) (i a : Nat) : TS := { s with met := fset s.met i a, low := fset s.low i a, wt := fset s.wt i true }
end
def refH : V → Option Nat
 | .slr r _ _ _ => some r
 | _ => none
def slH (W : AW) (h : V) (xs : List V) (lo : Nat) : Prop := (h = .nilsl ∧ xs = []) ∨ ∃ r cs, lo ≤ r ∧ r < W.nx ∧ h = .slr r 0 xs.length 1 ∧ W.get r = some (.vec 1 (xs ++ cs))
section
variable {W W' : AW} {K : V → AW → Prop} {h : V} {xs : List V} {lo : Nat}
theorem slH.to (hn : slH W h xs lo) (hx : W.nx ≤ W'.nx) (hg : ∀ r, refH h = some r → lo ≤ r → r < W.nx → W'.get r = W.get r) : slH W' h xs lo := by
 rcases hn with hn | ⟨r, cs, h1, h2, h3, h4⟩
 ·exact .inl hn
 ·exact .inr ⟨r, cs, h1, by omega, h3, by rw [hg r (by rw [h3]; rfl) h1 h2]; exact h4⟩
theorem slH.len (hn : slH W h xs lo) {W1 : AW} {n : Nat} : sem E (.len 1 n) [h] W1 K = K (.int .i64 xs.length) W1 := by
 rcases hn with ⟨rfl, rfl⟩ | ⟨r, cs, _, _, rfl, _⟩ <;> rfl
theorem slH.cells (hn : slH W h xs lo) : h.cells = [h] := by
 rcases hn with ⟨rfl, rfl⟩ | ⟨r, cs, _, _, rfl, _⟩ <;> rfl
theorem slH.frz (hn : slH W h xs lo) {W1 : AW} : W1.frz h = h := by
 rcases hn with ⟨rfl, rfl⟩ | ⟨r, cs, _, _, rfl, _⟩ <;> rfl
theorem slH.rlt (hn : slH W h xs lo) {r : Nat} (hr : refH h = some r) : lo ≤ r ∧ r < W.nx ∧ ∃ cs, h = .slr r 0 xs.length 1 ∧ W.get r = some (.vec 1 (xs ++ cs)) := by
 rcases hn with ⟨rfl, rfl⟩ | ⟨r', cs, h1, h2, rfl, h4⟩
 ·cases hr
 ·cases hr; exact ⟨h1, h2, cs, rfl, h4⟩
theorem slH.app (hn : slH W h xs lo) (hC : Cl W) (hlo : lo ≤ W.nx) {x : V} {by' : Nat} {z : List V} (hx : x.cells = [x] ∧ x.one = true) (hb : (xs.length + 1) * by' ≤ 2 ^ 46)
  (hK : ∀ W', slH W' (.slr W.nx 0 (xs.length + 1) 1) (xs ++ [x]) lo → Cl W' → W'.nx = W.nx + 1 → (∀ y, y < W.nx → refH h ≠ some y → W'.get y = W.get y) → K (.slr W.nx 0 (xs.length + 1) 1) W') : sem E (.appendx 1 by' z) [h, .sl 1 true [x]] W K := by
 have hx1 : x.cells.all V.one = true := by rw [hx.1]; simp [hx.2]
 rcases hn with ⟨rfl, rfl⟩ | ⟨r, cs, h1, h2, rfl, h4⟩
 ·simp only [List.length_nil, Nat.zero_add, Nat.one_mul] at hb
  have e : sem E (.appendx 1 by' z) [.nilsl, .sl 1 true [x]] W K = K (.slr W.nx 0 1 1) (W.alloc (.vec 1 [x])) := by
   simp [sem, elemsV, hb, hx.1]
  rw [e]
  refine hK _ (.inr ⟨W.nx, [], hlo, by rw [Ag]; omega, rfl, Ca⟩) ?_ rfl (fun y hy _ => Al hy)
  intro y hy
  rw [Ag] at hy
  rw [Cq, if_neg (by omega)]
  exact hC y (by omega)
 ·have e : sem E (.appendx 1 by' z) [.slr r 0 xs.length 1, .sl 1 true [x]] W K = K (.slr W.nx 0 (xs.length + 1) 1) (W.move r (.vec 1 (xs ++ [x]))) := by
   simp only [sem, elemsV, if_true, h4, lcs, List.length_nil, Nat.zero_add, List.all_cons, List.all_nil, Bool.and_true, List.flatMap_cons, List.flatMap_nil, apn, hx.1, Nat.mul_one, List.isEmpty_cons, Bool.false_eq_true, if_false, List.drop_zero, List.take_left, Nat.lt_add_one, true_and]
   exact propext ⟨fun h => h.2.2.2, fun h => ⟨by simp, hb, hx.2, h⟩⟩
  rw [e]
  refine hK _ (.inr ⟨W.nx, [], hlo, by rw [D2]; omega, by simp, by rw [Nj, apn]⟩) ?_ D2 (fun y hy hne => Eg (fun e => hne (by rw [e]; rfl)) (by omega))
  intro y hy
  rw [D2] at hy
  rw [Eg (by omega) (by omega)]
  exact hC y (by omega)
end
set_option maxHeartbeats 2000000
def c_meetS : AC := (.r [.m 4 0,.u 5 .nilck 4,.u 6 (.fld 5) 5,.u 7 (.load false 1) 6,.a 8 (.bin .add) 7 1,.u 9 .nilck 4,.u 10 (.fld 5) 9,⟨none,.store 1, [.t 10,.t 8], none⟩] (.seq (.par (.step 0 (.m 11 0) (.step 1 (.u 12 .nilck 11) (.step 2 (.u 13 (.fld 1) 12) (.step 4 (.m 15 1) (.step 5 (.m 16 0) (.step 6 (.u 17 .nilck 16) (.step 7 (.u 18 (.fld 5) 17) (.step 9 (.m 20 0) (.step 10 (.u 21 .nilck 20) (.step 11 (.u 22 (.fld 5) 21) (.step 3 (.u 14 (.load false 1) 13) (.step 8 (.u 19 (.load false 1) 18) (.step 12 (.u 23 (.load false 1) 22) (.step 13 (.p 24 (.build [.int .i64 0,.int .i64 0,.bool false] [(0, 1), (1, 1), (2, 1)]) [.t 19,.t 23,.T]) (.step 14 (.b 25 (.idxp 4) 14 15) (.step 15 (.u 26 (.fld 0) 25) (.step 16 ⟨none,.store 3, [.t 26,.t 24], none⟩ .done)))))))))))))))))) (.r [.m 27 0,.m 28 0,.u 29 .nilck 28,.u 30 (.fld 2) 29,.u 31 (.load false 1) 30,.m 32 1,.u 33 (.bslice 1 1 (.int .i64 0) [0]) 32,.b 34 (.appendx 1 8 [.int .i64 0]) 31 33,.u 35 .nilck 27,.u 36 (.fld 2) 35,⟨none,.store 1, [.t 36,.t 34], none⟩] (.reg [.m 37 0,.m 38 0,.u 39 .nilck 38,.u 40 (.fld 3) 39,.u 41 (.load false 1) 40,.m 42 1,.u 43 (.bslice 1 1 (.int .i64 0) [0]) 42,.b 44 (.appendx 1 8 [.int .i64 0]) 41 43,.u 45 .nilck 37,.u 46 (.fld 3) 45,⟨none,.store 1, [.t 46,.t 44], none⟩]))))
theorem Wr : compF Tryz.prog Tryz.f209 ⟨true, false, []⟩ = some (c_meetS, [], 47) := by kernel_rfl
def vloadK (o : Option AObj) (off : Nat) (g : Bool) (s : Nat) (k : V → Prop) : Prop := match o with
 | some (.vec _ cells) => optK (partV cells off s g) k
 | _ => False
def vstoreK (o : Option AObj) (off s : Nat) (x : V) (k : AObj → Prop) : Prop := match o with
 | some (.vec s' cells) => x.cells.length = s ∧ x.cells.all V.one = true ∧ off + s ≤ cells.length ∧ k (.vec s' (cells.take off ++ x.cells ++ cells.drop (off + s)))
 | _ => False
section
variable {W : AW} {K : V → AW → Prop} {rn n i : Nat} {s : TS}
theorem C3 {g : Bool} {s r off : Nat} : sem E (.load g s) [.vptr r off] W K = vloadK (W.get r) off g s (fun v => K v W) := by
 simp only [sem, rsem, vloadK]
 cases h : W.get r with
 | none => rfl
 | some o =>
  cases o <;> simp [optK]
  case vec s' cells => cases partV cells off s g <;> rfl
theorem Ew {s r off : Nat} {x : V} : sem E (.store s) [.vptr r off, x] W K = vstoreK (W.get r) off s x (fun o => K .undef (W.put r o)) := by
 simp only [sem, vstoreK]
 cases h : W.get r with
 | none => rfl
 | some o => cases o <;> rfl
theorem Ht {cells : List V} {k : Nat} {v : V} {kf : V → Prop} (h : cells[k]? = some v) : vloadK (some (.vec 1 cells)) k false 1 kf = kf v := by
 simp only [vloadK, Dq, h, It]
theorem vl0 {k : V → Prop} (h : i < n) : vloadK (some (.vec 4 (nodeC s n))) (i * 4) false 1 k = k (.int .i64 (s.met i)) := by
 have := (Eu (s := s) h).2 0 (by decide)
 simp only [vloadK, Dq]; rw [Nat.add_zero] at this; rw [this]; rfl
theorem vl1 {k : V → Prop} (h : i < n) : vloadK (some (.vec 4 (nodeC s n))) (i * 4 + 1) false 1 k = k (.int .i64 (s.low i)) := by
 simp only [vloadK, Dq]; rw [(Eu h).2 1 (by decide)]; rfl
theorem vl2 {k : V → Prop} (h : i < n) : vloadK (some (.vec 4 (nodeC s n))) (i * 4 + 2) false 1 k = k (.bool (s.wt i)) := by
 simp only [vloadK, Dq]; rw [(Eu h).2 2 (by decide)]; rfl
theorem vl3 {k : V → Prop} (h : i < n) : vloadK (some (.vec 4 (nodeC s n))) (i * 4 + 3) false 1 k = k (.int .i64 (s.gone i)) := by
 simp only [vloadK, Dq]; rw [(Eu h).2 3 (by decide)]; rfl
theorem vlA {k : V → Prop} (h : i < n) : vloadK (some (.vec 4 (nodeC s n))) (i * 4) true 4 k = k (.agg (nodeV s i)) := by
 simp only [vloadK, Gw]; rw [if_pos (by rw [Fc]; omega), (Eu h).1]; rfl
theorem Tm {s' : TS} (h : i < n) {j m : Nat} {x : V} {k : AObj → Prop} (hm : x.cells.length = m) (ho : x.cells.all V.one = true) (hj : j + x.cells.length ≤ 4) (hs : ∀ k, k ≠ i → nodeV s' k = nodeV s k) (hx : (nodeV s i).take j ++ x.cells ++ (nodeV s i).drop (j + x.cells.length) = nodeV s' i) :
  vstoreK (some (.vec 4 (nodeC s n))) (i * 4 + j) m x k = k (.vec 4 (nodeC s' n)) := by
 subst hm
 have hp := Xi h hj hs hx
 have hl := Fc s n
 simp only [vstoreK, hp]
 exact propext ⟨fun h => h.2.2.2, fun h' => ⟨tt, ho, by omega, h'⟩⟩
theorem vsN (h : i < n) {a : Nat} {k : AObj → Prop} : vstoreK (some (.vec 4 (nodeC s n))) (i * 4) 3 (.agg [.int .i64 (a : Int), .int .i64 (a : Int), .bool true]) k = k (.vec 4 (nodeC (s.setN i a) n)) := by
 refine Tm (s' := s.setN i a) (j := 0) h rfl rfl (by simp [V.cells]) (fun k hk => ?_) ?_
 ·simp only [nodeV, TS.setN, Cu hk]
 ·simp [nodeV, TS.setN, Cn, V.cells]
theorem vsL (h : i < n) {a : Nat} {k : AObj → Prop} : vstoreK (some (.vec 4 (nodeC s n))) (i * 4 + 1) 1 (.int .i64 (a : Int)) k = k (.vec 4 (nodeC (s.setL i a) n)) := by
 refine Tm (s' := s.setL i a) h rfl rfl (by simp [V.cells]) (fun k hk => ?_) ?_
 ·simp only [nodeV, TS.setL, Cu hk]
 ·simp [nodeV, TS.setL, Cn, V.cells]
theorem vsW (h : i < n) {b : Bool} {k : AObj → Prop} : vstoreK (some (.vec 4 (nodeC s n))) (i * 4 + 2) 1 (.bool b) k = k (.vec 4 (nodeC (s.setW i b) n)) := by
 refine Tm (s' := s.setW i b) h rfl rfl (by simp [V.cells]) (fun k hk => ?_) ?_
 ·simp only [nodeV, TS.setW, Cu hk]
 ·simp [nodeV, TS.setW, Cn, V.cells]
theorem vsG (h : i < n) {a : Nat} (ha : a = s.gone i + 1) {k : AObj → Prop} : vstoreK (some (.vec 4 (nodeC s n))) (i * 4 + 3) 1 (.int .i64 (a : Int)) k = k (.vec 4 (nodeC (s.go i) n)) := by
 subst ha
 refine Tm (s' := s.go i) h rfl rfl (by simp [V.cells]) (fun k hk => ?_) ?_
 ·simp only [nodeV, TS.go, Cu hk]
 ·simp [nodeV, TS.go, Cn, V.cells]
theorem zx1 {r len : Nat} (h : i < len) : sem E (.idxp 1) [.slr r 0 len 1, .int .i64 (i : Int)] W K = K (.vptr r i) W := by
 rw [Ef (by omega) (by omega)]; simp
theorem H2 {r off : Nat} : sem E .nilck [.vptr r off] W K = K (.vptr r off) W := id rfl
theorem minN {a b m : Nat} : sem E (.len 5 m) [.int .i64 (a : Int), .int .i64 (b : Int)] W K = K (.int .i64 ((min a b : Nat) : Int)) W := by
 have e : (if (b : Int) < (a : Int) then (b : Int) else (a : Int)) = ((min a b : Nat) : Int) := by split <;> omega
 simp only [sem, e]
 exact propext ⟨fun h => h.2, fun h => ⟨tt, h⟩⟩
end
def natsV (l : List Nat) : List V := l.map fun (i : Nat) => V.int .i64 i
theorem Aq (l : List Nat) : (natsV l).length = l.length := by simp [natsV]
theorem Kp (l : List Nat) (i : Nat) : natsV (l ++ [i]) = natsV l ++ [.int .i64 i] := by simp [natsV]
theorem Ft {s s' : TS} (h : ∀ i, nodeV s' i = nodeV s i) : ∀ n, nodeC s' n = nodeC s n
 | 0 => rfl
 | n + 1 => by rw [nodeC, nodeC, Ft h n, h]
theorem zbI {W : AW} {K : V → AW → Prop} {n : Int} : sem E (.bslice 1 1 (.int .i64 0) [0]) [.int .i64 n] W K = K (.sl 1 true [.int .i64 n]) W := E3 rfl
theorem slH.rne {W : AW} {h : V} {xs : List V} {lo : Nat} (hn : slH W h xs lo) (r : Nat) (hr : W.nx ≤ r) : refH h ≠ some r := fun e => by
 have := (hn.rlt e).2.1; omega
theorem Hn {r k n s : Nat} : (V.slr r k n s).cells = [.slr r k n s] := id rfl
theorem Wj {r k n s : Nat} : (V.slr r k n s).one = true := id rfl
theorem Ev {l : List Nat} {k : Nat} (h : k < l.length) : (natsV l)[k]? = some (.int .i64 (l[k] : Nat)) := by simp [natsV, h]
def egV (g : Nat × List Nat) : V := .slr g.1 0 g.2.length 1
structure Sw (n lo : Nat) (nv : V) (rs rn : Nat) (hw ht he : V) (gs : List (Nat × List Nat)) (s : TS) (W : AW) : Prop where
 row : W.get rs = some (.row [nv, .slr rn 0 n 4, hw, ht, he, .int .i64 s.cnt])
 nod : W.get rn = some (.vec 4 (nodeC s n))
 way : slH W hw (natsV s.way) lo
 wtg : slH W ht (natsV s.wtg) lo
 eds : slH W he (gs.map egV) lo
 grp : ∀ g ∈ gs, lo ≤ g.1 ∧ g.1 < W.nx ∧ W.get g.1 = some (.vec 1 (natsV g.2))
 eg : s.ended = gs.map (·.2)
 rsl : lo ≤ rs ∧ rs < W.nx
 rnl : lo ≤ rn ∧ rn < W.nx
 d1 : ∀ r, refH hw = some r → refH ht ≠ some r ∧ refH he ≠ some r
 d2 : ∀ r, refH ht = some r → refH he ≠ some r
 d3 : ∀ g ∈ gs, refH hw ≠ some g.1 ∧ refH ht ≠ some g.1 ∧ refH he ≠ some g.1
 cl : Cl W
section
variable {W W' : AW} {n lo rs rn : Nat} {nv hw ht he : V} {gs : List (Nat × List Nat)} {s : TS}
theorem Sw.ne (h : Sw n lo nv rs rn hw ht he gs s W) : rs ≠ rn := by
 rintro rfl
 have := h.row.symm.trans h.nod; cases this
theorem slH.ner {h : V} {xs : List V} (hn : slH W h xs lo) {r : Nat} {cs : List V} (hg : W.get r = some (.row cs)) : refH h ≠ some r := by
 intro e
 obtain ⟨_, _, cs', _, h4⟩ := hn.rlt e
 rw [hg] at h4; cases h4
theorem slH.nen {h : V} {xs : List V} (hn : slH W h xs lo) {r : Nat} {cs : List V} (hg : W.get r = some (.vec 4 cs)) : refH h ≠ some r := by
 intro e
 obtain ⟨_, _, cs', _, h4⟩ := hn.rlt e
 rw [hg] at h4; cases h4
theorem Sw.to (h : Sw n lo nv rs rn hw ht he gs s W) (hc : Cl W') (hx : W.nx ≤ W'.nx) (hg : ∀ x, lo ≤ x → x < W.nx → W'.get x = W.get x) : Sw n lo nv rs rn hw ht he gs s W' :=
 ⟨(hg _ h.rsl.1 h.rsl.2).trans h.row, (hg _ h.rnl.1 h.rnl.2).trans h.nod, h.way.to hx fun r _ => hg r, h.wtg.to hx fun r _ => hg r, h.eds.to hx fun r _ => hg r, fun g hgg => by
  obtain ⟨a, b, c⟩ := h.grp g hgg
  exact ⟨a, by omega, (hg _ a b).trans c⟩, h.eg, ⟨h.rsl.1, by have := h.rsl.2; omega⟩, ⟨h.rnl.1, by have := h.rnl.2; omega⟩, h.d1, h.d2, h.d3, hc⟩
theorem Sw.putn (h : Sw n lo nv rs rn hw ht he gs s W) {s' : TS} (h1 : s'.way = s.way) (h2 : s'.wtg = s.wtg) (h3 : s'.ended = s.ended) (h4 : s'.cnt = s.cnt) : Sw n lo nv rs rn hw ht he gs s' (W.put rn (.vec 4 (nodeC s' n))) := by
 have k : ∀ r, r ≠ rn → (W.put rn (.vec 4 (nodeC s' n))).get r = W.get r := fun r hr => put_ne hr
 have hne := h.ne
 refine ⟨by rw [k _ hne, h4]; exact h.row, put_at, ?_, ?_, ?_, fun g hg => ?_, by rw [h3]; exact h.eg, h.rsl, h.rnl, h.d1, h.d2, h.d3, h.cl.put h.rnl.2⟩
 ·rw [h1]; exact h.way.to (lr _) fun r hr _ _ => k r fun e => h.way.nen h.nod (e ▸ hr)
 ·rw [h2]; exact h.wtg.to (lr _) fun r hr _ _ => k r fun e => h.wtg.nen h.nod (e ▸ hr)
 ·exact h.eds.to (lr _) fun r hr _ _ => k r fun e => h.eds.nen h.nod (e ▸ hr)
 ·obtain ⟨a, b, c⟩ := h.grp g hg
  exact ⟨a, b, by rw [k _ (fun e => by rw [e, h.nod] at c; cases c)]; exact c⟩
theorem Sw.putr (h : Sw n lo nv rs rn hw ht he gs s W) (hx : W.nx ≤ W'.nx) (hc : Cl W') {hw' ht' he' : V} {gs' : List (Nat × List Nat)} {s' : TS} (hg : ∀ x, x < W.nx → refH hw ≠ some x → refH ht ≠ some x → refH he ≠ some x → W'.get x = W.get x)
  (h1 : slH W' hw' (natsV s'.way) lo) (h2 : slH W' ht' (natsV s'.wtg) lo) (h3 : slH W' he' (gs'.map egV) lo) (hgr : ∀ g ∈ gs', g ∈ gs ∨ (lo ≤ g.1 ∧ g.1 < W'.nx ∧ W'.get g.1 = some (.vec 1 (natsV g.2)))) (he1 : s'.ended = gs'.map (·.2))
  (hno : ∀ i, nodeV s' i = nodeV s i)
  (d1 : ∀ r, refH hw' = some r → refH ht' ≠ some r ∧ refH he' ≠ some r) (d2 : ∀ r, refH ht' = some r → refH he' ≠ some r) (d3 : ∀ g ∈ gs', refH hw' ≠ some g.1 ∧ refH ht' ≠ some g.1 ∧ refH he' ≠ some g.1) :
  Sw n lo nv rs rn hw' ht' he' gs' s' (W'.put rs (.row [nv, .slr rn 0 n 4, hw', ht', he', .int .i64 s'.cnt])) := by
 have grs := hg rs h.rsl.2 (h.way.ner h.row) (h.wtg.ner h.row) (h.eds.ner h.row)
 have hrow := grs.trans h.row
 have k : ∀ r, r ≠ rs → (W'.put rs (.row [nv, .slr rn 0 n 4, hw', ht', he', .int .i64 s'.cnt])).get r = W'.get r := fun r hr => put_ne hr
 have hnn : nodeC s' n = nodeC s n := Ft hno n
 have l1 := h.rsl
 have l2 := h.rnl
 refine ⟨put_at, ?_, ?_, ?_, ?_, fun g hgg => ?_, he1, ⟨l1.1, by rw [Ae]; omega⟩, ⟨l2.1, by rw [Ae]; omega⟩, d1, d2, d3, hc.put (by omega)⟩
 ·rw [k _ h.ne.symm, hg rn l2.2 (h.way.nen h.nod) (h.wtg.nen h.nod) (h.eds.nen h.nod), hnn]; exact h.nod
 ·exact h1.to (lr _) fun r hr _ _ => k r fun e => h1.ner hrow (e ▸ hr)
 ·exact h2.to (lr _) fun r hr _ _ => k r fun e => h2.ner hrow (e ▸ hr)
 ·exact h3.to (lr _) fun r hr _ _ => k r fun e => h3.ner hrow (e ▸ hr)
 ·rcases hgr g hgg with hgs | ⟨a, b, c⟩
  ·obtain ⟨a, b, c⟩ := h.grp g hgs
   obtain ⟨e1, e2, e3⟩ := h.d3 g hgs
   have hne : g.1 ≠ rs := fun e => by rw [e, h.row] at c; cases c
   exact ⟨a, by rw [Ae]; omega, by rw [k _ hne, hg _ b e1 e2 e3]; exact c⟩
  ·have hne : g.1 ≠ rs := fun e => by rw [e, hrow] at c; cases c
   exact ⟨a, by rw [Ae]; exact b, by rw [k _ hne]; exact c⟩
end
theorem meet_c (hP : PE E) (W : AW) {n lo rs rn : Nat} {nv hw ht he : V} {gs : List (Nat × List Nat)} {s : TS} (h : Sw n lo nv rs rn hw ht he gs s W) {i : Nat} (hi : i < n) (hn : n < 2 ^ 30) (hcn : s.cnt ≤ n) (hwl : s.way.length ≤ n) (htl : s.wtg.length ≤ n) (_ : nv.cells = [nv]) :
  ACalls E 209 [.ptr rs 0, .int .i64 (i : Int)] W fun _ W' => W.nx ≤ W'.nx ∧ (∀ x, x < lo → W'.get x = W.get x) ∧ ∃ hw' ht', Sw n lo nv rs rn hw' ht' he gs (s.meet i) W' := by
 refine ACalls.of hP Tryz.func209 Wr (by simp) fun _ hok => ?_
 have hne := h.ne
 obtain ⟨l1, l2⟩ := h.rsl
 obtain ⟨l3, l4⟩ := h.rnl
 have hw1 : IntKind.i64.wrap ((s.cnt : Int) + 1) = ((s.cnt + 1 : Nat) : Int) := Ah (by omega)
 have f1 := h.way.cells
 have f2 := h.wtg.cells
 have hC1 : Cl ((W.put rs (.row [nv, .slr rn 0 n 4, hw, ht, he, .int .i64 ((s.cnt + 1 : Nat) : Int)])).put rn (.vec 4 (nodeC (s.setN i (s.cnt + 1)) n))) := (h.cl.put l2).put l4
 simp (disch:=omega) only [BZ, ↓reduceIte, nE, reduceCtorEq, BM, BD, nA, nL, c_meetS, h.row, h.nod, put_at, put_ne, hw1, ix4, Ew, vsN, zbI]
 obtain ⟨s1, hs1⟩ : ∃ s1 : TS, s1 = ({ s with cnt := s.cnt + 1 } : TS).setN i (s.cnt + 1) := ⟨_, rfl⟩
 have g1 := (h.putr (s' := { s with cnt := s.cnt + 1 }) (lr _) h.cl (fun _ _ _ _ _ => rfl) h.way h.wtg h.eds (fun g hg => .inl hg) h.eg (fun _ => rfl) h.d1 h.d2 h.d3).putn (s' := s1) (by rw [hs1]; rfl) (by rw [hs1]; rfl) (by rw [hs1]; rfl) (by rw [hs1]; rfl)
 have e1 : nodeC (s.setN i (s.cnt + 1)) n = nodeC s1 n := by rw [hs1]; exact Ft (s := ({ s with cnt := s.cnt + 1 } : TS).setN i (s.cnt + 1)) (s' := s.setN i (s.cnt + 1)) (fun _ => rfl) n
 have y1 : s1.way = s.way := by rw [hs1]; rfl
 have y2 : s1.wtg = s.wtg := by rw [hs1]; rfl
 have y3 : s1.cnt = s.cnt + 1 := by rw [hs1]; rfl
 have y4 : ({ s1 with way := s.way ++ [i], wtg := s.wtg ++ [i] } : TS) = s.meet i := by rw [hs1]; rfl
 clear hs1
 rw [e1]
 obtain ⟨W1, hW1⟩ : ∃ W1, W1 = (W.put rs (.row [nv, .slr rn 0 n 4, hw, ht, he, .int .i64 ((s.cnt + 1 : Nat) : Int)])).put rn (.vec 4 (nodeC s1 n)) := ⟨_, rfl⟩
 have h1 : Sw n lo nv rs rn hw ht he gs s1 W1 := by rw [hW1]; exact g1
 have b1 : ∀ x, x < lo → W1.get x = W.get x := fun x hx => by rw [hW1, put_ne (by omega), put_ne (by omega)]
 have c1 : W1.nx = W.nx := by rw [hW1]; rfl
 rw [← hW1]
 clear hW1 g1 e1
 refine h1.way.app h1.cl (by omega) ⟨rfl, rfl⟩ (by rw [Aq, y1]; omega) ?_
 intro W2 a1 a2 a3 a4
 have r2 := (a4 _ h1.rsl.2 (h1.way.ner h1.row)).trans h1.row
 have z1 := h1.way.rne
 have z2 := h1.wtg.rne
 have z3 := h1.eds.rne
 have hd := h1.d1
 have l5 := h1.rsl.2
 rw [y1, ← Kp] at a1
 simp (disch:=omega) only [BS, BC, ↓reduceIte, nE, reduceCtorEq, BM, BD, nA, nL, r2, Hn, Wj, zbI, y1, y3]
 have h2 := h1.putr (W' := W2) (hw' := .slr W1.nx 0 ((natsV s.way).length + 1) 1) (s' := { s1 with way := s.way ++ [i] }) (by omega) a2 (fun x hx q1 _ _ => a4 x hx q1) a1 (h1.wtg.to (by omega) fun r hr _ hl => a4 r hl fun e => (hd r e).1 hr) (h1.eds.to (by omega) fun r hr _ hl => a4 r hl fun e => (hd r e).2 hr) (fun g hg => .inl hg) h1.eg (fun _ => rfl)
  (fun r hr => by cases hr; exact ⟨z2 _ (lr _), z3 _ (lr _)⟩) h1.d2 (fun g hg => ⟨fun e => by have := (h1.grp g hg).2.1; have : W1.nx = g.1 := Option.some.inj e; omega, (h1.d3 g hg).2⟩)
 obtain ⟨W3, hW3⟩ : ∃ W3, W3 = W2.put rs (.row [nv, .slr rn 0 n 4, .slr W1.nx 0 ((natsV s.way).length + 1) 1, ht, he, .int .i64 ((s.cnt + 1 : Nat) : Int)]) := ⟨_, rfl⟩
 have h3 : Sw n lo nv rs rn (.slr W1.nx 0 ((natsV s.way).length + 1) 1) ht he gs { s1 with way := s.way ++ [i] } W3 := by rw [hW3, ← y3]; exact h2
 have b3 : ∀ x, x < lo → W3.get x = W1.get x := fun x hx => by rw [hW3, put_ne (by omega)]; exact a4 x (by omega) fun e => by have := (h1.way.rlt e).1; omega
 have c3 : W3.nx = W1.nx + 1 := by rw [hW3]; exact a3
 rw [← hW3]
 clear hW3 h2
 simp (disch:=omega) only [BC, BM, h3.row]
 refine h3.wtg.app h3.cl (by omega) (x := .int .i64 i) ⟨rfl, rfl⟩ (by rw [Aq]; show (s1.wtg.length + 1) * 8 ≤ _; rw [y2]; omega) ?_
 intro W4 a1' a2' a3' a4'
 have r4 := (a4' _ h3.rsl.2 (h3.wtg.ner h3.row)).trans h3.row
 have z3' := h3.eds.rne
 have z1' := h3.way.rne
 have hd' := h3.d1
 have hd2 := h3.d2
 have l6 := h3.rsl.2
 have y5 : ({ s1 with way := s.way ++ [i] } : TS).wtg = s.wtg := y2
 rw [y5, ← Kp] at a1'
 simp (disch:=omega) only [BS, ↓reduceIte, nE, BM, BD, nA, nL, r4, Hn, Wj, y3]
 have h4 := h3.putr (W' := W4) (ht' := .slr W3.nx 0 ((natsV s.wtg).length + 1) 1) (s' := { s1 with way := s.way ++ [i], wtg := s.wtg ++ [i] }) (by omega) a2' (fun x hx _ q2 _ => a4' x hx q2) (h3.way.to (by omega) fun r hr _ hl => a4' r hl fun e => (hd' r hr).1 e) a1' (h3.eds.to (by omega) fun r hr _ hl => a4' r hl fun e => hd2 r e hr) (fun g hg => .inl hg) h3.eg (fun _ => rfl)
  (fun r hr => ⟨fun e => by cases e; exact z1' _ (lr _) hr, (hd' r hr).2⟩) (fun r hr => by cases hr; exact z3' _ (lr _)) (fun g hg => ⟨(h3.d3 g hg).1, fun e => by have := (h3.grp g hg).2.1; have : W3.nx = g.1 := Option.some.inj e; omega, (h3.d3 g hg).2.2⟩)
 refine ⟨_, rfl, _, _, .weak Ab, by rw [Ae]; omega, by rw [Ae]; omega, fun x hx => ?_, _, _, by rw [← y4, ← y3]; simp only [y2]; exact h4⟩
 rw [put_ne (by omega), a4' x (by omega) fun e => by have := (h3.wtg.rlt e).1; omega]
 exact (b3 x hx).trans (b1 x hx)
open Go Go.AL Go.Proofs Go.Sort Go.Shelf Go.RowKit
theorem cmpLL_w (a b : Addr) (la ca lb cb : Nat) (x y : Int) (W : World) (ha : W.cell? a = some (.int .i64 x)) (hb : W.cell? b = some (.int .i64 y)) (h0 : 0 < la) (h1 : 0 < lb) (hx : IntKind.i64.wrap (x - y) = x - y) :
  Calls Tryz.prog 129 #[.slice (some a) la ca, .slice (some b) lb cb] W fun e w' => e = .returned (.int .i64 (x - y)) ∧ ∃ q, w' = W.drewN q := by
 go_enter Tryz.func129, Tryz.ntmps129
 go_wp2
 go_region
 all_goals go_wp2
 all_goals go_ret
 all_goals exact ⟨rfl, 1, rfl⟩
theorem Kd {γ : G} : ∀ {l : List Nat} {c : List Value}, RelL γ (natsV l) c → c = l.map fun (i : Nat) => Value.int .i64 i
 | [], _, h => h
 | i :: l, _, ⟨v, l', rfl, h1, h2⟩ => by
  have := Kd (l := l) h2
  rw [mcs, ← this]
  congr 1
theorem P6 {γ : G} : ∀ {l : List Nat}, RelL γ (natsV l) (l.map fun (i : Nat) => Value.int .i64 i)
 | [] => rfl
 | _ :: l => ⟨_, _, rfl, rfl, P6 (l := l)⟩
theorem Wi {l : List Nat} {z : List Int} (h : z.Perm (l.map fun (i : Nat) => (i : Int))) : ∃ l' : List Nat, l'.Perm l ∧ z = l'.map fun (i : Nat) => (i : Int) := by
 refine ⟨z.map Int.toNat, ?_, ?_⟩
 ·have := h.map Int.toNat
  simpa [List.map_map, Function.comp_def] using this
 ·rw [List.map_map]
  refine (List.map_id z).symm.trans (List.map_congr_left fun x hx => ?_)
  obtain ⟨i, _, rfl⟩ := List.mem_map.1 (h.mem_iff.1 hx)
  simp
theorem sortI_c (hP : PE E) (W : AW) {r : Nat} {l : List Nat} (hg : W.get r = some (.vec 1 (natsV l))) (hl : 0 < l.length) (hm : l.length < 2 ^ 40) :
  ACalls E 237 [.slr r 0 l.length 1] W fun Y W' => Y = .tuple [] ∧ ∃ l', l'.Perm l ∧ W' = W.put r (.vec 1 (natsV l')) := by
 refine ⟨⟨_, _, by rw [hP]; exact Tryz.func237, rfl, by decide⟩, fun _ γ w ws hW hr => ?_⟩
 obtain ⟨v, _, rfl, ⟨b, a, hb, rfl, hcap, ha, _⟩, rfl⟩ := hr
 obtain ⟨b', pre, c, t, e, hb', hheap, hp, hcl, hz⟩ := hW.obj r _ hg
 rw [hb] at hb'; cases hb'
 obtain rfl := ha (by omega)
 have hc := Kd hcl
 have hcc : (l.map fun (i : Nat) => (i : Int)).toArray.toList.map (Value.int .i64) = c := by rw [hc]; simp
 have hk := Any.slices_Sort_int lays189 b pre.length ((γ.vb r).2 - 0) (l.map fun (i : Nat) => (i : Int)) w (Kv _ _ hheap hcc) (hW.apart r _ b hg hb).2.1 (by rw [lmp]; omega)
 rw [hP]
 rw [lmp] at hk
 rw [show (γ.vb r).1 + 0 * 1 = pre.length by omega]
 refine Calls.mono hk ?_
 rintro en w' ⟨rfl, m, os, rfl⟩
 obtain ⟨l', hl', hz'⟩ := Wi (List.mergeSort_perm (l.map fun (i : Nat) => (i : Int)) fun x y => decide (x ≤ y))
 rw [hz']
 have hlen : l'.length = l.length := hl'.length_eq
 have hcl' : c.length = l.length := by rw [hc, lmp]
 refine ⟨_, γ, .tuple [], W.put r (.vec 1 (natsV l')), rfl, G.le.refl _ _, lr _, hW.laid hg hb hheap hp hz (Value.int .i64) (l'.map fun (i : Nat) => (i : Int)).toArray (by simp; omega) ?_ m os, ⟨[], rfl, rfl⟩, rfl, l', hl', rfl⟩
 have : (l'.map fun (i : Nat) => (i : Int)).toArray.toList.map (Value.int .i64) = l'.map fun (i : Nat) => Value.int .i64 i := by simp
 rw [this]
 exact P6
theorem Lv {γ : G} : ∀ {xs : List V} {l : List Value}, RelL γ xs l → l.length = xs.length
 | [], _, h => by rw [h]; rfl
 | _ :: _, _, ⟨_, _, rfl, _, h2⟩ => by rw [lcs, lcs, Lv h2]
theorem Zf {α : Type} [Inhabited α] {d d' : Array α} {m : Nat} (hm : d.size = m) (h : PermIn 0 m d d') : d'.toList.Perm d.toList := by
 subst hm
 obtain ⟨h1, _, h3⟩ := h
 have e1 : d.extract 0 d.size = d := Array.extract_size
 have e2 : d'.extract 0 d.size = d' := by rw [← h1]; exact Array.extract_size
 rwa [e1, e2] at h3
theorem Yt (hP : PE E) (W : AW) {r : Nat} {gs : List (Nat × List Nat)} {cs : List V} (hg : W.get r = some (.vec 1 (gs.map egV ++ cs))) (hne : 0 < gs.length) (hm : gs.length < 2 ^ 40) (hgr : ∀ g ∈ gs, 0 < g.2.length ∧ W.get g.1 = some (.vec 1 (natsV g.2)) ∧ g.1 ≠ r ∧ ∀ i ∈ g.2, i < 2 ^ 40) :
  ACalls E 128 [.slr r 0 gs.length 1, .fn (.func 129) [] []] W fun Y W' => Y = .tuple [] ∧ ∃ gs' : List (Nat × List Nat), gs'.Perm gs ∧ W' = W.put r (.vec 1 (gs'.map egV)) := by
 refine ⟨⟨_, _, by rw [hP]; exact Tryz.func128, rfl, by decide⟩, fun _ γ w ws hW hr => ?_⟩
 obtain ⟨v, _, rfl, ⟨b, a, hb, rfl, hcap, ha, _⟩, v2, _, rfl, ⟨fs, cs2, rfl, hf1, hf2⟩, rfl⟩ := hr
 cases hf1; cases hf2
 have hW0 := hW
 have hW := hW.cutVec hg hb gs.length
 have htk : (gs.map egV ++ cs).take gs.length = gs.map egV := by rw [List.take_append_of_le_length (by simp), List.take_of_length_le (by simp)]
 rw [htk] at hW
 have hg1 : (W.put r (.vec 1 (gs.map egV))).get r = some (.vec 1 (gs.map egV)) := put_at
 obtain ⟨b', pre, c, t, e, hb', hheap, hp, hcl, hz⟩ := hW.obj r _ hg1
 rw [hb] at hb'; cases hb'
 obtain rfl := ha (by omega)
 have hlc : c.length = gs.length := by rw [Lv hcl, lmp]
 have hbl := (hW.apart r _ b hg1 hb).2.1
 haveI : Inhabited (Fin gs.length) := ⟨⟨0, hne⟩⟩
 obtain ⟨enc, henc⟩ : ∃ enc : Fin gs.length → Value, enc = fun i => c[i.1]'(by rw [hlc]; exact i.2) := ⟨_, rfl⟩
 obtain ⟨key, hkey⟩ : ∃ key : Fin gs.length → Int, key = fun i => ((gs[i.1].2.headD 0 : Nat) : Int) := ⟨_, rfl⟩
 have hrv : ∀ i : Fin gs.length, RelV γ (egV gs[i.1]) (enc i) := fun i => by
  have := RelL.at hcl (i := i.1) (by rw [lmp]; exact i.2) (by rw [hlc]; exact i.2)
  rw [List.getElem_map] at this
  rw [henc]; exact this
 -- what lies at a group's first place
 have hval : ∀ i : Fin gs.length, ∃ bx off n cap, enc i = .slice (some ⟨bx, off, none⟩) n cap ∧ 0 < n ∧ bx ≠ b ∧ bx < w.heap.size ∧ w.cell? ⟨bx, off, none⟩ = some (.int .i64 (key i)) := fun i => by
  obtain ⟨h0, h1, h2, h3⟩ := hgr gs[i.1] (gmm i.2)
  obtain ⟨bx, ax, e1, e2, e3, e4, _⟩ := hrv i
  have h1' : (W.put r (.vec 1 (gs.map egV))).get gs[i.1].1 = some (.vec 1 (natsV gs[i.1].2)) := by rw [put_ne h2]; exact h1
  obtain ⟨by', prex, cx, tx, ex, f1, f2, f3, f4, f5⟩ := hW.obj _ _ h1'
  rw [e1] at f1; cases f1
  obtain rfl := e4 (by omega)
  have hne : bx ≠ b := fun e => h2 (hW.inj _ _ _ _ bx h1' hg1 e1 (e ▸ hb))
  refine ⟨bx, _, _, _, e2, h0, hne, (hW.apart _ _ bx h1' e1).2.1, ?_⟩
  rw [hkey]
  have hcx := Kd f4
  obtain ⟨x, l, hxl⟩ : ∃ x l, gs[i.1].2 = x :: l := by
   cases hh : gs[i.1].2 with
   | nil => rw [hh] at h0; simp at h0
   | cons x l => exact ⟨x, l, rfl⟩
  simp only [hxl, List.headD_cons]
  rw [hxl] at hcx
  simp only [World.cell?, f2, List.getElem?_toArray]
  rw [show (γ.vb gs[i.1].1).1 + 0 * 1 = prex.length by omega, List.append_assoc, List.getElem?_append_right (lr _), Nat.sub_self, hcx]
  rfl
 have hkb : ∀ i, 0 ≤ key i ∧ key i < 2 ^ 40 := fun i => by
  obtain ⟨h0, _, _, h3⟩ := hgr gs[i.1] (gmm i.2)
  rw [hkey]
  cases hh : gs[i.1].2 with
  | nil => rw [hh] at h0; simp at h0
  | cons x l =>
   have := h3 x (by rw [hh]; simp)
   simp only [hh, List.headD_cons]; omega
 obtain ⟨d, hd⟩ : ∃ d : Array (Fin gs.length), d = (List.finRange gs.length).toArray := ⟨_, rfl⟩
 have hds : d.size = gs.length := by rw [hd]; simp
 have hdc : d.toList.map enc = c := by
  refine List.ext_getElem (by rw [hd, hlc]; simp) fun i h1 h2 => ?_
  simp [hd, henc]
 have h1 : OneCell enc := fun i => by
  obtain ⟨bx, off, n, cap, h, _⟩ := hval i
  rw [h]; rfl
 obtain ⟨cf, hcf⟩ : ∃ cf : Fin gs.length → Fin gs.length → Int, cf = fun i j => key i - key j := ⟨_, rfl⟩
 have hO : SWO (ltOf cf) := by
  have hlt : ∀ x y, ltOf cf x y = decide (key x < key y) := fun x y => by rw [hcf, ltOf, decide_eq_decide]; omega
  refine ⟨fun x => ?_, fun x y z h1 h2 => ?_, fun x y z h1 h2 => ?_⟩
  ·rw [hlt]; simp
  ·rw [hlt] at *; simp at *; omega
  ·rw [hlt] at *; simp at *; omega
 have eg : ∀ args w, (callFunc 129 args).run Tryz.prog w = .ok (.enter 129 args) w := enters_of Tryz.func129 (by kernel_rfl) rfl
 have hcmp : CmpLays1 Tryz.prog 129 #[] enc cf b pre.length d.size w := fun m os dk hs x y => by
  obtain ⟨bx, ox, nx, cx, q1, q2, q3, q4, q5⟩ := hval x
  obtain ⟨by', oy, ny, cy, p1, p2, p3, p4, p5⟩ := hval y
  have hce : ∀ (bz oz : Nat) (v : Value), bz ≠ b → bz < w.heap.size → w.cell? ⟨bz, oz, none⟩ = some v → (sortWorld enc w b pre.length m dk os).cell? ⟨bz, oz, none⟩ = some v := fun bz oz v g1 g2 g3 => by
   unfold sortWorld
   rw [cell?_grow _ _ _ (by rw [Sort.size_putRow]; exact g2), cell?_putRow_other _ _ _ _ _ _ (Or.inl g1)]
   exact g3
  have kx := hkb x
  have ky := hkb y
  rw [hcf, q1, p1]
  refine (cmpLL_w ⟨bx, ox, none⟩ ⟨by', oy, none⟩ nx cx ny cy (key x) (key y) _ (hce _ _ _ q3 q4 q5) (hce _ _ _ p3 p4 p5) q2 p2 (IntWalk.i64_in _ (by omega))).mono ?_
  rintro en w' ⟨rfl, q, rfl⟩
  exact ⟨rfl, q, #[], by rw [grow_empty]⟩
 have hk := Any.slices_SortFunc laysLL enc h1 cf hO 129 #[] b pre.length ((γ.vb r).2 - 0) d w eg hcmp (Kv enc d hheap hdc) hbl (by omega)
 rw [hP]
 rw [hds] at hk
 rw [show (γ.vb r).1 + 0 * 1 = pre.length by omega]
 refine Calls.mono hk ?_
 rintro en w' ⟨rfl, d', m, os, hpm, _, rfl⟩
 have hper := Zf hds hpm
 have hpl := hper.length_eq
 have hdl : d'.size = gs.length := by have := hpl; simp only [Array.length_toList] at this; omega
 refine ⟨_, γ, .tuple [], (W.put r (.vec 1 (gs.map egV))).put r (.vec 1 ((d'.toList.map fun i => gs[i.1]).map egV)), rfl, G.le.refl _ _, lr _, hW.laid hg1 hb hheap hp hz enc d' (by omega) ?_ m os, ⟨[], rfl, rfl⟩, rfl, d'.toList.map fun i => gs[i.1], ?_, ?_⟩
 ·rw [List.map_map]; exact RelL.mapped hrv _
 ·have e : ∀ (d : Array (Fin gs.length)), d = (List.finRange gs.length).toArray → (d.toList.map fun i => gs[i.1]) = gs := fun d hd => by
   subst hd
   exact List.ext_getElem (by simp) fun i h1 h2 => by simp
  have := hper.map fun i : Fin gs.length => gs[i.1]
  rwa [e d hd] at this
 ·simp only [AW.put, AW.mk.injEq, and_true]; funext x; by_cases h : x = r <;> simp [h]
end Go.AL.S
namespace Go.AL.S
open Go Go.AL Go.Proofs
def c8 : AC := (.r [.v 6 (.int .i64 0)] (.r [.m 13 0,.m 14 1,.b 15 (.call 51) 13 14,.m 12 15,.u 16 (.ext 0) 12,.u 17 (.ext 1) 12,.p 7 (.alloc [.int .u16 0,.int .u8 0,.nilsl,.nilsl,.int .u8 0]) [],⟨none,.store 5, [.t 7,.t 16], none⟩,.m 8 17] (.seq (.r [.m 18 8,.a 19 (.bin .neq) 18 0] (.cond (.t 19) (.r [.m 20 8,.m 6 20] .ret) .skip)) (.seq (.r [.m 21 1,.m 22 2,.p 23 (.build [.int .u8 0,.int .u8 0,.int .u16 0,.int .u8 0,.int .u8 0,.int .u8 0,.int .u16 0,.int .u16 0,.int .u8 0,.int .u16 0,.nilsl,.nilsl,.int .u8 0,.int .i64 0,.int .i64 0,.int .i64 0,.bool false,.bool false,.bool false] [(0, 1), (2, 1), (11, 1)]) [.c (.int .u8 6),.t 21,.t 22],.u 24 (.call 52) 23,.a 25 (.bin .neq) 24 0] (.cond (.t 25) (.r [.v 6 (.int .i64 4)] .ret) .skip)) (.r [.m 26 2,.u 27 (.call 53) 26,.u 28 (.fld 4) 7,⟨none,.store 1, [.t 28,.c (.int .u8 1)], none⟩,.u 29 (.fld 3) 7,⟨none,.store 1, [.t 29,.t 27], none⟩] (.r [.v 9 (.int .i64 0)] (.seq (.r [.u 30 (.fld 2) 7,.u 31 (.load false 1) 30,.u 32 (.len 1 0) 31,.v 33 (.int .i64 0)] (.block 0 (.loop (.r [.b 34 (.bin .lss) 33 32] (.seq (.w 34 0) (.seq (.block 1 (.r [.b 35 (.idxp 3) 31 33,.u 36 (.load true 3) 35,.p 11 (.alloc [.bool false,.int .u8 0,.int .u16 0]) [],⟨none,.store 3, [.t 11,.t 36], none⟩] (.r [.u 37 (.fld 0) 11,.u 38 (.load false 1) 37] (.cond (.t 38) (.reg [.m 39 9,.a 40 (.bin .add) 39 1,.m 9 40]) .skip)))) (.reg [.a 41 (.bin .add) 33 1,.m 33 41]))))))) (.seq (.r [.m 42 9,.m 43 2,.u 44 (.len 1 0) 43,.b 45 (.bin .neq) 42 44] (.cond (.t 45) (.r [.v 6 (.int .i64 10)] .ret) .skip)) (.seq (.par (.step 0 (.m 46 0) (.step 1 (.u 47 .nilck 46) (.step 2 (.u 48 (.fld 0) 47) (.step 4 (.m 50 1) (.step 3 (.u 49 (.load false 1) 48) (.step 5 (.u 51 (.load true 5) 7) (.step 6 ⟨none,.mupd (false, [.i .u16]), [.t 49,.t 50,.t 51], none⟩ .done)))))))) (.r [.v 6 (.int .i64 0)] .ret))))))))))
theorem ok8e : compF Tryz.prog Tryz.f30 ⟨false, false, []⟩ = some (c8, [.tmp 6], 52) := by kernel_rfl
variable {E : Env}
def endR (s : Str) (i st : Int) : Str × Int := match find s i with
 | some t => if t.st = 0 then (upd s { t with st := st }, 0) else (s, 7)
 | none => (s, 7)
theorem Jd (s : Str) (i : Int) : (∃ t, find s i = some t ∧ t.st = 0 ∧ openR s i = (t, 0) ∧ ∀ st, endR s i st = (upd s { t with st := st }, 0)) ∨ (openR s i = (Tx.zero, 7) ∧ ∀ st, endR s i st = (s, 7)) := by
 cases hf : find s i with
 | none => exact .inr ⟨by simp [openR, hf], fun st => by simp [endR, hf]⟩
 | some t =>
  by_cases h : t.st = 0
  ·exact .inl ⟨t, rfl, h, by simp [openR, hf, h], fun st => by simp [endR, hf, h]⟩
  ·exact .inr ⟨by simp [openR, hf, h], fun st => by simp [endR, hf, h]⟩
theorem end_c (hP : PE E) (W : AW) {p ra rw : Nat} {s : Str} (h : St W p ra rw s) (i st : Int) (h0 : 0 ≤ i) (h1 : i < 65536) (hst : 0 ≤ st ∧ st < 4) :
  ACalls E 62 [.ptr p 0, .int .u16 i, .int .u8 st] W fun Y W' => Y = .int .i64 (endR s i st).2 ∧ St W' p ra rw (endR s i st).1 ∧ Fr W W' p ra rw := by
 refine ACalls.of hP Tryz.func62 ok29e (by simp) fun _ hok => ?_
 refine Af hok ?_
 have hla := h.la
 have hlp := h.lp
 have hX : ∀ l, St (X W W.nx l) p ra rw s := fun l => ⟨by rw [Aj h.lp]; exact h.hp, by rw [Aj h.la]; exact h.ha, by obtain ⟨ws, cw, a, b⟩ := h.hw; exact ⟨ws, cw, by rw [Aj h.lw]; exact a, b⟩, h.ne, by simp [Ci, rf]; omega, by have := h.la; simp [Ci, rf]; omega, by have := h.lw; simp [Ci, rf]; omega, h.ok⟩
 simp only [c29, BZ, ↓reduceIte, nE, reduceCtorEq]
 refine pc (Zi hP _ (hX _) i h0 h1) ?_
 rcases Jd s i with ⟨t, hf, ht0, ho, he⟩ | ⟨ho, he⟩
 ·obtain ⟨tm, ti, tok⟩ := G0 h.ok hf
  have hr : ∀ l, (X W W.nx l).get ra = some (.map (esFrom 0 s) s.length) := fun l => by rw [Aj h.la]; exact h.ha
  obtain ⟨e, he2⟩ := Va hf 0
  simp (disch:=omega) only [ho, BX, ↓reduceIte, nE, reduceCtorEq, BM, BD, nA, nL, nT, Ce, Cb, Tx.V, beq_self_eq_true, h.hp, Nn (hr _) (G1 h.ok.ok h0 h1 0), he2]
  have hx : ({ t with st := st } : Tx).ok := ⟨tok.id0, tok.id1, tok.cl0, tok.cl1, tok.ms, tok.msl, tok.lsl, tok.ls, hst⟩
  have hu : updK (V.int IntKind.u16 i) (V.agg [V.int IntKind.u16 t.id, V.int IntKind.u8 t.client, msV t.ms, lsV t.ls, V.int IntKind.u8 st]) (esFrom 0 s) = esFrom 0 (upd s { t with st := st }) := by
   rw [← es_upd, ← ti]; rfl
  have hW := h.upd (x := { t with st := st }) tm rfl rfl hx
  refine ⟨_, rfl, _, W.put ra (.map (esFrom 0 (upd s { t with st := st })) s.length), ?_, lr _, by rw [he], by rw [he]; exact hW, Fr.put⟩
  rw [hu]
  exact I4 rfl (Eb hok h.la (S7 _ _ _)) rfl
 ·simp (disch:=omega) only [ho, BX, ↓reduceIte, nE, BM, BD, nA, nL, nT, Ce, Cb, Tx.V, Tx.zero, show ((7 : Int) == 0) = false by decide]
  exact ⟨_, rfl, _, W, Ap hok rfl, lr _, by rw [he], by rw [he]; exact h, Fr.refl _ _ _ _⟩
theorem abort_c (hP : PE E) (W : AW) {p ra rw : Nat} {s : Str} (h : St W p ra rw s) (i : Int) (h0 : 0 ≤ i) (h1 : i < 65536) :
  ACalls E 36 [.ptr p 0, .int .u16 i] W fun Y W' => Y = .int .i64 (endR s i 2).2 ∧ St W' p ra rw (endR s i 2).1 ∧ Fr W W' p ra rw := by
 refine ACalls.of hP Tryz.func36 ok9e (by simp) fun _ hok => ?_
 simp only [c9, BZ, ↓reduceIte, nE, reduceCtorEq]
 refine (end_c hP _ h i 2 h0 h1 (by decide)).mono ?_
 rintro Y W' ⟨rfl, h1, h2⟩
 simp only [BS, BC, ↓reduceIte]
 exact ⟨_, rfl, _, _, .weak Ab, by rw [h2.nx]; exact lr _, rfl, h1, h2⟩
theorem info_c (hP : PE E) (W : AW) {p ra rw : Nat} {s : Str} (h : St W p ra rw s) (i : Int) (h0 : 0 ≤ i) (h1 : i < 65536) :
  ACalls E 37 [.ptr p 0, .int .u16 i] W fun Y W' => Y = .int .i64 (endR s i 3).2 ∧ St W' p ra rw (endR s i 3).1 ∧ Fr W W' p ra rw := by
 refine ACalls.of hP Tryz.func37 ok10e (by simp) fun _ hok => ?_
 simp only [c10, BZ, ↓reduceIte, nE, reduceCtorEq]
 refine (end_c hP _ h i 3 h0 h1 (by decide)).mono ?_
 rintro Y W' ⟨rfl, h1, h2⟩
 simp only [BS, BC, ↓reduceIte]
 exact ⟨_, rfl, _, _, .weak Ab, by rw [h2.nx]; exact lr _, rfl, h1, h2⟩
theorem St.ex {W W1 : AW} {p ra rw : Nat} {s : Str} (h : St W p ra rw s) (x : Ex W W1) : St W1 p ra rw s := by
 obtain ⟨ws, cw, a, b⟩ := h.hw
 have := x.nx
 have := h.lp
 have := h.la
 have := h.lw
 exact ⟨by rw [x.get _ h.lp]; exact h.hp, by rw [x.get _ h.la]; exact h.ha, ⟨ws, cw, by rw [x.get _ h.lw]; exact a, b⟩, h.ne, by omega, by omega, by omega, h.ok⟩
def reads (l : List Mi) : Nat := (l.filter (·.read)).length
def commitR (s : Str) (i : Int) (ls : List (Option (List Int))) : Str × Int := match find s i with
 | some t => if t.st = 0 then (if okC ls = true then (if reads t.ms = ls.length then (upd s { t with st := 1, ls := ls }, 0) else (s, 10)) else (s, 4)) else (s, 7)
 | none => (s, 7)
theorem Kh {l : List Mi} {k : Nat} (h : k < l.length) : reads (l.take (k + 1)) = reads (l.take k) + (if l[k].read = true then 1 else 0) := by
 rw [tao, gEg h]
 simp only [reads, Option.toList_some, List.filter_append, lap]
 cases hr : l[k].read <;> simp [hr]
theorem Pp (l : List Mi) : reads l ≤ l.length := List.length_filter_le _ _
theorem lists_r (hP : PE E) (W : AW) {r : V} {ls : List (Option (List Int))} (h : isLs r ls) (_ : r.bel 0 = true) (hl : ls.length < 2 ^ 40) (hs : ∀ x ∈ ls, (nums x).length < 2 ^ 40) : ACalls E 53 [r] W fun Y W' => Y = lsV ls ∧ W' = W := by
 obtain ⟨xs, i1, i2, i3⟩ := h
 have hL : ∀ x ∈ xs, isL x := by
  intro x hx
  obtain ⟨k, hk, rfl⟩ := List.mem_iff_getElem.1 hx
  rcases i3 k hk (by omega) with ⟨e, _⟩ | ⟨e, _⟩ | ⟨f, l, e1, e2⟩
  ·exact .inl e
  ·exact .inr (.inl e)
  ·refine .inr (.inr ⟨f, intsV l, e2, Dc l 0, ?_⟩)
   rw [Ak]
   have := hs _ (gmm (l := ls) (by omega : k < ls.length))
   rw [e1] at this; simpa [nums] using this
 have hv : listsV xs = lsV ls := by
  unfold listsV lsV
  by_cases h0 : ls = []
  ·have : xs = [] := List.length_eq_zero_iff.1 (by rw [i2, h0]; rfl)
   simp [h0, this]
  ·have : xs ≠ [] := by rintro rfl; exact h0 (List.length_eq_zero_iff.1 (by rw [← i2]; rfl))
   simp only [h0, this, if_false]
   congr 1
   refine List.ext_getElem (by simp [i2]) fun k h1 h2 => ?_
   rw [List.getElem_map, List.getElem_map]
   rcases i3 k (by simpa using h1) (by simpa using h2) with ⟨e, e'⟩ | ⟨e, e'⟩ | ⟨f, l, e1, e2⟩
   ·rw [e, e']; rfl
   ·rw [e, e']; rfl
   ·rw [e1, e2]; cases l <;> rfl
 rw [← hv]
 exact Uq hP W r xs i1 hL (by omega)
theorem commit_c (hP : PE E) (W : AW) {p ra rw : Nat} {s : Str} (h : St W p ra rw s) (i : Int) (h0 : 0 ≤ i) (h1 : i < 65536) {r : V} {ls : List (Option (List Int))} (hr : isLs r ls) (hb : r.bel 0 = true) (hl : ls.length < 2 ^ 40) (hs : ∀ x ∈ ls, (nums x).length < 2 ^ 40 ∧ ∀ n ∈ nums x, 0 ≤ n ∧ n < 65536) :
  ACalls E 30 [.ptr p 0, .int .u16 i, r] W fun Y W' => Y = .int .i64 (commitR s i ls).2 ∧ St W' p ra rw (commitR s i ls).1 ∧ Fr W W' p ra rw := by
 refine ACalls.of hP Tryz.func30 ok8e (by simp) fun _ hok => ?_
 refine Af hok ?_
 have hla := h.la
 have hlp := h.lp
 obtain ⟨xs, i1, i2, i3⟩ := id hr
 simp only [c8, BZ, ↓reduceIte, nE, reduceCtorEq]
 refine pc (Zi hP _ (h.ex .x0) i h0 h1) ?_
 rcases Jd s i with ⟨t, hf, ht0, ho, he⟩ | ⟨ho, he⟩
 ·obtain ⟨tm, ti, tok⟩ := G0 h.ok hf
  simp only [ho, BX, ↓reduceIte, nE, BM, BD, nA, nL, nT, Ce, Cb, Tx.V, show ((0 : Int) != 0) = false by decide, i1.cells]
  refine pc (checkC_c hP _ i hr hl (fun x hx => (hs x hx).1) hb) ?_
  by_cases hc : okC ls = true
  ·simp only [if_pos hc, BX, ↓reduceIte, nE, show ((0 : Int) != 0) = false by decide, i1.frz]
   refine pc (lists_r hP _ hr hb hl (fun x hx => (hs x hx).1)) ?_
   simp only [BZ, ↓reduceIte, nE, BM, BD, nA, nL, nT, L9, Cb, (De t.ms).len, lmp]
   rw [Ai]
   obtain ⟨W0, hW0⟩ : ∃ W0, W0 = X W W.nx [AObj.row [V.int IntKind.u16 t.id, V.int IntKind.u8 t.client, msV t.ms, lsV ls, V.int IntKind.u8 1]] := ⟨_, rfl⟩
   rw [← hW0]
   have hC0 : Cl W0 := by rw [hW0]; exact Cl.X
   have hn0 : W0.nx = W.nx + 1 := by rw [hW0]; rfl
   have hg0 : W0.get (rf W.nx 0) = some (AObj.row [V.int IntKind.u16 t.id, V.int IntKind.u8 t.client, msV t.ms, lsV ls, V.int IntKind.u8 1]) := by rw [hW0, Ao]; rfl
   have hE0 : Ex W W0 := by rw [hW0]; exact .x0
   have hrf : rf W.nx 0 < W0.nx := by rw [hn0]; simp [rf]
   have hml := tok.msl
   refine alp (fun (k : Nat) A1 W1 => A1 0 = some (.ptr p 0) ∧ A1 1 = some (.int .u16 i) ∧ A1 2 = some r ∧ A1 7 = some (.ptr (rf W.nx 0) 0) ∧ A1 9 = some (.int .i64 (reads (t.ms.take k))) ∧ A1 31 = some (msV t.ms) ∧ A1 32 = some (.int .i64 t.ms.length) ∧ A1 33 = some (.int .i64 k) ∧ k ≤ t.ms.length ∧ Ex W0 W1) (fun k => t.ms.length - k) 0
    ⟨rfl, rfl, rfl, rfl, rfl, rfl, rfl, rfl, Nat.zero_le _, Ex.refl hC0⟩ ?_
   rintro k A1 W1 ⟨g0, g1, g2, g7, g9, g31, g32, g33, gk, gE⟩ _
   by_cases hk1 : k < t.ms.length
   ·have hrt := Kh hk1
    have hrl := Pp (t.ms.take k)
    have hrl' : (t.ms.take k).length ≤ k := by simp; omega
    have hnx := gE.nx
    refine Au gE.cl ?_
    cases hm : (t.ms[k]).read with
    | true =>
     simp (disch:=omega) only [BX, ↓reduceIte, nE, reduceCtorEq, BM, BD, nA, nL, nT, g0, g1, g2, g7, g9, g31, g32, g33, clt, hk1, dT, (De t.ms).idx (C5 hk1), Mi.V, hm, Ah]
     exact ⟨k + 1, ⟨tt, tt, tt, tt, by rw [hrt, hm]; rfl, tt, tt, tt, tt, gE.X⟩, by omega, by simp only [rf]; omega⟩
    | false =>
     simp (disch:=omega) only [BX, ↓reduceIte, nE, reduceCtorEq, BM, BD, nA, nL, nT, g0, g1, g2, g7, g9, g31, g32, g33, clt, hk1, dT, (De t.ms).idx (C5 hk1), Mi.V, hm, Ah]
     exact ⟨k + 1, ⟨tt, tt, tt, tt, by rw [hrt, hm]; rfl, tt, tt, tt, tt, gE.X⟩, by omega, by simp only [rf]; omega⟩
   ·obtain rfl : k = t.ms.length := by omega
    rw [tkl] at g9
    by_cases hq : reads t.ms = ls.length
    ·obtain ⟨e, he2⟩ := Va hf 0
     have hE1 := hE0.trans gE
     have hlen0 : ((reads t.ms : Int) != (ls.length : Int)) = false := by simp [hq]
     have hx : ({ t with st := 1, ls := ls } : Tx).ok := by
      refine ⟨tok.id0, tok.id1, tok.cl0, tok.cl1, tok.ms, tok.msl, ?_, ?_, by show (0 : Int) ≤ 1 ∧ (1 : Int) < 4; decide⟩
      ·simp only [okC, Bool.and_eq_true, decide_eq_true_eq] at hc; exact hc.1
      ·intro o ho'
       refine ⟨?_, (hs o ho').2⟩
       simp only [okC, Bool.and_eq_true, Bool.not_eq_true', List.any_eq_false] at hc
       have := hc.2 o ho'
       simp only [longL, decide_eq_true_eq] at this
       omega
     have hu : updK (V.int IntKind.u16 i) (V.agg [V.int IntKind.u16 t.id, V.int IntKind.u8 t.client, msV t.ms, lsV ls, V.int IntKind.u8 1]) (esFrom 0 s) = esFrom 0 (upd s { t with st := 1, ls := ls }) := by
      rw [← es_upd, ← ti]; rfl
     have eR : commitR s i ls = (upd s { t with st := 1, ls := ls }, 0) := by simp [commitR, hf, ht0, hc, hq]
     have hr1 : W1.get ra = some (.map (esFrom 0 s) s.length) := by rw [hE1.get _ h.la]; exact h.ha
     have hp1 := (hE1.get _ h.lp).trans h.hp
     have h71 := (gE.get _ hrf).trans hg0
     simp (disch:=omega) only [BX, ↓reduceIte, nE, reduceCtorEq, BM, BD, nA, nL, g0, g1, g2, g7, g9, g32, g33, clt, hk1, dF, i1.len, i2, hlen0, hp1, h71, Nn hr1 (G1 h.ok.ok h0 h1 0), he2, hu]
     have hW := h.upd (x := { t with st := 1, ls := ls }) tm rfl rfl hx
     refine ⟨_, rfl, _, W.put ra (.map (esFrom 0 (upd s { t with st := 1, ls := ls })) s.length), ?_, lr _, by rw [eR], by rw [eR]; exact hW, Fr.put⟩
     refine .weak (An (Eb hok h.la (S7 _ _ _)) rfl fun x hx => ?_)
     by_cases e : x = ra
     ·subst e; rw [put_at, put_at]
     ·rw [put_ne e, put_ne e]; exact hE1.get x hx
    ·have hlen0 : ((reads t.ms : Int) != (ls.length : Int)) = true := by simp; omega
     have e : commitR s i ls = (s, 10) := by simp [commitR, hf, ht0, hc, hq]
     simp (disch:=omega) only [BX, ↓reduceIte, nE, g2, g9, g32, g33, clt, hk1, dF, i1.len, i2, hlen0]
     exact ⟨_, rfl, _, W, (hE0.trans gE).back hok rfl, lr _, by rw [e], by rw [e]; exact h, Fr.refl _ _ _ _⟩
  ·simp only [if_neg hc, BX, ↓reduceIte, show ((4 : Int) != 0) = true by decide]
   have e : commitR s i ls = (s, 4) := by simp [commitR, hf, ht0, hc]
   exact ⟨_, rfl, _, W, Ap hok rfl, lr _, by rw [e], by rw [e]; exact h, Fr.refl _ _ _ _⟩
 ·have e : commitR s i ls = (s, 7) := by
   have := he 0
   unfold commitR; unfold endR at this
   cases hf : find s i with
   | none => rfl
   | some t =>
    rw [hf] at this
    by_cases h0 : t.st = 0
    ·simp [h0] at this
    ·simp [h0]
  simp (disch:=omega) only [ho, BX, ↓reduceIte, nE, BM, BD, nA, nL, nT, Ce, Cb, Tx.V, Tx.zero, show ((7 : Int) != 0) = true by decide]
  exact ⟨_, rfl, _, W, Ap hok rfl, lr _, by rw [e], by rw [e]; exact h, Fr.refl _ _ _ _⟩
def c31 : AC := (.r [.m 6 1,.u 7 .rangem 6] (.block 0 (.loop (.r [.u 8 .nextm 7,.u 9 (.ext 0) 8] (.seq (.w 9 0) (.block 1 (.r [.u 10 .entry 7,.u 11 (.ext 0) 10,.u 12 (.ext 1) 10,.p 4 (.alloc [.int .u8 0,.int .u16 0]) [],⟨none,.store 2, [.t 4,.t 11], none⟩,.m 5 12] (.reg [.m 13 0,.u 14 (.load true 2) 4,.m 15 5,⟨none,.mupd (true, [.i .u8,.i .u16]), [.t 13,.t 14,.t 15], none⟩]))))))))
theorem ok31e : compF Tryz.prog Tryz.f64 ⟨false, false, []⟩ = some (c31, [], 16) := by kernel_rfl
def c11_0 : AC := (.r [.b 40 (.bin .lss) 39 38] (.seq (.w 40 1) (.seq (.block 2 (.r [.b 41 (.idxp 3) 37 39,.u 42 (.load true 3) 41,.p 11 (.alloc [.bool false,.int .u8 0,.int .u16 0]) [],⟨none,.store 3, [.t 11,.t 42], none⟩] (.r [.u 43 (.fld 1) 11,.u 44 (.load false 1) 43,.u 45 (.fld 2) 11,.u 46 (.load false 1) 45,.b 47 (.build [.int .u8 0,.int .u16 0] [(0, 1), (1, 1)]) 44 46,.p 12 (.alloc [.int .u8 0,.int .u16 0]) [],⟨none,.store 2, [.t 12,.t 47], none⟩] (.seq (.r [.u 48 (.fld 0) 11,.u 49 (.load false 1) 48] (.cond (.t 49) (.exit 2) .skip)) (.r [.m 51 9,.u 52 (.load true 2) 12,.b 53 (.lookup (true, [.i .u8,.i .u16]) (.int .u16 0) true) 51 52,.m 50 53,.u 54 (.ext 0) 50,.u 55 (.ext 1) 50,.m 13 54,.m 14 55] (.seq (.seq (.par (.step 0 (.m 57 0) (.step 1 (.u 58 .nilck 57) (.step 2 (.u 59 (.fld 1) 58) (.step 3 (.u 60 (.load false 1) 59) (.step 4 (.u 61 (.load true 2) 12) (.step 5 (.b 62 (.lookup (true, [.i .u8,.i .u16]) (.int .u16 0) true) 60 61) (.step 6 (.m 56 62) (.step 7 (.u 63 (.ext 0) 56) (.step 8 (.u 64 (.ext 1) 56) (.step 9 (.m 15 63) (.step 10 (.m 16 64) .done)))))))))))) (.r [.m 65 16,.m 66 65,.M 67 14 66 false,.p 68 .pick [.t 66,.T,.t 67]] (.cond (.t 68) (.r [.v 8 (.int .i64 8)] .ret) .skip))) (.reg [.m 69 9,.u 70 (.load true 2) 12,.m 71 2,⟨none,.mupd (true, [.i .u8,.i .u16]), [.t 69,.t 70,.t 71], none⟩]))))))) (.reg [.a 72 (.bin .add) 39 1,.m 39 72]))))
def c11 : AC := (.r [.v 8 (.int .i64 0)] (.seq (.block 0 (.r [.m 18 0,.u 19 (.call 49) 18,.u 20 (.un .not) 19,.m 17 20] (.cond (.t 17) (.r [.v 8 (.int .i64 1)] .ret) (.r [.m 22 1,.m 23 2,.m 24 3,.p 25 (.build [.int .u8 0,.int .u8 0,.int .u16 0,.int .u8 0,.int .u8 0,.int .u8 0,.int .u16 0,.int .u16 0,.int .u8 0,.int .u16 0,.nilsl,.nilsl,.int .u8 0,.int .i64 0,.int .i64 0,.int .i64 0,.bool false,.bool false,.bool false] [(0, 1), (1, 1), (2, 1), (10, 1)]) [.c (.int .u8 5),.t 22,.t 23,.t 24],.u 26 (.call 52) 25,.a 27 (.bin .neq) 26 0,.m 21 27] (.cond (.t 21) (.r [.v 8 (.int .i64 4)] .ret) (.r [.m 29 2,.u 30 (.conv .i64) 29,.m 31 0,.u 32 .nilck 31,.u 33 (.fld 2) 32,.u 34 (.load false 1) 33,.b 35 (.bin .leq) 30 34,.m 28 35] (.cond (.t 28) (.r [.v 8 (.int .i64 8)] .ret) .skip))))))) (.r [.p 36 .mkmap [],.m 9 36] (.seq (.r [.m 37 3,.u 38 (.len 1 0) 37,.v 39 (.int .i64 0)] (.block 1 (.loop c11_0))) (.r [.m 73 0,.u 74 .nilck 73,.u 75 (.fld 1) 74,.u 76 (.load false 1) 75,.m 77 9,.b 78 (.call 64) 76 77] (.seq (.par (.step 0 (.m 79 0) (.step 1 (.u 80 .nilck 79) (.step 2 (.u 81 (.fld 0) 80) (.step 4 (.m 83 2) (.step 5 (.m 84 2) (.step 6 (.m 85 1) (.step 7 (.m 86 3) (.step 3 (.u 82 (.load false 1) 81) (.step 8 (.u 87 (.pcall 65) 86) (.step 9 (.p 88 (.build [.int .u16 0,.int .u8 0,.nilsl,.nilsl,.int .u8 0] [(0, 1), (1, 1), (2, 1)]) [.t 84,.t 85,.t 87]) (.step 10 ⟨none,.mupd (false, [.i .u16]), [.t 82,.t 83,.t 88], none⟩ .done)))))))))))) (.r [.m 89 0,.m 90 2,.u 91 (.conv .i64) 90,.u 92 .nilck 89,.u 93 (.fld 2) 92,⟨none,.store 1, [.t 93,.t 91], none⟩] (.r [.v 8 (.int .i64 0)] .ret))))))))
theorem ok11e : compF Tryz.prog Tryz.f39 ⟨false, false, []⟩ = some (c11, [.tmp 8], 94) := by kernel_rfl
theorem Ma {ws : List En} (h : KeysK ws) (m : Nat) : (ws.all fun e => e.1.bel m && e.2.1.bel m) = true := by
 rw [List.all_eq_true]
 intro e he
 obtain ⟨k, v, n, e1, e2, _⟩ := h e he
 rw [e1, e2]; rfl
def mset (key x : V) (es : List En) (c : Nat) : List En × Nat := match findK key es with
 | some _ => (updK key x es, c)
 | none => (es ++ [(key, x, c)], c + 1)
theorem m_mset {W : AW} {K : V → AW → Prop} {sh : Bool × List SK} {key x : V} {r c : Nat} {es : List En} (h : W.get r = some (.map es c)) (hk : keysOk sh key es) : sem E (.mupd sh) [.map r, key, x] W K = K .undef (W.put r (.map (mset key x es c).1 (mset key x es c).2)) := by
 rw [Nn h hk, mset]
 cases findK key es <;> rfl
theorem Xm {k v n : Int} {es : List En} {c : Nat} (h : KeysK es) (h0 : 0 ≤ k) (h1 : k < 256) (h2 : 0 ≤ v) (h3 : v < 65536) : KeysK (mset (kV k v) (.int .u16 n) es c).1 := by
 have hu : ∀ l : List En, KeysK l → KeysK (updK (kV k v) (.int .u16 n) l) := by
  intro l
  induction l with
  | nil => intro _ e he; simp [updK] at he
  | cons x l ih =>
   intro hl e he
   simp only [updK] at he
   split at he
   ·rcases List.mem_cons.1 he with rfl | he
    ·exact ⟨k, v, n, rfl, rfl, h0, h1, h2, h3⟩
    ·exact hl e (by simp [he])
   ·rcases List.mem_cons.1 he with rfl | he
    ·exact hl _ (by simp)
    ·exact ih (fun e he => hl e (by simp [he])) e he
 unfold mset
 split
 ·exact hu es h
 ·intro e he
  rcases List.mem_append.1 he with he | he
  ·exact h e he
  ·rw [List.mem_singleton.1 he]; exact ⟨k, v, n, rfl, rfl, h0, h1, h2, h3⟩
theorem Xu {key : V} {a b : List En} : findK key (a ++ b) = (findK key a).or (findK key b) := by
 induction a with
 | nil => rfl
 | cons x a ih =>
  simp only [List.cons_append, findK]
  split
  ·rfl
  ·exact ih
theorem mset_val {k v : Int} {x : V} {es : List En} {c : Nat} (h : KeysK es) (k' v' : Int) : (findK (kV k' v') (mset (kV k v) x es c).1).map (·.2.1) = if k' = k ∧ v' = v then some x else (findK (kV k' v') es).map (·.2.1) := by
 have hu : ∀ l : List En, KeysK l → (findK (kV k v) l).isSome → (findK (kV k' v') (updK (kV k v) x l)).map (·.2.1) = if k' = k ∧ v' = v then some x else (findK (kV k' v') l).map (·.2.1) := by
  intro l
  induction l with
  | nil => intro _ h; cases h
  | cons y l ih =>
   intro hl hs
   obtain ⟨a, b, n, e1, e2, _⟩ := hl y (by simp)
   simp only [updK, findK, e1, Hi] at hs ⊢
   by_cases hy : k = a ∧ v = b
   ·obtain ⟨rfl, rfl⟩ := hy
    simp only [dT, Bool.and_self, if_true, findK, Hi]
    by_cases hk : k' = k ∧ v' = v
    ·simp [hk]
    ·have : (decide (k' = k) && decide (v' = v)) = false := by simp; intro e; exact fun e' => hk ⟨e, e'⟩
     simp only [this, hk, Bool.false_eq_true, if_false]
   ·have hy' : (decide (k = a) && decide (v = b)) = false := by simp; intro e; exact fun e' => hy ⟨e, e'⟩
    simp only [hy', Bool.false_eq_true, if_false, findK, e1, Hi] at hs ⊢
    by_cases hk : k' = a ∧ v' = b
    ·obtain ⟨rfl, rfl⟩ := hk
     have : ¬ (k' = k ∧ v' = v) := fun e => hy ⟨e.1.symm, e.2.symm⟩
     simp [this]
    ·have : (decide (k' = a) && decide (v' = b)) = false := by simp; intro e; exact fun e' => hk ⟨e, e'⟩
     simp only [this, Bool.false_eq_true, if_false]
     exact ih (fun e he => hl e (by simp [he])) hs
 unfold mset
 cases hf : findK (kV k v) es with
 | some e => exact hu es h (by rw [hf]; rfl)
 | none =>
  simp only [Xu, findK, Hi]
  by_cases hk : k' = k ∧ v' = v
  ·obtain ⟨rfl, rfl⟩ := hk
   simp [hf]
  ·have : (decide (k' = k) && decide (v' = v)) = false := by simp; intro e; exact fun e' => hk ⟨e, e'⟩
   simp only [this, hk, Bool.false_eq_true, if_false]
   cases findK (kV k' v') es <;> rfl
def inK (l : List En) (k v : Int) : Bool := l.any fun e => (kV k v).keq e.1
theorem copy_c (hP : PE E) (W : AW) {rw mr cw c : Nat} {ws es : List En} {i : Int} (hw : W.get rw = some (.map ws cw)) (hm : W.get mr = some (.map es c)) (hne : rw ≠ mr) (hlw : rw < W.nx) (hlm : mr < W.nx) (hf : Fresh es c) (hwk : KeysK ws) (hek : KeysK es) (hv : ∀ e ∈ es, e.2.1 = .int .u16 i) :
  ACalls E 64 [.map rw, .map mr] W fun _ W' => ∃ ws' cw', W' = W.put rw (.map ws' cw') ∧ KeysK ws' ∧ ∀ k v, (findK (kV k v) ws').map (·.2.1) = if inK es k v = true then some (.int .u16 i) else (findK (kV k v) ws).map (·.2.1) := by
 refine ACalls.of hP Tryz.func64 ok31e (by simp) fun _ hok => ?_
 simp only [c31, BZ, ↓reduceIte, Hc hm, Ai]
 have hn' : mr ≠ W.nx := by omega
 have hn2 : rw ≠ W.nx := by omega
 refine alp (fun (done : List En) A1 W1 => A1 0 = some (.map rw) ∧ A1 7 = some (.ptr W.nx 0) ∧ Cl W1 ∧ W.nx < W1.nx ∧ W1.get W.nx = some (.iter (some mr) c (stamps done) c) ∧ (∀ x, x < W.nx → x ≠ rw → W1.get x = W.get x) ∧ (stamps done).Nodup ∧ (∀ e ∈ done, e ∈ es) ∧
   ∃ ws' cw', W1.get rw = some (.map ws' cw') ∧ KeysK ws' ∧ ∀ k v, (findK (kV k v) ws').map (·.2.1) = if inK done k v = true then some (.int .u16 i) else (findK (kV k v) ws).map (·.2.1)) (fun done => es.length - done.length) []
  ⟨rfl, rfl, ?_, by rw [Ag]; omega, Ca, fun x hx _ => Al hx, List.nodup_nil, by simp, ws, cw, by rw [Al hlw]; exact hw, hwk, fun k v => rfl⟩ ?_
 ·intro r hr
  rw [Ag] at hr
  rw [Cq, if_neg (by omega)]
  exact Je hok r (by omega)
 rintro done A1 W1 ⟨g0, g7, gC, gn, gi, gW, gd, gs, ws', cw', gw, gk, gv⟩ _
 have k2 : W1.get mr = some (.map es c) := by rw [gW _ hlm hne.symm]; exact hm
 simp only [BX, ↓reduceIte, nE, g7, Ik gi k2]
 refine ⟨?_, ?_, ?_⟩
 ·cases es with
  | nil => exact .inr (.inl rfl)
  | cons e es => exact .inr (.inr ⟨e, by simp, hf.lt e (by simp)⟩)
 ·intro hall
  have hp : done.Perm es := by
   refine E4 (Az gd) (Az hf.nodup) fun x => ⟨gs x, fun hx => ?_⟩
   by_cases hm' : x.2.2 ∈ stamps done
   ·obtain ⟨x', h1, h2⟩ := List.mem_map.1 hm'
    rwa [← He hf.nodup (gs x' h1) hx h2]
   ·have := hall x hx hm'
    have := hf.lt x hx
    omega
  refine ⟨_, rfl, _, W.put rw (.map ws' cw'), .weak (An (Eb hok hlw (Ma gk _)) rfl fun x hx => ?_), lr _, ws', cw', rfl, gk, fun k v => ?_⟩
  ·by_cases e : x = rw
   ·subst e; rw [put_at]; exact gw
   ·rw [put_ne e]; exact gW x hx e
  ·rw [gv k v]
   have : inK done k v = inK es k v := by
    rw [Bool.eq_iff_iff]
    simp only [inK, aet, hp.mem_iff]
   rw [this]
 ·intro e he hne'
  obtain ⟨k, v, n, e1, e2, q0, q1, q2, q3⟩ := hek e he
  have en : n = i := by have := hv e he; rw [e2] at this; exact (V.int.inj this).2
  subst en
  obtain ⟨W2, hW2⟩ : ∃ W2, W2 = W1.put W.nx (.iter (some mr) c (stamps done ++ [e.2.2]) c) := ⟨_, rfl⟩
  rw [← hW2]
  have j1 : W2.get W.nx = some (.iter (some mr) c (stamps done ++ [e.2.2]) c) := by rw [hW2, put_at]
  have j2 : W2.get mr = some (.map es c) := by rw [hW2, put_ne hn']; exact k2
  have j3 : (stamps done ++ [e.2.2]).getLast? = some e.2.2 := by simp
  have j4 : W2.get rw = some (.map ws' cw') := by rw [hW2, put_ne hn2]; exact gw
  have jn : W2.nx = W1.nx := by rw [hW2]; rfl
  have jC : Cl W2 := by rw [hW2]; exact gC.put gn
  rw [Il j1 j2 j3 (Fresh.find hf.nodup he)]
  have hr : ∀ l, (X W2 W2.nx l).get rw = some (.map ws' cw') := fun l => by rw [Aj (by omega)]; exact j4
  rw [jC.start]
  simp (disch:=omega) only [BS, BC, ↓reduceIte, nE, reduceCtorEq, BM, BD, nA, nL, nT, g0, e1, e2, kV]
  have hms : ∀ (l : List AObj) K, sem E (.mupd (true, [.i .u8, .i .u16])) [.map rw, .agg [.int .u8 k, .int .u16 v], .int .u16 n] (X W2 W2.nx l) K = K .undef ((X W2 W2.nx l).put rw (.map (mset (kV k v) (.int .u16 n) ws' cw').1 (mset (kV k v) (.int .u16 n) ws' cw').2)) := fun l K => m_mset (hr l) (Hq gk q0 q1 q2 q3)
  simp (disch:=omega) only [hms, BS, ↓reduceIte, nE, reduceCtorEq, BM, BD, g0, g7]
  refine ⟨done ++ [e], ⟨tt, tt, Cl.X, ?_, ?_, ?_, ?_, ?_, (mset (kV k v) (.int .u16 n) ws' cw').1, (mset (kV k v) (.int .u16 n) ws' cw').2, ?_, Xm gk q0 q1 q2 q3, fun k' v' => ?_⟩, ?_, ?_⟩
  ·simp only [rf]; omega
  ·try rw [Aj (by omega)]
   rw [put_ne hn2.symm, j1]; simp [stamps]
  ·intro x hx hxr
   try rw [Aj (by omega)]
   rw [put_ne hxr, hW2, put_ne (by omega)]
   exact gW x hx hxr
  ·simp only [stamps, mpp, mcs, List.map_nil]
   exact List.nodup_append.2 ⟨gd, by simp, fun a ha b hb => by
    rw [List.mem_singleton.1 hb]
    exact fun e' => hne' (e' ▸ ha)⟩
  ·intro x hx
   rcases List.mem_append.1 hx with hx | hx
   ·exact gs x hx
   ·rw [List.mem_singleton.1 hx]; exact he
  ·try rw [Aj (by omega)]
   rw [put_at]
  ·show (findK (kV k' v') _).map _ = if inK _ k' v' = true then _ else (findK (kV k' v') ws).map _
   rw [mset_val gk, gv]
   simp only [inK, List.any_append, List.any_cons, List.any_nil, e1, Hi, Bool.or_false]
   by_cases hk : k' = k ∧ v' = v
   ·obtain ⟨rfl, rfl⟩ := hk; simp
   ·have : (decide (k' = k) && decide (v' = v)) = false := by simp; intro e; exact fun e' => hk ⟨e, e'⟩
    rw [this, Bool.or_false, if_neg hk]
    rfl
  ·have : done.length < es.length := by
    have h1 := C9 (l := done ++ [e]) (m := es) (Az (by
     simp only [stamps, mpp, mcs, List.map_nil]
     exact List.nodup_append.2 ⟨gd, by simp, fun a ha b hb => by
      rw [List.mem_singleton.1 hb]
      exact fun e' => hne' (e' ▸ ha)⟩)) (fun x hx => by
      rcases List.mem_append.1 hx with hx | hx
      ·exact gs x hx
      ·rw [List.mem_singleton.1 hx]; exact he)
    simp at h1; omega
   simp; omega
  ·simp only [rf, Ag]; omega
def addsOf (l : List Mi) : List (Int × Int) := (l.filter (!·.read)).map fun m => (m.key, m.v)
def freshB (s : Str) (l : List Mi) : Bool := decide (addsOf l).Nodup && (addsOf l).all fun a => (who s a.1 a.2).isNone
def beginR (s : Str) (c i : Int) (l : List Mi) : Str × Int :=
 if okB c l = true then (if i ≤ lastId s then (s, 8) else if freshB s l = true then (s ++ [⟨i, c, l, [], 0⟩], 0) else (s, 8)) else (s, 4)
def mineFrom (i : Int) : Nat → List (Int × Int) → List En
 | _, [] => []
 | n, a :: l => (kV a.1 a.2, .int .u16 i, n) :: mineFrom i (n + 1) l
theorem P7 (i : Int) (a : Int × Int) : ∀ (l : List (Int × Int)) n, mineFrom i n (l ++ [a]) = mineFrom i n l ++ [(kV a.1 a.2, .int .u16 i, n + l.length)]
 | [], n => by simp [mineFrom]
 | x :: l, n => by simp only [List.cons_append, mineFrom, P7 i a l, lcs, show n + 1 + l.length = n + (l.length + 1) by omega]
theorem Ui (i : Int) (k v : Int) : ∀ (l : List (Int × Int)) n, inK (mineFrom i n l) k v = decide ((k, v) ∈ l)
 | [], n => by simp [mineFrom, inK]
 | x :: l, n => by
  have ih := Ui i k v l (n + 1)
  simp only [inK] at ih
  simp only [inK, mineFrom, List.any_cons, Hi, ih, List.mem_cons, Prod.ext_iff]
  by_cases h : k = x.1 ∧ v = x.2
  ·simp [h]
  ·have : (decide (k = x.1) && decide (v = x.2)) = false := by simp; intro e; exact fun e' => h ⟨e, e'⟩
   simp [this, h]
theorem Iv (i : Int) (k v : Int) : ∀ (l : List (Int × Int)) n, ((findK (kV k v) (mineFrom i n l)).map (·.2.1)) = if (k, v) ∈ l then some (.int .u16 i) else none
 | [], n => by simp [mineFrom, findK]
 | x :: l, n => by
  have ih := Iv i k v l (n + 1)
  simp only [mineFrom, findK, Hi, List.mem_cons, Prod.ext_iff]
  by_cases h : k = x.1 ∧ v = x.2
  ·simp [h]
  ·have : (decide (k = x.1) && decide (v = x.2)) = false := by simp; intro e; exact fun e' => h ⟨e, e'⟩
   simp only [this, h, Bool.false_eq_true, if_false, ih, false_or]
theorem Iu {i : Int} : ∀ {l : List (Int × Int)}, (∀ a ∈ l, 0 ≤ a.1 ∧ a.1 < 256 ∧ 0 ≤ a.2 ∧ a.2 < 65536) → ∀ n, KeysK (mineFrom i n l)
 | [], _, n => fun _ h => by simp [mineFrom] at h
 | x :: l, hl, n => by
  intro e he
  rcases List.mem_cons.1 he with rfl | he
  ·obtain ⟨a, b, c, d⟩ := hl x (by simp)
   exact ⟨x.1, x.2, i, rfl, rfl, a, b, c, d⟩
  ·exact Iu (fun a ha => hl a (by simp [ha])) _ e he
theorem L6 {i : Int} : ∀ {l : List (Int × Int)} n, ∀ e ∈ mineFrom i n l, e.2.1 = .int .u16 i
 | [], n => fun _ h => by simp [mineFrom] at h
 | x :: l, n => by
  intro e he
  rcases List.mem_cons.1 he with rfl | he
  ·rfl
  ·exact L6 _ e he
theorem Hg {i : Int} : ∀ (l : List (Int × Int)) n, (∀ e ∈ mineFrom i n l, n ≤ e.2.2 ∧ e.2.2 < n + l.length) ∧ (stamps (mineFrom i n l)).Nodup
 | [], n => ⟨fun _ h => by simp [mineFrom] at h, List.nodup_nil⟩
 | x :: l, n => by
  obtain ⟨h1, h2⟩ := Hg (i := i) l (n + 1)
  refine ⟨fun e he => ?_, ?_⟩
  ·rcases List.mem_cons.1 he with rfl | he
   ·simp
   ·have := h1 e he; simp only [lcs]; omega
  ·refine List.nodup_cons.2 ⟨fun h => ?_, h2⟩
   obtain ⟨e, he, h3⟩ := List.mem_map.1 h
   have := h1 e he
   simp only at h3
   omega
theorem Ya {l : List Mi} {k : Nat} (h : k < l.length) : addsOf (l.take (k + 1)) = addsOf (l.take k) ++ (if l[k].read = true then [] else [(l[k].key, l[k].v)]) := by
 rw [tao, gEg h]
 simp only [addsOf, Option.toList_some, List.filter_append, mpp]
 cases hr : l[k].read <;> simp [hr]
theorem E2 {l : List Mi} {k v : Int} : (k, v) ∈ addsOf l ↔ ∃ m ∈ l, m.read = false ∧ m.key = k ∧ m.v = v := by
 simp only [addsOf, mmp, mfl, Prod.mk.injEq, Bool.not_eq_true']
 exact ⟨fun ⟨m, ⟨a, b⟩, c, d⟩ => ⟨m, a, b, c, d⟩, fun ⟨m, a, b, c, d⟩ => ⟨m, ⟨a, b⟩, c, d⟩⟩
theorem Nv {t : Tx} {k v : Int} : S.has t k v = decide ((k, v) ∈ addsOf t.ms) := by
 rw [Bool.eq_iff_iff, decide_eq_true_eq, E2]
 simp only [S.has, aet, Bool.and_eq_true, Bool.not_eq_true', decide_eq_true_eq]
theorem last_app (s : Str) (t : Tx) : lastId (s ++ [t]) = t.id := by simp [lastId]
theorem Us {s : Str} (h : s.Pairwise fun a b => a.id < b.id) {t : Tx} (ht : t ∈ s) : t.id ≤ lastId s := by
 revert t
 induction s with
 | nil => intro t ht; simp at ht
 | cons x s ih =>
  intro t ht
  have hp := List.pairwise_cons.1 h
  cases s with
  | nil => rw [List.mem_singleton.1 ht]; exact Int.le_refl _
  | cons y s =>
   have hl : lastId (x :: y :: s) = lastId (y :: s) := by simp [lastId, List.getLast?_cons_cons]
   rw [hl]
   rcases List.mem_cons.1 ht with rfl | ht
   ·have := hp.1 y (by simp)
    have h2 : y.id ≤ lastId (y :: s) := ih hp.2 (by simp)
    omega
   ·exact ih hp.2 ht
theorem app_ok {s : Str} {t : Tx} (h : SOk s) (ht : t.ok) (hl : lastId s < t.id) : SOk (s ++ [t]) := by
 refine ⟨fun x hx => ?_, List.pairwise_append.2 ⟨h.lt, List.pairwise_singleton _ _, fun a ha b hb => ?_⟩⟩
 ·rcases List.mem_append.1 hx with hx | hx
  ·exact h.ok x hx
  ·rw [List.mem_singleton.1 hx]; exact ht
 ·rw [List.mem_singleton.1 hb]
  have := Us h.lt ha
  omega
theorem Kx {s : Str} (h : s.Pairwise fun a b => a.id < b.id) {i : Int} (hl : lastId s < i) : find s i = none := by
 rw [find, List.find?_eq_none]
 intro t ht
 have := Us h ht
 simp; omega
theorem ws_app {ws ws' : List En} {s : Str} {t : Tx} (h : WsOk ws s) (hk : KeysK ws') (hf : ∀ k v, (k, v) ∈ addsOf t.ms → who s k v = none)
  (hv : ∀ k v, (findK (kV k v) ws').map (·.2.1) = if decide ((k, v) ∈ addsOf t.ms) = true then some (.int .u16 t.id) else (findK (kV k v) ws).map (·.2.1)) : WsOk ws' (s ++ [t]) := by
 refine ⟨hk, fun k v => ?_⟩
 rw [hv, h.val]
 simp only [who, List.find?_append, List.find?_cons, List.find?_nil, Nv]
 by_cases hm : (k, v) ∈ addsOf t.ms
 ·have := hf k v hm
  simp only [who] at this
  simp only [Nv] at this
  simp [hm, this]
 ·simp [hm]
theorem clone_ms {v : V} {l : List Mi} (h : isMs v l) (h1 : 1 ≤ l.length) : cloneV 3 v = msV l := by
 rcases h with ⟨rfl, h⟩ | ⟨rfl, h⟩ | ⟨f, rfl⟩
 ·simp at h; subst h; simp at h1
 ·simp at h; subst h; simp at h1
 ·cases l with
  | nil => simp at h1
  | cons a l => rfl
theorem Sz {i : Int} (h0 : 0 ≤ i) (h1 : i < 65536) : IntKind.i64.wrap i = i := IntWalk.i64_in _ (by omega)
theorem adds_pre (l : List Mi) (k : Nat) : addsOf l = addsOf (l.take k) ++ addsOf (l.drop k) := by
 simp only [addsOf, ← mpp, ← List.filter_append, List.take_append_drop]
theorem Fv {sh : Bool × List SK} {z : V} {ok : Bool} {n : Nat} {i k v : Int} {l : List (Int × Int)} {K : V → Prop} : lookK sh z ok (kV k v) (mineFrom i n l) K = (if (k, v) ∈ l then K (if ok = true then .tuple [.int .u16 i, .bool true] else .int .u16 i) else K (if ok = true then .tuple [z, .bool false] else z)) := by
 simp only [lookK, Iv]
 by_cases h : (k, v) ∈ l <;> simp [h]
theorem Xn {i k v : Int} {l : List (Int × Int)} (h : (k, v) ∉ l) : mset (kV k v) (.int .u16 i) (mineFrom i 0 l) l.length = (mineFrom i 0 (l ++ [(k, v)]), (l ++ [(k, v)]).length) := by
 have h1 := Iv i k v l 0
 rw [if_neg h] at h1
 have h2 : findK (kV k v) (mineFrom i 0 l) = none := by
  cases hf : findK (kV k v) (mineFrom i 0 l) with
  | none => rfl
  | some e => rw [hf] at h1; cases h1
 simp only [mset, h2, P7, lap, lcs, List.length_nil, Nat.zero_add]
theorem Ti (_ : E.P = Tryz.prog) (W : AW) {p ra rw : Nat} {s : Str} (h : St W p ra rw s) (c i : Int) {v : V} {l : List Mi} (hv : isMs v l) (ho : ∀ m ∈ l, m.ok) (hl8 : 1 ≤ l.length ∧ l.length ≤ 8) {A : AFr} {Q : Exit → AFr → AW → Prop}
  (a0 : A 0 = some (.ptr p 0)) (a1 : A 1 = some (.int .u8 c)) (a2 : A 2 = some (.int .u16 i)) (a3 : A 3 = some v) (a9 : A 9 = some (.map (rf W.nx 0))) (a37 : A 37 = some v) (a38 : A 38 = some (.int .i64 l.length)) (a39 : A 39 = some (.int .i64 0))
  (hret : freshB s l = false → ∀ A' W', A' 8 = some (.int .i64 8) → Ex W W' → Q .ret A' W')
  (hex : ∀ A' W', A' 0 = some (.ptr p 0) → A' 1 = some (.int .u8 c) → A' 2 = some (.int .u16 i) → A' 3 = some v → A' 9 = some (.map (rf W.nx 0)) → Ex W W' → rf W.nx 0 < W'.nx →
   W'.get (rf W.nx 0) = some (.map (mineFrom i 0 (addsOf l)) (addsOf l).length) → freshB s l = true → Q (.exit 1) A' W') : ALoop (awp E c11_0) Q A (X W W.nx [.map [] 0]) := by
 have hla := h.la
 have hlp := h.lp
 have hlw := h.lw
 obtain ⟨ws, cw, hw, hws⟩ := h.hw
 have hmr : W.nx ≤ rf W.nx 0 := by simp [rf]
 refine alp (fun (k : Nat) A1 W1 => A1 0 = some (.ptr p 0) ∧ A1 1 = some (.int .u8 c) ∧ A1 2 = some (.int .u16 i) ∧ A1 3 = some v ∧ A1 9 = some (.map (rf W.nx 0)) ∧ A1 37 = some v ∧ A1 38 = some (.int .i64 l.length) ∧ A1 39 = some (.int .i64 k) ∧ k ≤ l.length ∧ Ex W W1 ∧ rf W.nx 0 < W1.nx ∧
  W1.get (rf W.nx 0) = some (.map (mineFrom i 0 (addsOf (l.take k))) (addsOf (l.take k)).length) ∧ (addsOf (l.take k)).Nodup ∧ (∀ a ∈ addsOf (l.take k), who s a.1 a.2 = none)) (fun k => l.length - k) 0
  ⟨a0, a1, a2, a3, a9, a37, a38, a39, Nat.zero_le _, Ex.x0, by simp [rf, X], by rw [Ao]; rfl, by simp [addsOf], by simp [addsOf]⟩ ?_
 rintro k A1 W1 ⟨g0, g1, g2, g3, g9, g37, g38, g39, gk, gE, gr, gm, gd, gf⟩ _
 have hn1 := gE.nx
 have hp1 := (gE.get _ h.lp).trans h.hp
 have hw1 := (gE.get _ h.lw).trans hw
 by_cases hk1 : k < l.length
 ·have hat := Ya hk1
  obtain ⟨q0, q1, q2, q3⟩ := ho l[k] (gmm hk1)
  refine Au gE.cl ?_
  cases hm : (l[k]).read with
  | true =>
   simp (maxSteps:=9^9) (disch:=omega) only [c11_0, BX, ↓reduceIte, nE, reduceCtorEq, BM, BD, nA, nL, nT, g0, g1, g2, g3, g9, g37, g38, g39, clt, hk1, dT, hv.idx (C5 hk1), Mi.V, hm, Ah]
   rw [hm, if_pos rfl, apn] at hat
   exact ⟨k + 1, ⟨tt, tt, tt, tt, tt, tt, tt, tt, tt, gE.X, by simp only [rf] at gr ⊢; omega, by (try rw [Aj gr]); rw [hat]; exact gm, by rw [hat]; exact gd, by rw [hat]; exact gf⟩, by omega, by simp only [rf]; simp only [rf] at gr; omega⟩
  | false =>
   rw [hm, if_neg (by simp)] at hat
   have hmk : KeysK (mineFrom i 0 (addsOf (l.take k))) := Iu (fun a ha => by
    obtain ⟨m, hm, _, e1, e2⟩ := E2.1 ha
    obtain ⟨b0, b1, b2, b3⟩ := ho m (List.mem_of_mem_take hm)
    rw [← e1, ← e2]; exact ⟨b0, b1, b2, b3⟩) 0
   have hlk1 : ∀ (o : List AObj) K, sem E (.lookup (true, [.i .u8, .i .u16]) (.int .u16 0) true) [.map (rf W.nx 0), .agg [.int .u8 l[k].key, .int .u16 l[k].v]] (X W1 W1.nx o) K = lookK (true, [.i .u8, .i .u16]) (.int .u16 0) true (kV l[k].key l[k].v) (mineFrom i 0 (addsOf (l.take k))) (fun v => K v (X W1 W1.nx o)) :=
    fun o K => D7 (by rw [Aj gr]; exact gm) (Hq hmk q0 q1 q2 q3)
   have hlk2 : ∀ (o : List AObj) K, sem E (.lookup (true, [.i .u8, .i .u16]) (.int .u16 0) true) [.map rw, .agg [.int .u8 l[k].key, .int .u16 l[k].v]] (X W1 W1.nx o) K = lookK (true, [.i .u8, .i .u16]) (.int .u16 0) true (kV l[k].key l[k].v) ws (fun v => K v (X W1 W1.nx o)) :=
    fun o K => D7 (by rw [Aj (by omega)]; exact hw1) (Tk hws q0 q1 q2 q3)
   have hpre := adds_pre l (k + 1)
   rw [hat] at hpre
   have hmem : (l[k].key, l[k].v) ∈ addsOf l := by rw [hpre]; simp
   cases hwf : who s l[k].key l[k].v with
   | some t =>
    have e : freshB s l = false := by
     simp only [freshB, Bool.and_eq_false_iff, List.all_eq_false]
     exact .inr ⟨_, hmem, by simp [hwf]⟩
    by_cases hin : (l[k].key, l[k].v) ∈ addsOf (l.take k)
    ·simp (maxSteps:=9^9) (disch:=omega) only [c11_0, BX, Aa, ↓reduceIte, nE, reduceCtorEq, BM, BD, nA, nL, nT, g0, g1, g2, g3, g9, g37, g38, g39, clt, hk1, dT, hv.idx (C5 hk1), Mi.V, hm, Ah, hlk1, hlk2, Fv, if_pos hin, Fe hws, hwf, hp1]
     exact hret e _ _ rfl gE.X
    ·simp (maxSteps:=9^9) (disch:=omega) only [c11_0, BX, Aa, ↓reduceIte, nE, reduceCtorEq, BM, BD, nA, nL, nT, g0, g1, g2, g3, g9, g37, g38, g39, clt, hk1, dT, hv.idx (C5 hk1), Mi.V, hm, Ah, hlk1, hlk2, Fv, if_neg hin, Fe hws, hwf, hp1]
     exact hret e _ _ rfl gE.X
   | none =>
    by_cases hin : (l[k].key, l[k].v) ∈ addsOf (l.take k)
    ·have e : freshB s l = false := by
      have : ¬ (addsOf l).Nodup := by
       rw [hpre]
       intro hn
       have := (List.nodup_append.1 (List.nodup_append.1 hn).1).2.2 _ hin _ (List.mem_singleton.2 rfl)
       exact this rfl
      simp [freshB, this]
     simp (maxSteps:=9^9) (disch:=omega) only [c11_0, BX, Aa, ↓reduceIte, nE, reduceCtorEq, BM, BD, nA, nL, nT, g0, g1, g2, g3, g9, g37, g38, g39, clt, hk1, dT, hv.idx (C5 hk1), Mi.V, hm, Ah, hlk1, hlk2, Fv, if_pos hin, Fe hws, hwf, hp1]
     exact hret e _ _ rfl gE.X
    ·have hms : ∀ (o : List AObj) K, sem E (.mupd (true, [.i .u8, .i .u16])) [.map (rf W.nx 0), .agg [.int .u8 l[k].key, .int .u16 l[k].v], .int .u16 i] (X W1 W1.nx o) K = K .undef (X (W1.put (rf W.nx 0) (.map (mineFrom i 0 (addsOf (l.take (k + 1)))) (addsOf (l.take (k + 1))).length)) W1.nx o) := by
      intro o K
      have hg : (X W1 W1.nx o).get (rf W.nx 0) = some (.map (mineFrom i 0 (addsOf (l.take k))) (addsOf (l.take k)).length) := by rw [Aj gr]; exact gm
      rw [show V.agg [.int .u8 l[k].key, .int .u16 l[k].v] = kV l[k].key l[k].v from rfl, m_mset hg (Hq hmk q0 q1 q2 q3), Xn hin, ← hat, D9 gr]
     simp (maxSteps:=9^9) (disch:=omega) only [c11_0, BX, Aa, ↓reduceIte, nE, reduceCtorEq, BM, BD, nA, nL, nT, g0, g1, g2, g3, g9, g37, g38, g39, clt, hk1, dT, hv.idx (C5 hk1), Mi.V, hm, Ah, hlk1, hlk2, hms, Fv, if_neg hin, Fe hws, hwf, hp1]
     refine ⟨k + 1, ⟨tt, tt, tt, tt, tt, tt, tt, tt, tt, ⟨Cl.X, ?_, fun x hx => ?_⟩, ?_, ?_, ?_, ?_⟩, by omega, ?_⟩
     ·simp only [X]; omega
     ·rw [Aj (by omega), put_ne (by omega)]; exact gE.get x hx
     ·simp only [rf] at gr ⊢; omega
     ·try rw [Aj gr]
      rw [put_at]
     ·rw [hat]
      exact List.nodup_append.2 ⟨gd, by simp, fun a ha b hb => by rw [List.mem_singleton.1 hb]; rintro rfl; exact hin ha⟩
     ·rw [hat]
      intro a ha
      rcases List.mem_append.1 ha with ha | ha
      ·exact gf a ha
      ·rw [List.mem_singleton.1 ha]; exact hwf
     ·simp only [rf]; simp only [rf] at gr; omega
 ·obtain rfl : k = l.length := by omega
  rw [tkl] at gm gd gf
  have e : freshB s l = true := by
   simp only [freshB, gd, dT, Bool.true_and, List.all_eq_true]
   intro a ha; rw [gf a ha]; rfl
  simp (maxSteps:=9^9) (disch:=omega) only [c11_0, BX, ↓reduceIte, BM, BD, g38, g39, clt, hk1, dF]
  exact hex _ _ g0 g1 g2 g3 g9 gE gr gm e
theorem begin_c (hP : PE E) (W : AW) {p ra rw : Nat} {s : Str} (h : St W p ra rw s) (c i : Int) (h0 : 0 ≤ i) (h1 : i < 65536) (c0 : 0 ≤ c) (c1 : c < 256) {v : V} {l : List Mi} (hv : isMs v l) (ho : ∀ m ∈ l, m.ok) (hl : l.length < 2 ^ 40) :
  ACalls E 39 [.ptr p 0, .int .u8 c, .int .u16 i, v] W fun Y W' => Y = .int .i64 (beginR s c i l).2 ∧ St W' p ra rw (beginR s c i l).1 ∧ Fr W W' p ra rw := by
 refine ACalls.of hP Tryz.func39 ok11e (by simp) fun _ hok => ?_
 refine Af hok ?_
 have hla := h.la
 have hlp := h.lp
 have hlw := h.lw
 obtain ⟨ws, cw, hw, hws⟩ := h.hw
 simp only [c11, BZ, ↓reduceIte, reduceCtorEq]
 refine pc (is_c hP _ (r := [.map rw, .int .i64 (lastId s)]) (by rw [Aj h.lp]; exact h.hp)) ?_
 simp only [BX, ↓reduceIte, nE, BM, BD, nA, nL, hv.cells]
 refine pc (checkB_c hP _ c i hv ho hl) ?_
 by_cases hB : okB c l = true
 ·by_cases hL : i ≤ lastId s
  ·have e : beginR s c i l = (s, 8) := by simp [beginR, hB, hL]
   simp (disch:=omega) only [BX, ↓reduceIte, nE, reduceCtorEq, BM, BD, if_pos hB, show ((0 : Int) != 0) = false by decide, Sz h0 h1, h.hp, decide_eq_true hL]
   exact ⟨_, rfl, _, W, Ap hok rfl, lr _, by rw [e], by rw [e]; exact h, Fr.refl _ _ _ _⟩
  ·simp (disch:=omega) only [BX, ↓reduceIte, nE, reduceCtorEq, BM, BD, if_pos hB, show ((0 : Int) != 0) = false by decide, Sz h0 h1, h.hp, decide_eq_false hL, hv.len, lmp]
   rw [Ai]
   have hl8 : 1 ≤ l.length ∧ l.length ≤ 8 := by
    simp only [okB, Bool.and_eq_true, decide_eq_true_eq] at hB; exact hB.1.1
   refine Ti hP W h c i hv ho hl8 rfl rfl rfl rfl rfl rfl rfl rfl ?_ ?_
   ·intro hfr A' W' g8 gE
    have e : beginR s c i l = (s, 8) := by simp [beginR, hB, hL, hfr]
    simp only [BS, BC, g8]
    exact ⟨_, rfl, _, W, gE.back hok rfl, lr _, by rw [e], by rw [e]; exact h, Fr.refl _ _ _ _⟩
   ·intro A' W1 g0 g1 g2 g3 g9 gE gr gm hfr
    have e : beginR s c i l = (s ++ [⟨i, c, l, [], 0⟩], 0) := by simp [beginR, hB, hL, hfr]
    have hn1 := gE.nx
    have hp1 := (gE.get _ h.lp).trans h.hp
    have hw1 := (gE.get _ h.lw).trans hw
    have ha1 := (gE.get _ h.la).trans h.ha
    have hmr : W.nx ≤ rf W.nx 0 := by simp [rf]
    simp (disch:=omega) only [BZ, ↓reduceIte, nE, BM, BD, g0, g9, hp1]
    refine (copy_c hP W1 (i := i) hw1 gm (by omega) (by omega) gr ⟨(Hg _ 0).2, fun x hx => by simpa using ((Hg _ 0).1 x hx).2⟩ hws.key (Iu (fun a ha => by
     obtain ⟨m, hm, _, e1, e2⟩ := E2.1 ha
     obtain ⟨b0, b1, b2, b3⟩ := ho m hm
     rw [← e1, ← e2]; exact ⟨b0, b1, b2, b3⟩) 0) (L6 0)).mono ?_
    rintro Y W2 ⟨ws', cw', rfl, hk', hv'⟩
    have hp2 : (W1.put rw (.map ws' cw')).get p = some (.row [.map ra, .map rw, .int .i64 (lastId s)]) := by rw [put_ne h.prw]; exact hp1
    have ha2 : (W1.put rw (.map ws' cw')).get ra = some (.map (esFrom 0 s) s.length) := by rw [put_ne h.ne]; exact ha1
    simp (disch:=omega) only [BZ, ↓reduceIte, nE, reduceCtorEq, BM, BD, Nm, nA, nL, g0, g1, g2, g3, hp2, hv.frz]
    refine ⟨_, Ms hP _ _ _ hv (J1 _ _) (by simpa using hl), ?_⟩
    rw [clone_ms hv hl8.1]
    have hfn : findK (.int .u16 i) (esFrom 0 s) = none := es_none (Kx h.ok.lt (by omega)) 0
    have hes : esFrom 0 s ++ [(V.int .u16 i, V.agg [.int .u16 i, .int .u8 c, msV l, .nilsl, .int .u8 0], s.length)] = esFrom 0 (s ++ [⟨i, c, l, [], 0⟩]) := by
     rw [es_app, Nat.zero_add]; rfl
    have hp3 : ∀ o, ((W1.put rw (.map ws' cw')).put ra o).get p = some (.row [.map ra, .map rw, .int .i64 (lastId s)]) := fun o => by rw [put_ne h.pra]; exact hp2
    simp (disch:=omega) only [BZ, ↓reduceIte, nE, reduceCtorEq, BM, BD, nA, nL, L5, g0, g2, Nn ha2 (G1 h.ok.ok h0 h1 0), hfn, hes, hp3, Sz h0 h1]
    have tok : (⟨i, c, l, [], 0⟩ : Tx).ok := ⟨h0, h1, c0, c1, ho, hl8.2, by simp, by simp, by show (0 : Int) ≤ 0 ∧ (0 : Int) < 4; decide⟩
    have hfa : ∀ k v, (k, v) ∈ addsOf l → who s k v = none := by
     intro k v ha
     simp only [freshB, Bool.and_eq_true, List.all_eq_true] at hfr
     have := hfr.2 _ ha
     simpa using this
    have hW' : ∃ W', W' = ((W.put rw (.map ws' cw')).put ra (.map (esFrom 0 (s ++ [⟨i, c, l, [], 0⟩])) (s.length + 1))).put p (.row [.map ra, .map rw, .int .i64 i]) := ⟨_, rfl⟩
    obtain ⟨W', hW'⟩ := hW'
    refine ⟨_, rfl, _, W', .weak (An ?_ rfl fun x hx => ?_), by rw [hW']; exact lr _, by rw [e], ?_, ?_⟩
    ·rw [hW']
     exact Eb (Eb (Eb hok h.lw (Ma hk' _)) h.la (S7 _ _ _)) h.lp (by simp [AObj.bel, V.belL, V.bel]; exact ⟨h.la, h.lw⟩)
    ·rw [hW']
     have hx' : x < W.nx := by rw [hW'] at hx; exact hx
     simp only [Gv, gE.get x hx']
    ·rw [e, hW']
     refine ⟨?_, ?_, ⟨ws', cw', ?_, ws_app hws hk' hfa fun k v => ?_⟩, h.ne, h.lp, h.la, h.lw, app_ok h.ok tok (by show lastId s < i; omega)⟩
     ·rw [put_at, last_app]
     ·rw [put_ne h.pra.symm, put_at]; simp
     ·rw [put_ne h.prw.symm, put_ne h.ne.symm, put_at]
     ·rw [hv' k v, Ui]
    ·rw [hW']
     exact ⟨rfl, fun x h1 h2 h3 => by rw [put_ne h1, put_ne h2, put_ne h3]⟩
 ·have e : beginR s c i l = (s, 4) := by simp [beginR, hB]
  simp only [BX, ↓reduceIte, if_neg hB, show ((4 : Int) != 0) = true by decide]
  exact ⟨_, rfl, _, W, Ap hok rfl, lr _, by rw [e], by rw [e]; exact h, Fr.refl _ _ _ _⟩
open Go Go.AL Go.Proofs Go.Sort
def c35 : AC := (.r [.u 1 .box 0,.v 2 (.nilfn)] (.r [.u 3 (.mkfn (.func 100) 0) 1,.m 2 3] .ret))
theorem ok35e : compF Tryz.prog Tryz.f71 ⟨false, false, []⟩ = some (c35, [.tmp 2], 4) := by kernel_rfl
def c12 : AC := (.r [.u 1 .box 0,.v 2 (.nilfn)] (.r [.u 3 (.mkfn (.func 69) 0) 1,.m 2 3] .ret))
theorem ok12e : compF Tryz.prog Tryz.f41 ⟨false, false, []⟩ = some (c12, [.tmp 2], 4) := by kernel_rfl
def c33_0 : AC := (.r [.b 16 (.bin .lss) 15 14] (.seq (.w 16 0) (.seq (.block 1 (.r [.b 17 (.idxp 1) 13 15,.u 18 (.load false 1) 17,.m 4 18] (.r [.m 19 0,.u 20 (.load false 1) 1,.u 21 .nilck 20,.u 22 (.fld 0) 21,.u 23 (.load false 1) 22,.m 24 4,.b 25 (.lookup (false, [.i .u16]) (.agg [.int .u16 0,.int .u8 0,.nilsl,.nilsl,.int .u8 0]) false) 23 24,.u 26 (.call 50) 25,.b 27 .callv 19 26,.u 28 (.un .not) 27] (.cond (.t 28) .ret .skip)))) (.reg [.a 29 (.bin .add) 15 1,.m 15 29]))))
def c33 : AC := (.seq (.r [.u 5 (.load false 1) 1,.u 6 (.call 49) 5,.u 7 (.un .not) 6] (.cond (.t 7) .ret .skip)) (.r [.u 8 (.load false 1) 1,.u 9 .nilck 8,.u 10 (.fld 0) 9,.u 11 (.load false 1) 10,.u 12 (.call 71) 11,.u 13 (.call 70) 12,.u 14 (.len 1 0) 13,.v 15 (.int .i64 0)] (.block 0 (.loop c33_0))))
theorem ok33e : compF Tryz.prog Tryz.f69 ⟨false, false, []⟩ = some (c33, [], 30) := by kernel_rfl
theorem sort_id {l : List Int} (h : l.Pairwise fun a b => a < b) : (sort ltInt l.toArray).toList = l := by
 rw [sortInt]
 have a1 := List.pairwise_mergeSort (le := fun x y : Int => decide (x ≤ y)) (by simp; omega) (by simp; omega) l
 refine (List.mergeSort_perm l _).eq_of_pairwise ?_ a1 (h.imp (fun h => by simp; omega))
 intro x y _ _ h1 h2
 simp at h1 h2; omega
def keyOf (e : En) : Int := match e.1 with
 | .int _ n => n
 | _ => 0
theorem es_key (s : Str) : ∀ n, (esFrom n s).map keyOf = s.map Tx.id := by
 induction s with
 | nil => intro n; rfl
 | cons t s ih => intro n; simp only [esFrom, mcs, ih]; rfl
theorem es_int (s : Str) : ∀ n, ∀ e ∈ esFrom n s, e.1 = .int .u16 (keyOf e) := by
 induction s with
 | nil => intro n e he; simp [esFrom] at he
 | cons t s ih =>
  intro n e he
  rcases List.mem_cons.1 he with rfl | he
  ·rfl
  ·exact ih _ e he
theorem es_fresh (s : Str) : ∀ n, (∀ e ∈ esFrom n s, n ≤ e.2.2 ∧ e.2.2 < n + s.length) ∧ (stamps (esFrom n s)).Nodup := by
 induction s with
 | nil => intro n; exact ⟨fun _ h => by simp [esFrom] at h, List.nodup_nil⟩
 | cons x l ih =>
  intro n
  obtain ⟨h1, h2⟩ := ih (n + 1)
  refine ⟨fun e he => ?_, ?_⟩
  ·rcases List.mem_cons.1 he with rfl | he
   ·simp
   ·have := h1 e he; simp only [lcs]; omega
  ·refine List.nodup_cons.2 ⟨fun h => ?_, h2⟩
   obtain ⟨e, he, h3⟩ := List.mem_map.1 h
   have := h1 e he
   simp only at h3
   omega
theorem ids_lt {s : Str} (h : SOk s) : (s.map Tx.id).Pairwise fun a b => a < b := (List.pairwise_map).2 h.lt
theorem Ur : ∀ {l : List Int} {a b : Int}, l.Pairwise (fun a b => a < b) → (∀ x ∈ l, a ≤ x ∧ x < b) → l.length ≤ (b - a).toNat
 | [], _, _, _, _ => Nat.zero_le _
 | x :: l, a, b, h, hl => by
  have hp := List.pairwise_cons.1 h
  have hx := hl x (by simp)
  have := Ur (l := l) (a := x + 1) (b := b) hp.2 fun y hy => ⟨by have := hp.1 y hy; omega, (hl y (by simp [hy])).2⟩
  simp only [lcs]; omega
theorem Hb {s : Str} (h : SOk s) : s.length ≤ 65536 := by
 have := Ur (a := 0) (b := 65536) (ids_lt h) fun x hx => by
  obtain ⟨t, ht, rfl⟩ := List.mem_map.1 hx
  exact ⟨(h.ok t ht).id0, (h.ok t ht).id1⟩
 simpa using this
theorem keys_c (hP : PE E) (W : AW) (m : Nat) : ACalls E 71 [.map m] W fun Y W' => Y = .fn (.func 100) [] [.ptr W.nx 0] ∧ W' = W.alloc (.row [.map m]) := by
 refine ACalls.of hP Tryz.func71 ok35e (by simp) fun _ hok => ?_
 simp only [c35, BZ, ↓reduceIte, nE, BM, BD]
 exact ⟨_, rfl, _, _, .weak Ab, by rw [Ag]; omega, rfl, rfl⟩
theorem all_c (hP : PE E) (W : AW) (p : Nat) : ACalls E 41 [.ptr p 0] W fun Y W' => Y = .fn (.func 69) [] [.ptr W.nx 0] ∧ W' = W.alloc (.row [.ptr p 0]) := by
 refine ACalls.of hP Tryz.func41 ok12e (by simp) fun _ hok => ?_
 simp only [c12, BZ, ↓reduceIte, nE, BM, BD]
 exact ⟨_, rfl, _, _, .weak Ab, by rw [Ag]; omega, rfl, rfl⟩
theorem Ym {W : AW} (t : Tx) : W.frz t.V = t.V := id rfl
theorem all_iter (hP : PE E) {W : AW} {y q p ra rw : Nat} {s : Str} (hq : W.get q = some (.row [.ptr p 0])) (hqn : q < W.nx) (h : St W p ra rw s) (J : Nat → AW → Prop) (R : AW → Prop)
  (h0 : ∀ W1, Ex W W1 → W.nx < W1.nx → J 0 W1) (hJ : ∀ k W1, J k W1 → Cl W1 ∧ W.nx < W1.nx ∧ W1.get q = W.get q ∧ W1.get p = W.get p ∧ W1.get ra = W.get ra)
  (hR : ∀ W1, R W1 → W.nx ≤ W1.nx) (hmono : ∀ (vs : List V) (W1 : AW) (K K' : V → AW → Prop), (∀ v W', K v W' → K' v W') → E.yield y vs W1 K → E.yield y vs W1 K')
  (hy : ∀ k (hk : k < s.length) W1, J k W1 → E.yield y [s[k].V] W1 (fun Y W2 => (Y = .bool true ∧ J (k + 1) W2) ∨ (Y = .bool false ∧ R W2))) :
  ACalls E 69 [.yld y, .ptr q 0] W fun Y W' => Y = .tuple [] ∧ (J s.length W' ∨ R W') := by
 refine ACalls.of hP Tryz.func69 ok33e (by simp) fun _ hok => ?_
 refine Af hok ?_
 have hla := h.la
 have hlp := h.lp
 simp (disch:=omega) only [c33, BZ, ↓reduceIte, BM, hq]
 refine pc (is_c hP _ (r := [.map rw, .int .i64 (lastId s)]) (by rw [Aj h.lp]; exact h.hp)) ?_
 simp (disch:=omega) only [BX, ↓reduceIte, nE, BM, BD, hq, h.hp]
 refine (keys_c hP _ ra).mono ?_
 rintro Y W1 ⟨rfl, rfl⟩
 simp (disch:=omega) only [BS, BC, ↓reduceIte, BM, BD]
 have hes := es_fresh s 0
 have hpb : (X W W.nx [.row [.map ra]]).get (rf W.nx 0) = some (.row [.map ra]) := by rw [Ao]; rfl
 refine pc (Yq hP keyOf hpb (by rw [Aj h.la]; exact h.ha) ⟨hes.2, fun e he => by have := (hes.1 e he).2; omega⟩ (by simp [X, rf]) (by simp [X]; omega) (es_int s 0) (by rw [es_len]; have := Hb h.ok; omega)) ?_
 rw [es_key]
 have hsv : isS 1 (sortedV (s.map Tx.id)) (intsV (s.map Tx.id)) := by
  unfold sortedV
  split
  ·rename_i h0; rw [h0]; exact .nil
  ·rw [sort_id (ids_lt h.ok)]; exact .mk
 simp only [BS, ↓reduceIte, hsv.len, Ak, lmp]
 rw [Ai]
 refine alp (fun (k : Nat) A1 W1 => A1 0 = some (.yld y) ∧ A1 1 = some (.ptr q 0) ∧ A1 13 = some (sortedV (s.map Tx.id)) ∧ A1 14 = some (.int .i64 s.length) ∧ A1 15 = some (.int .i64 k) ∧ k ≤ s.length ∧ J k W1) (fun k => s.length - k) 0
  ⟨rfl, rfl, rfl, rfl, rfl, Nat.zero_le _, h0 _ Ex.x0 (by simp [X])⟩ ?_
 rintro k A1 W1 ⟨g0, g1, g13, g14, g15, gk, gJ⟩ _
 obtain ⟨j0, j1, j2, j3, j4⟩ := hJ _ _ gJ
 rw [hq] at j2
 rw [h.hp] at j3
 rw [h.ha] at j4
 by_cases hk1 : k < s.length
 ·have hsl := Hb h.ok
  have hto := h.ok.ok s[k] (gmm hk1)
  have hat : (intsV (s.map Tx.id))[k]? = some (.int .u16 s[k].id) := by
   rw [Cc (by simpa using hk1)]; simp
  simp (disch:=omega) only [c33_0, BX, ↓reduceIte, nE, reduceCtorEq, BM, BD, g0, g1, g13, g14, g15, clt, hk1, dT, hsv.idx hat, j2, j3, D7 j4 (G1 h.ok.ok hto.id0 hto.id1 0), Ix, Iy h.ok.lt (gmm hk1), Ym]
  refine pc (Zh hP _ hto) ?_
  simp only [BS, BC, ↓reduceIte, nE, Ej, Ym]
  refine hmono _ _ _ _ ?_ (hy k hk1 W1 gJ)
  rintro Y W2 (⟨rfl, g⟩ | ⟨rfl, g⟩)
  ·have g' := (hJ _ _ g).2.1
   simp (disch:=omega) only [BS, BC, Ad, ↓reduceIte, nE, reduceCtorEq, BD, g0, g1, g13, g14, g15, Ah]
   exact ⟨k + 1, ⟨tt, tt, tt, tt, tt, tt, g⟩, by omega, (by first | omega | (simp only [rf]; omega) | (simp only [rf, X, lcs, List.length_nil, Nat.zero_add]; omega) | (simp [rf, X]; omega))⟩
  ·simp (disch:=omega) only [BS, Ad, ↓reduceIte, BD]
   exact ⟨_, rfl, _, _, .weak Ab, hR _ g, rfl, .inr g⟩
 ·obtain rfl : k = s.length := by omega
  simp (disch:=omega) only [c33_0, BX, ↓reduceIte, BM, BD, g14, g15, clt, hk1, dF]
  exact ⟨_, rfl, _, _, .weak Ab, Nat.le_of_lt j1, rfl, .inl gJ⟩
end Go.AL.S
namespace Go.AL.S
open Go Go.AL Go.Proofs
variable {E : Env}
theorem Lw (hP : PE E) {W0 : AW} {A : AFr} {q p ra rw pv : Nat} {s : Str} {g : AX} {asg body : AC} {Q : Exit → AFr → AW → Prop} (hg : g.ev E A = some (.fn (.func 69) [] [.ptr q 0])) (hq : W0.get q = some (.row [.ptr p 0])) (hqn : q < W0.nx) (hC : Cl W0) (h : St W0 p ra rw s)
  (J : Nat → AW → Prop) (h0 : ∀ W1, Ex W0 W1 → J 0 W1) (hJ : ∀ k W1, J k W1 → Cl W1 ∧ W1.get q = W0.get q ∧ W1.get p = W0.get p ∧ W1.get ra = W0.get ra)
  (hb : ∀ k (hk : k < s.length) W1, J k W1 → W1.get W0.nx = some (.loop .ready none) → W0.nx + 1 < W1.nx →
   awp E asg (thenQ (fun A1 W2 => W2.get W0.nx = some (.loop .ready none) ∧ awp E body (fun e _ W3 => e = .normal ∧ W3.get W0.nx = some (.loop .busy none) ∧ W0.nx + 1 < W3.nx ∧ J (k + 1) (W3.put W0.nx (.loop .ready none))) A1 (W2.put W0.nx (.loop .busy none))) (fun _ _ _ => False)) (A.put pv s[k].V) W1)
  (hQ : ∀ W1, J s.length W1 → W1.get W0.nx = some (.loop .ready none) → W0.nx + 1 < W1.nx → Q .normal A (W1.put W0.nx (.loop .exhausted none))) : awp E (.rangef g [pv] asg body) Q A W0 := by
 rw [Dp, hg]
 intro E' eP eG ey _
 have hP' : E'.P = Tryz.prog := eP.trans hP
 have hE : Ex W0 (W0.alloc (.loop .ready none)) := ⟨fun r hr => by rw [Ag] at hr; rw [Cq, if_neg (by omega)]; exact hC r (by omega), by rw [Ag]; omega, fun x hx => Al hx⟩
 simp only [mcs, List.map_nil, Gz]
 refine (all_iter (E := E') hP' (y := W0.nx) (q := q) (by rw [Al hqn]; exact hq) (by rw [Ag]; omega) (h.ex hE) (fun k W1 => J k W1 ∧ W1.get W0.nx = some (.loop .ready none) ∧ W0.nx + 1 < W1.nx) (fun _ => False) ?_ ?_ (fun _ h => h.elim) (fun vs W1 K K' hk hy => E'.yieldMono _ _ _ _ _ hk hy) ?_).mono ?_
 ·intro W1 hE1 hn
  rw [Ag] at hn
  refine ⟨h0 _ (hE.trans hE1), ?_, hn⟩
  rw [hE1.get _ (by rw [Ag]; omega), Ca]
 ·rintro k W1 ⟨g1, g2, g3⟩
  obtain ⟨j0, j1, j2, j3⟩ := hJ _ _ g1
  have hla := h.la
  have hlp := h.lp
  refine ⟨j0, by rw [Ag]; exact g3, ?_, ?_, ?_⟩
  ·rw [j1, Al hqn]
  ·rw [j2, Al hlp]
  ·rw [j3, Al hla]
 ·rintro k hk W1 ⟨g1, g2, g3⟩
  refine ey _ _ _ ⟨g2, rfl, ?_⟩
  refine Ar _ ?_ (hb k hk W1 g1 g2 g3)
  intro e A1 W2 hh
  cases e with
  | normal =>
   refine ⟨hh.1, Ar _ ?_ hh.2⟩
   rintro e A3 W3 ⟨rfl, h2, h3, h4⟩
   exact ⟨h2, .inl ⟨rfl, h4, put_at, h3⟩⟩
  | _ => exact hh
 ·rintro Y W1 ⟨_, ⟨g1, g2, g3⟩ | g⟩
  ·simp only [doneQ, g2]
   exact hQ _ g1 g2 g3
  ·exact g.elim
def c_begins : AC := (.r [.v 4 (.bool false)] (.r [.m 5 0,.u 6 (.len 1 0) 5,.m 7 1,.u 8 (.len 1 0) 7,.b 9 (.bin .leq) 6 8,.m 10 9,.M 11 0 10 true,.M 12 1 10 true,.M 13 0 10 true,.U 14 (.len 1 0) 13 10 true,.B 15 (.slc 1 false true false) 12 14 10 true,.B 16 (.call 95) 11 15 10 true,.p 17 .pick [.t 10,.t 16,.F],.m 4 17] .ret))
theorem Sg : compF Tryz.prog Tryz.f59 ⟨false, false, []⟩ = some (c_begins, [.tmp 4], 18) := by kernel_rfl
def c_newO : AC := (.r [.v 0 (.nilptr)] (.r [.p 1 (.build [.bool false,.nilsl,.nilsl,.nilsl,.nilsl,.nilsl,.nilsl,.nilsl,.nilsl] [(0, 1)]) [.T],.u 2 .box 1,.m 0 2] .ret))
theorem Zw : compF Tryz.prog Tryz.f28 ⟨false, false, []⟩ = some (c_newO, [.tmp 0], 3) := by kernel_rfl
def c_isO : AC := (.r [.v 2 (.bool false)] (.r [.m 3 0,.p 4 (.eqn true 0) [.t 3,.c (.nilptr)],.m 5 4,.M 6 0 5 true,.U 7 .nilck 6 5 true,.U 8 (.fld 0) 7 5 true,.U 9 (.load false 1) 8 5 true,.p 10 .pick [.t 5,.t 9,.F],.m 2 10] .ret))
theorem ok_isOe : compF Tryz.prog Tryz.f57 ⟨false, false, []⟩ = some (c_isO, [.tmp 2], 11) := by kernel_rfl
def c_twice_0 : AC := (.r [.b 8 (.bin .lss) 7 6] (.seq (.w 8 0) (.seq (.block 1 (.r [.m 9 7,.b 10 (.idxp 1) 5 7,.u 11 (.load false 1) 10,.m 3 9,.m 4 11] (.r [.m 12 0,.m 13 3,.b 14 (.slc 1 false true false) 12 13,.m 15 4,.b 16 (.call 94) 14 15] (.cond (.t 16) (.r [.v 2 (.bool true)] .ret) .skip)))) (.reg [.a 17 (.bin .add) 7 1,.m 7 17]))))
def c_twice : AC := (.r [.v 2 (.bool false)] (.seq (.r [.m 5 0,.u 6 (.len 1 0) 5,.v 7 (.int .i64 0)] (.block 0 (.loop c_twice_0))) (.r [.v 2 (.bool false)] .ret)))
theorem Wk : compF Tryz.prog Tryz.f58 ⟨false, false, []⟩ = some (c_twice, [.tmp 2], 18) := by kernel_rfl
def c_idx16 : AC := (.r [.v 4 (.int .i64 0)] (.seq (.r [.m 6 0,.u 7 (.len 1 0) 6,.v 8 (.int .i64 0)] (.block 0 (.loop (.r [.b 9 (.bin .lss) 8 7] (.seq (.w 9 0) (.seq (.block 1 (.r [.m 10 8,.m 5 10] (.r [.m 11 1,.m 12 0,.m 13 5,.b 14 (.idxp 1) 12 13,.u 15 (.load false 1) 14,.b 16 (.bin .eql) 11 15] (.cond (.t 16) (.r [.m 17 5,.m 4 17] .ret) .skip)))) (.reg [.a 18 (.bin .add) 8 1,.m 8 18]))))))) (.r [.v 4 (.int .i64 (-1))] .ret)))
theorem Ws : compF Tryz.prog Tryz.f121 ⟨false, false, []⟩ = some (c_idx16, [.tmp 4], 19) := by kernel_rfl
def c_has16 : AC := (.r [.v 4 (.bool false)] (.r [.m 5 0,.m 6 1,.b 7 (.call 121) 5 6,.a 8 (.bin .geq) 7 0,.m 4 8] .ret))
theorem Wt : compF Tryz.prog Tryz.f94 ⟨false, false, []⟩ = some (c_has16, [.tmp 4], 9) := by kernel_rfl
def c_orderO : AC := (.r [.v 4 (.nilsl)] (.seq (.r [.m 5 0,.u 6 (.call 57) 5,.u 7 (.un .not) 6,.m 8 7,.M 9 1 8 false,.P 10 (.bin .geq) [.t 9,.c (.int .u8 8)] 8 false,.p 11 .pick [.t 8,.T,.t 10]] (.cond (.t 11) (.r [.v 4 (.nilsl)] .ret) .skip)) (.r [.m 12 0,.m 13 1,.u 14 .nilck 12,.u 15 (.fld 1) 14,.b 16 (.idxa 8 1) 15 13,.u 17 (.load false 1) 16,.m 4 17] .ret)))
theorem R5 : compF Tryz.prog Tryz.f97 ⟨false, false, []⟩ = some (c_orderO, [.tmp 4], 18) := by kernel_rfl
def c_of : AC := (.r [.v 4 (.nilsl)] (.r [.m 5 0,.m 6 1,.b 7 (.call 97) 5 6,.u 8 (.call 56) 7,.m 4 8] .ret))
theorem ok_ofe : compF Tryz.prog Tryz.f72 ⟨false, false, []⟩ = some (c_of, [.tmp 4], 9) := by kernel_rfl
def c_at : AC := (.r [.v 6 (.int .u16 0),.v 7 (.bool false)] (.r [.m 9 0,.m 10 1,.b 11 (.call 97) 9 10,.m 8 11] (.seq (.r [.m 12 2,.a 13 (.bin .lss) 12 0,.m 14 13,.M 15 2 14 false,.M 16 8 14 false,.U 17 (.len 1 0) 16 14 false,.B 18 (.bin .geq) 15 17 14 false,.p 19 .pick [.t 14,.T,.t 18]] (.cond (.t 19) (.r [.v 6 (.int .u16 0),.v 7 (.bool false)] .ret) .skip)) (.r [.m 20 8,.m 21 2,.b 22 (.idxp 1) 20 21,.u 23 (.load false 1) 22,.m 6 23,.v 7 (.bool true)] .ret))))
theorem ok_ate : compF Tryz.prog Tryz.f74 ⟨false, false, []⟩ = some (c_at, [.tmp 6, .tmp 7], 24) := by kernel_rfl
def takeV (v : V) (n : Nat) : V := match v with
 | .sl s f xs => .sl s (f && n == xs.length) (xs.take n)
 | v => v
theorem isS.slc {s : Nat} {v : V} {xs : List V} (h : isS s v xs) {W : AW} {K : V → AW → Prop} {n : Nat} (hn : n ≤ xs.length) : sem E (.slc s false true false) [v, .int .i64 (n : Int)] W K = K (takeV v n) W := by
 rcases h with ⟨rfl, rfl⟩ | ⟨rfl, rfl⟩ | ⟨f, rfl⟩
 ·have : n = 0 := by simpa using hn
  subst this; rfl
 ·have : n = 0 := by simpa using hn
  subst this; rfl
 ·simp [sem, rsem, tsem, slcOp, natV, slcV, hn, takeV]
theorem isS.take {s : Nat} {v : V} {xs : List V} (h : isS s v xs) (n : Nat) : isS s (takeV v n) (xs.take n) := by
 rcases h with ⟨rfl, rfl⟩ | ⟨rfl, rfl⟩ | ⟨f, rfl⟩
 ·simp [takeV]; exact .nil
 ·simp [takeV]; exact .inr (.inl ⟨rfl, rfl⟩)
 ·exact .mk
theorem Mb (l : List Int) (n : Nat) : (intsV l).take n = intsV (l.take n) := by simp [intsV, List.map_take]
def begins (a b : List Int) : Bool := decide (a.length ≤ b.length) && decide (a = b.take a.length)
theorem H9 (hP : PE E) (W : AW) {v v' : V} {l l' : List Int} (h : isS 1 v (intsV l)) (h' : isS 1 v' (intsV l')) (hl : l.length < 2 ^ 40) :
  ACalls E 59 [v, v'] W fun Y W' => Y = .bool (begins l l') ∧ W' = W := by
 refine ACalls.of hP Tryz.func59 Sg (by simp) fun _ hok => ?_
 by_cases hc : l.length ≤ l'.length
 ·have hs := h'.take l.length
  rw [Mb] at hs
  simp only [c_begins, BZ, Aa, ↓reduceIte, nE, reduceCtorEq, h.len, h'.len, Ak, cle, hc, dT, h'.slc (n := l.length) (by rw [Ak]; exact hc), h.frz, hs.frz]
  refine pc (eqI_c hP W h hs hl) ?_
  simp only [BS, BC, ↓reduceIte, nE]
  exact ⟨_, rfl, _, _, .weak Ab, lr _, by simp [begins, hc], rfl⟩
 ·simp only [c_begins, BZ, Aa, ↓reduceIte, nE, reduceCtorEq, BM, h.len, h'.len, Ak, cle, hc, dF]
  exact ⟨_, rfl, _, _, .weak Ab, lr _, by simp [begins, hc], rfl⟩
theorem idx16_c (hP : PE E) (W : AW) {v : V} {l : List Int} (h : isS 1 v (intsV l)) (hl : l.length < 2 ^ 40) (n : Int) :
  ACalls E 121 [v, .int .u16 n] W fun Y W' => Y = .int .i64 (idxV (fun x => decide (n = x)) l) ∧ W' = W := by
 refine ACalls.of hP Tryz.func121 Ws (by simp) fun _ hok => ?_
 simp only [c_idx16, BZ, ↓reduceIte, reduceCtorEq, h.len, Ak]
 rw [Ai]
 refine alp (fun (k : Nat) A1 W1 => A1 0 = some v ∧ A1 1 = some (.int .u16 n) ∧ A1 7 = some (.int .i64 l.length) ∧ A1 8 = some (.int .i64 k) ∧ k ≤ l.length ∧ W1 = W ∧ ∀ i (hi : i < l.length), i < k → decide (n = l[i]) = false) (fun k => l.length - k) 0
  ⟨rfl, rfl, rfl, rfl, Nat.zero_le _, rfl, fun _ _ h => by omega⟩ ?_
 rintro k A1 W1 ⟨g0, g1, g7, g8, gk, rfl, ge⟩ _
 by_cases hk1 : k < l.length
 ·cases hb : decide (n = l[k])
  ·simp (disch:=omega) only [BX, ↓reduceIte, nE, reduceCtorEq, BM, g0, g1, g7, g8, clt, hk1, dT, h.idx (Cc hk1), D8, hb, Ah]
   refine ⟨k + 1, ⟨tt, tt, tt, tt, tt, tt, fun i hi hk => ?_⟩, by omega, lr _⟩
   by_cases e : i = k
   ·subst e; exact hb
   ·exact ge i hi (by omega)
  ·simp (disch:=omega) only [BX, ↓reduceIte, nE, reduceCtorEq, BM, g0, g1, g7, g8, clt, hk1, dT, h.idx (Cc hk1), D8, hb]
   exact ⟨_, rfl, _, _, .weak Ab, lr _, by rw [Ez hk1 hb ge], rfl⟩
 ·obtain rfl : k = l.length := by omega
  simp only [BX, ↓reduceIte, g7, g8, clt, hk1, dF]
  exact ⟨_, rfl, _, _, .weak Ab, lr _, by rw [Eo fun i hi => ge i hi hi], rfl⟩
theorem has16_c (hP : PE E) (W : AW) {v : V} {l : List Int} (h : isS 1 v (intsV l)) (hl : l.length < 2 ^ 40) (n : Int) :
  ACalls E 94 [v, .int .u16 n] W fun Y W' => Y = .bool (l.any fun x => decide (n = x)) ∧ W' = W := by
 refine ACalls.of hP Tryz.func94 Wt (by simp) fun _ hok => ?_
 simp only [c_has16, BZ, ↓reduceIte, nE, reduceCtorEq, h.frz]
 refine pc (idx16_c hP W h hl n) ?_
 simp only [BS, BC, ↓reduceIte, H5]
 exact ⟨_, rfl, _, _, .weak Ab, lr _, rfl, rfl⟩
def twiceB (l : List Int) : Bool := !decide l.Nodup
theorem twice_c (hP : PE E) (W : AW) {v : V} {l : List Int} (h : isS 1 v (intsV l)) (hl : l.length < 2 ^ 40) :
  ACalls E 58 [v] W fun Y W' => Y = .bool (twiceB l) ∧ W' = W := by
 refine ACalls.of hP Tryz.func58 Wk (by simp) fun _ hok => ?_
 simp only [c_twice, BZ, ↓reduceIte, reduceCtorEq, h.len, Ak]
 rw [Ai]
 refine alp (fun (k : Nat) A1 W1 => A1 0 = some v ∧ A1 5 = some v ∧ A1 6 = some (.int .i64 l.length) ∧ A1 7 = some (.int .i64 k) ∧ k ≤ l.length ∧ W1 = W ∧ (l.take k).Nodup) (fun k => l.length - k) 0
  ⟨rfl, rfl, rfl, rfl, Nat.zero_le _, rfl, List.nodup_nil⟩ ?_
 rintro k A1 W1 ⟨g0, g5, g6, g7, gk, rfl, ge⟩ _
 by_cases hk1 : k < l.length
 ·have hs := h.take k
  rw [Mb] at hs
  have htk : l.take (k + 1) = l.take k ++ [l[k]] := by rw [tao, gEg hk1]; rfl
  simp (disch:=omega) only [c_twice_0, BX, ↓reduceIte, nE, reduceCtorEq, BM, g0, g5, g6, g7, clt, hk1, dT, h.idx (Cc hk1), h.slc (n := k) (by rw [Ak]; omega), hs.frz]
  refine pc (has16_c hP W1 hs (by simp; omega) l[k]) ?_
  cases hb : (l.take k).any fun x => decide (l[k] = x)
  ·simp (disch:=omega) only [BS, BC, Ad, ↓reduceIte, nE, reduceCtorEq, g0, g5, g6, g7, Ah]
   refine ⟨k + 1, ⟨tt, tt, tt, tt, tt, tt, ?_⟩, by omega, lr _⟩
   rw [htk]
   refine List.nodup_append.2 ⟨ge, by simp, fun a ha b hb' e => ?_⟩
   rw [List.mem_singleton.1 hb'] at e
   rw [List.any_eq_false] at hb
   have := hb a ha
   simp [e] at this
  ·simp (disch:=omega) only [BX, ↓reduceIte]
   refine ⟨_, rfl, _, _, .weak Ab, lr _, ?_, rfl⟩
   have : ¬ l.Nodup := by
    intro hn
    have h1 := hn.sublist (List.take_sublist (k + 1) l)
    rw [htk] at h1
    obtain ⟨x, hx, he⟩ := List.any_eq_true.1 hb
    exact (List.nodup_append.1 h1).2.2 x hx _ (List.mem_singleton.2 rfl) (by simpa using (of_decide_eq_true he).symm)
   simp [twiceB, this]
 ·obtain rfl : k = l.length := by omega
  rw [tkl] at ge
  simp only [c_twice_0, BX, ↓reduceIte, g6, g7, clt, hk1, dF]
  exact ⟨_, rfl, _, _, .weak Ab, lr _, by simp [twiceB, ge], rfl⟩
end Go.AL.S
