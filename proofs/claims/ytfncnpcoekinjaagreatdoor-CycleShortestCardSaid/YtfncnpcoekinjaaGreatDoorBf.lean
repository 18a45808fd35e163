/- What the program's functions do, part 6. Conditions: none. -/
import Derived.Test.YtfncnpcoekinjaaGreatDoorBe
import Derived.RegionTactic
open Nat renaming reduceEqDiff → nE, reduceLeDiff → nL, reduceAdd → nA, reduceLT → nT, le_refl → lr
open List renaming getElem?_eq_getElem → gEg, length_map → lmp, getElem_mem → gmm, length_append → lap, length_cons → lcs, mem_singleton → msg, append_nil → apn, mem_append → map', take_length → tkl, map_cons → mcs, map_append → mpp, mem_map → mmp, any_eq_true → aet, length_replicate → lrp, take_add_one → tao, length_take → ltk, mem_filter → mfl
set_option maxRecDepth 100000
namespace Go.AL.S
open Go Go.AL Go.Proofs
variable {E : Env}
section
variable {W : AW} {K : V → AW → Prop} {rn n i : Nat} {s : TS}
end
section
variable {W W' : AW} {K : V → AW → Prop} {h : V} {xs : List V} {lo : Nat}
end
set_option maxHeartbeats 8000000
section
variable {W : AW} {K : V → AW → Prop} {rn n i : Nat} {s : TS}
end
section
variable {W W' : AW} {n lo rs rn : Nat} {nv hw ht he : V} {gs : List (Nat × List Nat)} {s : TS}
end
open Go Go.AL Go.Proofs Go.Sort Go.Shelf Go.RowKit
end Go.AL.S
namespace Go.AL.S
open Go Go.AL Go.Proofs
variable {E : Env}
set_option maxHeartbeats 8000000
section
variable {W : AW} {K : V → AW → Prop} {s : Nat} {v : V} {xs : List V}
end
open Go Go.AL Go.Proofs Go.Shelf
end Go.AL.S
namespace Go.AL.S
open Go Go.AL Go.Proofs
variable {E : Env}
end Go.AL.S
namespace Go.AL.S
section
variable {α : Type} [DecidableEq α]
end
open Go Go.AL Go.AL.SE Go.Proofs
variable {E : Env}
set_option maxHeartbeats 8000000
def c_few_1 : AC := (.seq (.r [.m 15 4,.m 16 0,.m 17 3,.b 18 (.idxp 3) 16 17,.u 19 (.fld 1) 18,.u 20 (.load false 1) 19,.u 21 (.len 1 0) 20,.b 22 (.bin .lss) 15 21,.m 23 22,.M 24 4 23 true,.P 25 (.bin .lss) [.t 24,.i 10] 23 true,.p 26 .pick [.t 23,.t 25,.F]] (.w 26 2)) (.seq (.block 3 (.r [.m 29 0,.m 30 3,.b 31 (.idxp 3) 29 30,.u 32 (.fld 1) 31,.u 33 (.load false 1) 32,.m 34 4,.b 35 (.idxp 1) 33 34,.u 36 (.load false 1) 35,.u 37 (.len 1 0) 36,.a 38 (.bin .gtr) 37 32] (.cond (.t 38) (.r [.v 2 (.bool false)] .ret) .skip))) (.reg [.m 27 4,.a 28 (.bin .add) 27 1,.m 4 28])))
def c_few_0 : AC := (.seq (.r [.m 5 3,.m 6 0,.u 7 (.len 1 0) 6,.b 8 (.bin .lss) 5 7,.m 9 8,.M 10 3 9 true,.P 11 (.bin .lss) [.t 10,.i 10] 9 true,.p 12 .pick [.t 9,.t 11,.F]] (.w 12 0)) (.seq (.block 1 (.seq (.r [.v 4 (.int .i64 0)] (.block 2 (.loop c_few_1))) (.r [.m 39 0,.m 40 3,.b 41 (.idxp 3) 39 40,.u 42 (.fld 0) 41,.u 43 (.load false 1) 42,.u 44 (.len 1 0) 43,.a 45 (.bin .gtr) 44 8,.m 46 45,.M 47 0 46 false,.M 48 3 46 false,.B 49 (.idxp 3) 47 48 46 false,.U 50 (.fld 1) 49 46 false,.U 51 (.load false 1) 50 46 false,.U 52 (.len 1 0) 51 46 false,.P 53 (.bin .gtr) [.t 52,.i 8] 46 false,.p 54 .pick [.t 46,.T,.t 53]] (.cond (.t 54) (.r [.v 2 (.bool false)] .ret) .skip)))) (.reg [.m 13 3,.a 14 (.bin .add) 13 1,.m 3 14])))
def c_few : AC := (.r [.v 2 (.bool false)] (.seq (.r [.v 3 (.int .i64 0)] (.block 0 (.loop c_few_0))) (.r [.m 55 0,.u 56 (.len 1 0) 55,.a 57 (.bin .leq) 56 6,.m 2 57] .ret)))
theorem ok_fewe : compF Tryz.prog Tryz.f8 ⟨false, false, []⟩ = some (c_few, [.tmp 2], 58) := by kernel_rfl
structure De.few (d : De) : Prop where
 m : d.ml.length ≤ 8
 r : d.rl.length ≤ 8
 n : ∀ o ∈ d.rl, (nums o).length ≤ 32
theorem De.few.small {d : De} (h : d.few) : d.small := ⟨by have := h.m; omega, by have := h.r; omega, fun o ho => by have := h.n o ho; omega⟩
theorem fewD_in (W : AW) {v : V} {l : List De} (hv : isS 3 v (l.map De.V)) {i : Nat} (hi : i < l.length) (ha : l[i].ok) {A : AFr} {Q : Exit → AFr → AW → Prop}
  (a0 : A 0 = some v) (a3 : A 3 = some (.int .i64 i)) (a4 : A 4 = some (.int .i64 0))
  (hret : ∀ A', A' 2 = some (.bool false) → Q .ret A' W)
  (hex : ∀ A', A' 0 = some v → A' 3 = some (.int .i64 i) → (∀ j (hj : j < l[i].rl.length), j < 10 → (nums l[i].rl[j]).length ≤ 32) → Q (.exit 2) A' W) : ALoop (awp E c_few_1) Q A W := by
 obtain ⟨xs, i1, i2, i3⟩ : ∃ xs, isS 1 l[i].rv xs ∧ xs.length = l[i].rl.length ∧ ∀ k (h : k < xs.length) (h' : k < l[i].rl.length), isEl xs[k] l[i].rl[k] := ha.rd
 have hat : (l.map De.V)[i]? = some l[i].V := by simp [hi]
 refine alp (fun (k : Nat) A1 W1 => A1 0 = some v ∧ A1 3 = some (.int .i64 i) ∧ A1 4 = some (.int .i64 (k : Nat)) ∧ k ≤ xs.length ∧ k ≤ 10 ∧ W1 = W ∧ ∀ j (hj : j < l[i].rl.length), j < k → (nums l[i].rl[j]).length ≤ 32) (fun k => xs.length - k) 0
  ⟨a0, a3, a4, Nat.zero_le _, by omega, rfl, fun _ _ h => by omega⟩ ?_
 rintro k A1 W1 ⟨g0, g3, g4, gk, gk10, rfl, ge⟩ _
 have h10 : decide ((k : Int) < 10) = decide (k < 10) := by simp; omega
 by_cases hk1 : k < xs.length
 ·by_cases hk2 : k < 10
  ·have e1 : xs[k]? = some xs[k] := gEg _
   have t := i3 k hk1 (by omega)
   have h40 : decide (((nums l[i].rl[k]).length : Int) > 32) = decide ((nums l[i].rl[k]).length > 32) := by simp; omega
   by_cases hb : (nums l[i].rl[k]).length > 32
   ·simp (maxSteps:=9^9) (disch:=omega) only [c_few_1, BS, e_seq, cond_if, guard_if, ↓reduceIte, nE, reduceCtorEq, BM, g0, g3, g4, hv.idx hat, deF1, i1.len, clt, hk1, h10, hk2, dT, i1.idx e1, t.isS.loadf, t.isS.len, ints_len, h40, decide_eq_true hb]
    exact hret _ rfl
   ·simp (maxSteps:=9^9) (disch:=omega) only [c_few_1, BX, guard_if, ↓reduceIte, nE, reduceCtorEq, BM, g0, g3, g4, hv.idx hat, deF1, i1.len, clt, hk1, h10, hk2, dT, i1.idx e1, t.isS.loadf, t.isS.len, ints_len, h40, decide_eq_false hb, wadd1]
    refine ⟨k + 1, ⟨tt, tt, tt, tt, by omega, tt, fun j hj hjk => ?_⟩, by omega, lr _⟩
    by_cases e : j = k
    ·subst e; omega
    ·exact ge j hj (by omega)
  ·simp (maxSteps:=9^9) (disch:=omega) only [c_few_1, BX, guard_if, ↓reduceIte, nE, reduceCtorEq, BM, g0, g3, g4, hv.idx hat, deF1, i1.len, clt, hk1, h10, hk2, dT, dF]
   exact hex _ g0 g3 fun j hj h => ge j hj (by omega)
 ·simp (maxSteps:=9^9) (disch:=omega) only [c_few_1, BX, guard_if, ↓reduceIte, nE, reduceCtorEq, BM, g0, g3, g4, hv.idx hat, deF1, i1.len, clt, hk1, dF]
  exact hex _ g0 g3 fun j hj h => ge j hj (by omega)
theorem fewD_c (hP : PE E) (W : AW) {v : V} {l : List De} (hv : isS 3 v (l.map De.V)) (ha : ∀ a ∈ l, a.ok) (hl : l.length < 2 ^ 48) :
  ACalls E 8 [v] W fun Y W' => W' = W ∧ ∃ b, Y = .bool b ∧ (b = true → l.length ≤ 6 ∧ ∀ a ∈ l, a.few) := by
 refine ACalls.of hP Tryz.func8 ok_fewe (by simp) fun _ hok => ?_
 simp only [c_few, BS, e_seq]
 rw [e_loop]
 refine alp (fun (k : Nat) A1 W1 => A1 0 = some v ∧ A1 3 = some (.int .i64 k) ∧ k ≤ l.length ∧ k ≤ 10 ∧ W1 = W ∧ ∀ j (hj : j < l.length), j < k → l[j].few) (fun k => l.length - k) 0
  ⟨rfl, rfl, Nat.zero_le _, by omega, rfl, fun _ _ h => by omega⟩ ?_
 rintro k A1 W1 ⟨g0, g3, gk, gk9, rfl, ge⟩ _
 have h60 : decide ((l.length : Int) ≤ 6) = decide (l.length ≤ 6) := by simp; omega
 have h70 : decide ((k : Int) < 10) = decide (k < 10) := by simp; omega
 by_cases hk1 : k < l.length
 ·by_cases hk2 : k < 10
  ·have hat : (l.map De.V)[k]? = some l[k].V := by simp [hk1]
   have hak := ha l[k] (gmm hk1)
   obtain ⟨xs, i1, i2, i3⟩ : ∃ xs, isS 1 l[k].rv xs ∧ xs.length = l[k].rl.length ∧ ∀ m (h : m < xs.length) (h' : m < l[k].rl.length), isEl xs[m] l[k].rl[m] := hak.rd
   have hms : isS 3 l[k].mv (l[k].ml.map Mi.V) := hak.ms
   have h20 : decide ((l[k].ml.length : Int) > 8) = decide (l[k].ml.length > 8) := by simp; omega
   have h20' : decide ((l[k].rl.length : Int) > 8) = decide (l[k].rl.length > 8) := by simp; omega
   simp (maxSteps:=9^9) (disch:=omega) only [c_few_0, BS, e_seq, cond_if, guard_if, ↓reduceIte, nE, reduceCtorEq, g0, g3, hv.len, lmp, clt, hk1, h70, hk2, dT, e_loop]
   refine fewD_in W1 hv hk1 hak g0 g3 rfl ?_ ?_
   ·intro A' h2
    simp only [BS, BC, h2]
    exact ⟨_, rfl, _, _, .weak weak_id, lr _, rfl, _, rfl, by simp⟩
   ·intro A' h0 h3 hall
    by_cases hb : l[k].ml.length > 8
    ·simp (maxSteps:=9^9) (disch:=omega) only [BX, guard_if, ↓reduceIte, nE, BM, h0, h3, hv.idx hat, deF0, hms.len, lmp, h20, decide_eq_true hb]
     exact ⟨_, rfl, _, _, .weak weak_id, lr _, rfl, _, rfl, by simp⟩
    ·by_cases hb' : l[k].rl.length > 8
     ·simp (maxSteps:=9^9) (disch:=omega) only [BX, guard_if, ↓reduceIte, nE, reduceCtorEq, BM, h0, h3, hv.idx hat, deF0, deF1, hms.len, lmp, h20, decide_eq_false hb, i1.len, i2, h20', decide_eq_true hb']
      exact ⟨_, rfl, _, _, .weak weak_id, lr _, rfl, _, rfl, by simp⟩
     ·simp (maxSteps:=9^9) (disch:=omega) only [BX, guard_if, ↓reduceIte, nE, reduceCtorEq, BM, h0, h3, hv.idx hat, deF0, deF1, hms.len, lmp, h20, decide_eq_false hb, i1.len, i2, h20', decide_eq_false hb', wadd1]
      refine ⟨k + 1, ⟨tt, tt, tt, tt, tt, fun j hj hjk => ?_⟩, by omega, lr _⟩
      by_cases e : j = k
      ·subst e
       refine ⟨by omega, by omega, fun o ho => ?_⟩
       obtain ⟨m, hm, rfl⟩ := List.mem_iff_getElem.1 ho
       exact hall m hm (by omega)
      ·exact ge j hj (by omega)
  ·simp (maxSteps:=9^9) (disch:=omega) only [c_few_0, BX, guard_if, ↓reduceIte, nE, reduceCtorEq, g0, g3, hv.len, lmp, clt, hk1, h70, hk2, dT, dF, h60]
   exact ⟨_, rfl, _, _, .weak weak_id, lr _, rfl, _, rfl, fun h => by simp at h; omega⟩
 ·simp (maxSteps:=9^9) (disch:=omega) only [c_few_0, BX, guard_if, ↓reduceIte, nE, reduceCtorEq, BM, g0, g3, hv.len, lmp, clt, hk1, dF, h60]
  refine ⟨_, rfl, _, _, .weak weak_id, lr _, rfl, _, rfl, fun h => ⟨by simpa using h, fun a ha => ?_⟩⟩
  obtain ⟨j, hj, rfl⟩ := List.mem_iff_getElem.1 ha
  exact ge j hj (by omega)
end Go.AL.S
namespace Go.AL.S
open Go Go.AL Go.Proofs Go.Sort Go.Shelf Go.RowKit
variable {E : Env}
end Go.AL.S
namespace Go.AL.S
open Go Go.AL Go.AL.SE Go.Proofs
variable {E : Env}
theorem wr_node {s : Str} {k v : Int} (h : (wrR s k v).2 = true) : (wrR s k v).1 ∈ nodesR s := by
 unfold wrR at h ⊢
 cases hw : who s k v with
 | none => rw [hw] at h; cases h
 | some t =>
  rw [hw] at h
  have h2 : t.st ≠ 2 := of_decide_eq_true h
  exact List.mem_map.2 ⟨t, List.mem_filter.2 ⟨(who_mem hw).1, by simpa using h2⟩, rfl⟩
theorem edgeP_ends {a b k : Int} {N : List Int} (ha : a ∈ N) (hb : b ∈ N) : ∀ x ∈ edgeP a b k, x.1 ∈ N ∧ x.2.1 ∈ N := by
 intro x hx
 unfold edgeP at hx
 split at hx
 ·cases hx
 ·rw [List.mem_singleton.1 hx]; exact ⟨ha, hb⟩
theorem build_ends (s : Str) (o : Ods) : ∀ x ∈ buildP s o, x.1 ∈ nodesR s ∧ x.2.1 ∈ nodesR s := by
 intro x hx
 rcases List.mem_append.1 hx with hx | hx
 ·obtain ⟨k, _, hx⟩ := List.mem_flatMap.1 hx
  obtain ⟨y, _, hx⟩ := List.mem_flatMap.1 hx
  split at hx
  ·rename_i h; exact edgeP_ends (wr_node h.1) (wr_node h.2) x hx
  ·cases hx
 ·obtain ⟨t, ht, hx⟩ := List.mem_flatMap.1 hx
  unfold txnP at hx
  split at hx
  ·cases hx
  ·rename_i h2
   have htn : t.id ∈ nodesR s := List.mem_map.2 ⟨t, List.mem_filter.2 ⟨ht, by simpa using h2⟩, rfl⟩
   obtain ⟨r, _, hx⟩ := List.mem_flatMap.1 hx
   split at hx
   ·rcases List.mem_append.1 hx with hx | hx
    ·unfold lastP at hx
     split at hx
     ·split at hx
      ·rename_i h; exact edgeP_ends (wr_node h) htn x hx
      ·cases hx
     ·cases hx
    ·unfold nextP at hx
     split at hx
     ·split at hx
      ·rename_i h; exact edgeP_ends htn (wr_node h) x hx
      ·cases hx
     ·cases hx
   ·cases hx
theorem nodes_pw {s : Str} (h : SOk s) : (nodesR s).Pairwise fun a b => a < b := List.pairwise_map.2 (List.Pairwise.filter _ h.lt)
end Go.AL.S
