/- What the program's functions do, part 6. Conditions: none. -/
import Derived.Test.YtfncnpcoekinjaaGreatDoorBe
import Derived.RegionTactic
open Nat renaming reduceEqDiff → nE, reduceLeDiff → nL, reduceAdd → nA, reduceLT → nT, le_refl → lr
open List renaming getElem?_eq_getElem → gEg, length_map → lmp, getElem_mem → gmm, length_append → lap, length_cons → lcs, mem_singleton → msg, append_nil → apn, mem_append → map', take_length → tkl, map_cons → mcs, map_append → mpp, mem_map → mmp, any_eq_true → aet, length_replicate → lrp, take_add_one → tao, length_take → ltk, mem_filter → mfl
set_option maxRecDepth 100000
set_option maxHeartbeats 8000000
namespace Go.AL.S
open Go Go.AL Go.Proofs
variable {E : Env}
section
variable {W : AW} {K : V → AW → Prop} {rn n i : Nat} {s : TS}
end
section
variable {W W' : AW} {n lo rs rn : Nat} {nv hw ht he : V} {gs : List (Nat × List Nat)} {s : TS}
end
open Go Go.AL Go.Proofs Go.Sort Go.Shelf Go.RowKit
end Go.AL.S
namespace Go.AL.S
open Go Go.AL Go.Proofs
variable {E : Env}
set_option maxHeartbeats 8000000
section
variable {W : AW} {K : V → AW → Prop} {s : Nat} {v : V} {xs : List V}
end
open Go Go.AL Go.Proofs Go.Shelf
end Go.AL.S
namespace Go.AL.S
open Go Go.AL Go.Proofs
variable {E : Env}
end Go.AL.S
namespace Go.AL.S
section
variable {α : Type} [DecidableEq α]
end
open Go Go.AL Go.AL.SE Go.Proofs
variable {E : Env}
set_option maxHeartbeats 8000000
def c_few_1 : AC := (.seq (.r [.m 15 4,.m 16 0,.m 17 3,.b 18 (.idxp 3) 16 17,.u 19 (.fld 1) 18,.u 20 (.load false 1) 19,.u 21 (.len 1 0) 20,.b 22 (.bin .lss) 15 21,.m 23 22,.M 24 4 23 true,.P 25 (.bin .lss) [.t 24,.i 10] 23 true,.p 26 .pick [.t 23,.t 25,.F]] (.w 26 2)) (.seq (.block 3 (.r [.m 29 0,.m 30 3,.b 31 (.idxp 3) 29 30,.u 32 (.fld 1) 31,.u 33 (.load false 1) 32,.m 34 4,.b 35 (.idxp 1) 33 34,.u 36 (.load false 1) 35,.u 37 (.len 1 0) 36,.a 38 (.bin .gtr) 37 32] (.cond (.t 38) (.r [.v 2 (.bool false)] .ret) .skip))) (.reg [.m 27 4,.a 28 (.bin .add) 27 1,.m 4 28])))
def c_few_0 : AC := (.seq (.r [.m 5 3,.m 6 0,.u 7 (.len 1 0) 6,.b 8 (.bin .lss) 5 7,.m 9 8,.M 10 3 9 true,.P 11 (.bin .lss) [.t 10,.i 10] 9 true,.p 12 .pick [.t 9,.t 11,.F]] (.w 12 0)) (.seq (.block 1 (.seq (.r [.v 4 (.int .i64 0)] (.block 2 (.loop c_few_1))) (.r [.m 39 0,.m 40 3,.b 41 (.idxp 3) 39 40,.u 42 (.fld 0) 41,.u 43 (.load false 1) 42,.u 44 (.len 1 0) 43,.a 45 (.bin .gtr) 44 8,.m 46 45,.M 47 0 46 false,.M 48 3 46 false,.B 49 (.idxp 3) 47 48 46 false,.U 50 (.fld 1) 49 46 false,.U 51 (.load false 1) 50 46 false,.U 52 (.len 1 0) 51 46 false,.P 53 (.bin .gtr) [.t 52,.i 8] 46 false,.p 54 .pick [.t 46,.T,.t 53]] (.cond (.t 54) (.r [.v 2 (.bool false)] .ret) .skip)))) (.reg [.m 13 3,.a 14 (.bin .add) 13 1,.m 3 14])))
def c_few : AC := (.r [.v 2 (.bool false)] (.seq (.r [.v 3 (.int .i64 0)] (.block 0 (.loop c_few_0))) (.r [.m 55 0,.u 56 (.len 1 0) 55,.a 57 (.bin .leq) 56 6,.m 2 57] .ret)))
theorem ok_fewe : compF Tryz.prog Tryz.f8 ⟨false, false, []⟩ = some (c_few, [.tmp 2], 58) := by kernel_rfl
structure De.few (d : De) : Prop where
 m : d.ml.length ≤ 8
 r : d.rl.length ≤ 8
 n : ∀ o ∈ d.rl, (nums o).length ≤ 32
theorem De.few.small {d : De} (h : d.few) : d.small := ⟨by have := h.m; omega, by have := h.r; omega, fun o ho => by have := h.n o ho; omega⟩
theorem fewD_in (W : AW) {v : V} {l : List De} (hv : isS 3 v (l.map De.V)) {i : Nat} (hi : i < l.length) (ha : l[i].ok) {A : AFr} {Q : Exit → AFr → AW → Prop}
  (a0 : A 0 = some v) (a3 : A 3 = some (.int .i64 i)) (a4 : A 4 = some (.int .i64 0))
  (hret : ∀ A', A' 2 = some (.bool false) → Q .ret A' W)
  (hex : ∀ A', A' 0 = some v → A' 3 = some (.int .i64 i) → (∀ j (hj : j < l[i].rl.length), j < 10 → (nums l[i].rl[j]).length ≤ 32) → Q (.exit 2) A' W) : ALoop (awp E c_few_1) Q A W := by
 obtain ⟨xs, i1, i2, i3⟩ : ∃ xs, isS 1 l[i].rv xs ∧ xs.length = l[i].rl.length ∧ ∀ k (h : k < xs.length) (h' : k < l[i].rl.length), isEl xs[k] l[i].rl[k] := ha.rd
 have hat : (l.map De.V)[i]? = some l[i].V := by simp [hi]
 refine alp (fun (k : Nat) A1 W1 => A1 0 = some v ∧ A1 3 = some (.int .i64 i) ∧ A1 4 = some (.int .i64 (k : Nat)) ∧ k ≤ xs.length ∧ k ≤ 10 ∧ W1 = W ∧ ∀ j (hj : j < l[i].rl.length), j < k → (nums l[i].rl[j]).length ≤ 32) (fun k => xs.length - k) 0
  ⟨a0, a3, a4, Nat.zero_le _, by omega, rfl, fun _ _ h => by omega⟩ ?_
 rintro k A1 W1 ⟨g0, g3, g4, gk, gk10, rfl, ge⟩ _
 have h10 : decide ((k : Int) < 10) = decide (k < 10) := by simp; omega
 by_cases hk1 : k < xs.length
 ·by_cases hk2 : k < 10
  ·have e1 : xs[k]? = some xs[k] := gEg _
   have t := i3 k hk1 (by omega)
   have h40 : decide (((nums l[i].rl[k]).length : Int) > 32) = decide ((nums l[i].rl[k]).length > 32) := by simp; omega
   by_cases hb : (nums l[i].rl[k]).length > 32
   ·simp (maxSteps:=9^9) (disch:=omega) only [c_few_1, BS, e_seq, cond_if, guard_if, ↓reduceIte, nE, reduceCtorEq, BM, g0, g3, g4, hv.idx hat, deF1, i1.len, clt, hk1, h10, hk2, dT, i1.idx e1, t.isS.loadf, t.isS.len, ints_len, h40, decide_eq_true hb]
    exact hret _ rfl
   ·simp (maxSteps:=9^9) (disch:=omega) only [c_few_1, BX, guard_if, ↓reduceIte, nE, reduceCtorEq, BM, g0, g3, g4, hv.idx hat, deF1, i1.len, clt, hk1, h10, hk2, dT, i1.idx e1, t.isS.loadf, t.isS.len, ints_len, h40, decide_eq_false hb, wadd1]
    refine ⟨k + 1, ⟨tt, tt, tt, tt, by omega, tt, fun j hj hjk => ?_⟩, by omega, lr _⟩
    by_cases e : j = k
    ·subst e; omega
    ·exact ge j hj (by omega)
  ·simp (maxSteps:=9^9) (disch:=omega) only [c_few_1, BX, guard_if, ↓reduceIte, nE, reduceCtorEq, BM, g0, g3, g4, hv.idx hat, deF1, i1.len, clt, hk1, h10, hk2, dT, dF]
   exact hex _ g0 g3 fun j hj h => ge j hj (by omega)
 ·simp (maxSteps:=9^9) (disch:=omega) only [c_few_1, BX, guard_if, ↓reduceIte, nE, reduceCtorEq, BM, g0, g3, g4, hv.idx hat, deF1, i1.len, clt, hk1, dF]
  exact hex _ g0 g3 fun j hj h => ge j hj (by omega)
theorem fewD_c (hP : PE E) (W : AW) {v : V} {l : List De} (hv : isS 3 v (l.map De.V)) (ha : ∀ a ∈ l, a.ok) (hl : l.length < 2 ^ 48) :
  ACalls E 8 [v] W fun Y W' => W' = W ∧ ∃ b, Y = .bool b ∧ (b = true → l.length ≤ 6 ∧ ∀ a ∈ l, a.few) := by
 refine ACalls.of hP Tryz.func8 ok_fewe (by simp) fun _ hok => ?_
 simp only [c_few, BS, e_seq]
 rw [e_loop]
 refine alp (fun (k : Nat) A1 W1 => A1 0 = some v ∧ A1 3 = some (.int .i64 k) ∧ k ≤ l.length ∧ k ≤ 10 ∧ W1 = W ∧ ∀ j (hj : j < l.length), j < k → l[j].few) (fun k => l.length - k) 0
  ⟨rfl, rfl, Nat.zero_le _, by omega, rfl, fun _ _ h => by omega⟩ ?_
 rintro k A1 W1 ⟨g0, g3, gk, gk9, rfl, ge⟩ _
 have h60 : decide ((l.length : Int) ≤ 6) = decide (l.length ≤ 6) := by simp; omega
 have h70 : decide ((k : Int) < 10) = decide (k < 10) := by simp; omega
 by_cases hk1 : k < l.length
 ·by_cases hk2 : k < 10
  ·have hat : (l.map De.V)[k]? = some l[k].V := by simp [hk1]
   have hak := ha l[k] (gmm hk1)
   obtain ⟨xs, i1, i2, i3⟩ : ∃ xs, isS 1 l[k].rv xs ∧ xs.length = l[k].rl.length ∧ ∀ m (h : m < xs.length) (h' : m < l[k].rl.length), isEl xs[m] l[k].rl[m] := hak.rd
   have hms : isS 3 l[k].mv (l[k].ml.map Mi.V) := hak.ms
   have h20 : decide ((l[k].ml.length : Int) > 8) = decide (l[k].ml.length > 8) := by simp; omega
   have h20' : decide ((l[k].rl.length : Int) > 8) = decide (l[k].rl.length > 8) := by simp; omega
   simp (maxSteps:=9^9) (disch:=omega) only [c_few_0, BS, e_seq, cond_if, guard_if, ↓reduceIte, nE, reduceCtorEq, g0, g3, hv.len, lmp, clt, hk1, h70, hk2, dT, e_loop]
   refine fewD_in W1 hv hk1 hak g0 g3 rfl ?_ ?_
   ·intro A' h2
    simp only [BS, BC, h2]
    exact ⟨_, rfl, _, _, .weak weak_id, lr _, rfl, _, rfl, by simp⟩
   ·intro A' h0 h3 hall
    by_cases hb : l[k].ml.length > 8
    ·simp (maxSteps:=9^9) (disch:=omega) only [BX, guard_if, ↓reduceIte, nE, BM, h0, h3, hv.idx hat, deF0, hms.len, lmp, h20, decide_eq_true hb]
     exact ⟨_, rfl, _, _, .weak weak_id, lr _, rfl, _, rfl, by simp⟩
    ·by_cases hb' : l[k].rl.length > 8
     ·simp (maxSteps:=9^9) (disch:=omega) only [BX, guard_if, ↓reduceIte, nE, reduceCtorEq, BM, h0, h3, hv.idx hat, deF0, deF1, hms.len, lmp, h20, decide_eq_false hb, i1.len, i2, h20', decide_eq_true hb']
      exact ⟨_, rfl, _, _, .weak weak_id, lr _, rfl, _, rfl, by simp⟩
     ·simp (maxSteps:=9^9) (disch:=omega) only [BX, guard_if, ↓reduceIte, nE, reduceCtorEq, BM, h0, h3, hv.idx hat, deF0, deF1, hms.len, lmp, h20, decide_eq_false hb, i1.len, i2, h20', decide_eq_false hb', wadd1]
      refine ⟨k + 1, ⟨tt, tt, tt, tt, tt, fun j hj hjk => ?_⟩, by omega, lr _⟩
      by_cases e : j = k
      ·subst e
       refine ⟨by omega, by omega, fun o ho => ?_⟩
       obtain ⟨m, hm, rfl⟩ := List.mem_iff_getElem.1 ho
       exact hall m hm (by omega)
      ·exact ge j hj (by omega)
  ·simp (maxSteps:=9^9) (disch:=omega) only [c_few_0, BX, guard_if, ↓reduceIte, nE, reduceCtorEq, g0, g3, hv.len, lmp, clt, hk1, h70, hk2, dT, dF, h60]
   exact ⟨_, rfl, _, _, .weak weak_id, lr _, rfl, _, rfl, fun h => by simp at h; omega⟩
 ·simp (maxSteps:=9^9) (disch:=omega) only [c_few_0, BX, guard_if, ↓reduceIte, nE, reduceCtorEq, BM, g0, g3, hv.len, lmp, clt, hk1, dF, h60]
  refine ⟨_, rfl, _, _, .weak weak_id, lr _, rfl, _, rfl, fun h => ⟨by simpa using h, fun a ha => ?_⟩⟩
  obtain ⟨j, hj, rfl⟩ := List.mem_iff_getElem.1 ha
  exact ge j hj (by omega)
theorem wr_node {s : Str} {k v : Int} (h : (wrR s k v).2 = true) : (wrR s k v).1 ∈ nodesR s := by
 unfold wrR at h ⊢
 cases hw : who s k v with
 | none => rw [hw] at h; cases h
 | some t =>
  rw [hw] at h
  have h2 : t.st ≠ 2 := of_decide_eq_true h
  exact List.mem_map.2 ⟨t, List.mem_filter.2 ⟨(who_mem hw).1, by simpa using h2⟩, rfl⟩
theorem edgeP_ends {a b k : Int} {N : List Int} (ha : a ∈ N) (hb : b ∈ N) : ∀ x ∈ edgeP a b k, x.1 ∈ N ∧ x.2.1 ∈ N := by
 intro x hx
 unfold edgeP at hx
 split at hx
 ·cases hx
 ·rw [List.mem_singleton.1 hx]; exact ⟨ha, hb⟩
theorem build_ends (s : Str) (o : Ods) : ∀ x ∈ buildP s o, x.1 ∈ nodesR s ∧ x.2.1 ∈ nodesR s := by
 intro x hx
 rcases List.mem_append.1 hx with hx | hx
 ·obtain ⟨k, _, hx⟩ := List.mem_flatMap.1 hx
  obtain ⟨y, _, hx⟩ := List.mem_flatMap.1 hx
  split at hx
  ·rename_i h; exact edgeP_ends (wr_node h.1) (wr_node h.2) x hx
  ·cases hx
 ·obtain ⟨t, ht, hx⟩ := List.mem_flatMap.1 hx
  unfold txnP at hx
  split at hx
  ·cases hx
  ·rename_i h2
   have htn : t.id ∈ nodesR s := List.mem_map.2 ⟨t, List.mem_filter.2 ⟨ht, by simpa using h2⟩, rfl⟩
   obtain ⟨r, _, hx⟩ := List.mem_flatMap.1 hx
   split at hx
   ·rcases List.mem_append.1 hx with hx | hx
    ·unfold lastP at hx
     split at hx
     ·split at hx
      ·rename_i h; exact edgeP_ends (wr_node h) htn x hx
      ·cases hx
     ·cases hx
    ·unfold nextP at hx
     split at hx
     ·split at hx
      ·rename_i h; exact edgeP_ends htn (wr_node h) x hx
      ·cases hx
     ·cases hx
   ·cases hx
structure TK (so : Str × Ods) (k : Int) : Prop where
 ok : SOk so.1
 ol : so.2.length = 8
 id : ∀ t ∈ so.1, t.id ≤ k
 ks : ∀ j : Int, 0 ≤ j → (keyO so.2 j).length ≤ 32
theorem map_ok {s : Str} {i : Int} {f : Tx → Tx} (hs : SOk s) (hid : ∀ t, (f t).id = t.id) (hf : ∀ t, t.ok → (f t).ok) : SOk (mapId s i f) := by
 refine ⟨fun t ht => ?_, mapId_lt hs.lt i hid⟩
 obtain ⟨x, hx, rfl⟩ := List.mem_map.1 ht
 split
 ·exact hf x (hs.ok x hx)
 ·exact hs.ok x hx
theorem endT_ok {st : Int} (h : 0 ≤ st ∧ st < 4) (t : Tx) (ht : t.ok) : (endT st t).ok := by
 unfold endT
 split
 ·exact ⟨ht.id0, ht.id1, ht.cl0, ht.cl1, ht.ms, ht.msl, ht.lsl, ht.ls, h⟩
 ·exact ht
theorem comT_ok {ls : List (Option (List Int))} (h : ∀ o ∈ ls, ∀ n ∈ nums o, 0 ≤ n ∧ n < 65536) (t : Tx) (ht : t.ok) : (comT ls t).ok := by
 unfold comT
 split
 ·rename_i hc
  have hc := hc.2.1
  simp only [okC, Bool.and_eq_true, decide_eq_true_eq, Bool.not_eq_true', List.any_eq_false] at hc
  refine ⟨ht.id0, ht.id1, ht.cl0, ht.cl1, ht.ms, ht.msl, hc.1, fun o ho => ⟨?_, h o ho⟩, by show (0 : Int) ≤ 1 ∧ (1 : Int) < 4; decide⟩
  have := hc.2 o ho
  simp only [longL, decide_eq_true_eq] at this
  omega
 ·exact ht
theorem build_same {s : Str} {o o' : Ods} (hs : SOk s) (ho : ∀ j : Int, 0 ≤ j → keyO o j <+: keyO o' j) {x : Ek} (hx : x ∈ buildP s o) : x ∈ buildP s o' :=
 build_mono hs (fun _ _ _ => rfl) (fun _ _ h => h) ho (fun t ht r hr => ⟨t, ht, rfl, by rw [readsR_st hr]; decide, hr⟩) hx
theorem build_app {s : Str} {o : Ods} (hs : SOk s) (t : Tx) {x : Ek} (hx : x ∈ buildP s o) : x ∈ buildP (s ++ [t]) o := by
 refine build_mono hs (fun k v h => ?_) (fun k v h => ?_) (fun j _ => List.prefix_refl _) (fun t ht r hr => ⟨t, by simp [ht], rfl, by rw [readsR_st hr]; decide, hr⟩) hx
 ·unfold wrR at h ⊢
  rw [who_app]
  cases hw : who s k v with
  | none => rw [hw] at h; simp at h
  | some t => rfl
 ·rw [who_app]
  cases hw : who s k v with
  | none => rw [hw] at h; simp at h
  | some t => rfl
theorem endD_TK {s : Str} {o : Ods} {i : Int} {d : De} (hs : SOk s) (hd : ∀ o ∈ d.rl, ∀ n ∈ nums o, 0 ≤ n ∧ n < 65536) : SOk (endD s i d) ∧ (∀ t ∈ endD s i d, ∃ x ∈ s, t.id = x.id) ∧ ∀ x ∈ buildP s o, x.1 ≠ i → x.2.1 ≠ i → x ∈ buildP (endD s i d) o := by
 have hm : ∀ {f : Tx → Tx}, (∀ t, (f t).id = t.id) → ∀ t ∈ mapId s i f, ∃ x ∈ s, t.id = x.id := fun {f} hid t ht => by
  obtain ⟨x, hx, rfl⟩ := List.mem_map.1 ht
  refine ⟨x, hx, ?_⟩
  split <;> simp [hid]
 unfold endD
 split
 ·rw [commitR_map hs.lt]
  exact ⟨map_ok hs (comT_id _) (comT_ok hd), hm (comT_id _), fun x hx _ _ => build_map hs i (comT_id _) (comT_ms _) (comT_st _) (fun t r hr => comT_reads hr) (fun j _ => List.prefix_refl _) hx⟩
 ·split
  ·by_cases he : (endR s i 2).2 = 0
   ·obtain ⟨t, c1, c2⟩ := endR_ok.1 he
    rw [endR_map hs.lt]
    exact ⟨map_ok hs (endT_id _) (endT_ok (by decide)), hm (endT_id _), fun x hx h1 h2 => (build_abort hs.lt c1 c2).2 ⟨hx, h1, h2⟩⟩
   ·rw [endR_err he]
    exact ⟨hs, fun t ht => ⟨t, ht, rfl⟩, fun x hx _ _ => hx⟩
  ·split
   ·rw [endR_map hs.lt]
    exact ⟨map_ok hs (endT_id _) (endT_ok (by decide)), hm (endT_id _), fun x hx _ _ => build_map hs i (endT_id _) (endT_ms _) endT3_st (fun t r hr => endT_reads hr) (fun j _ => List.prefix_refl _) hx⟩
   ·exact ⟨hs, fun t ht => ⟨t, ht, rfl⟩, fun x hx _ _ => hx⟩
theorem node_in {s : Str} {a : Int} (h : a ∈ nodesR s) : ∃ t ∈ s, a = t.id := by
 obtain ⟨t, ht, rfl⟩ := List.mem_map.1 h
 exact ⟨t, (List.mem_filter.1 ht).1, rfl⟩
theorem TK.step {so : Str × Ods} {k : Nat} {d : De} (h : TK so k) (hd : d.ok) (hk : k + 1 < 65536) : TK (stepD so ((k + 1 : Nat) : Int) d) ((k + 1 : Nat) : Int) ∧ ∀ x ∈ buildP so.1 so.2, x ∈ buildP (stepD so ((k + 1 : Nat) : Int) d).1 (stepD so ((k + 1 : Nat) : Int) d).2 := by
 obtain ⟨s, o⟩ := so
 obtain ⟨hs, ho, hid, hks⟩ := h
 simp only at hs ho hid hks
 unfold stepD
 simp only
 by_cases he : (beginR s 0 ((k + 1 : Nat) : Int) d.ml).2 = 0
 ·rw [if_neg (fun h => h he)]
  have hb : okB 0 d.ml = true ∧ lastId s < ((k + 1 : Nat) : Int) ∧ (beginR s 0 ((k + 1 : Nat) : Int) d.ml).1 = s ++ [⟨((k + 1 : Nat) : Int), 0, d.ml, [], 0⟩] := by
   unfold beginR at he ⊢
   split at he
   ·rename_i h1
    split at he
    ·cases he
    ·rename_i h2
     split at he
     ·rename_i h3
      rw [if_pos h1, if_neg h2, if_pos h3]
      exact ⟨h1, by omega, rfl⟩
     ·cases he
   ·cases he
  obtain ⟨b1, b2, b3⟩ := hb
  rw [b3]
  simp only [okB, Bool.and_eq_true, decide_eq_true_eq] at b1
  have hs1 : SOk (s ++ [⟨((k + 1 : Nat) : Int), 0, d.ml, [], 0⟩]) := app_ok hs ⟨by simp only; omega, by simp only; omega, Int.le_refl _, by show (0 : Int) < 256; decide, hd.mi, b1.1.1.2, by simp, by simp, by show (0 : Int) ≤ 0 ∧ (0 : Int) < 4; decide⟩ b2
  obtain ⟨e1, e2, e3⟩ := endD_TK (o := o) (i := ((k + 1 : Nat) : Int)) (d := d) hs1 hd.ns
  generalize endD (s ++ [⟨((k + 1 : Nat) : Int), 0, d.ml, [], 0⟩]) ((k + 1 : Nat) : Int) d = s2 at e1 e2 e3 ⊢
  have hr : ∀ r ∈ readsR ((find s2 ((k + 1 : Nat) : Int)).getD Tx.zero), 0 ≤ r.1 ∧ (nums r.2).length ≤ 32 := by
   cases hf : find s2 ((k + 1 : Nat) : Int) with
   | none => intro r hr; simp [readsR, Tx.zero] at hr
   | some t => exact fun r hr => ⟨(readsR_key (find_ok e1 hf).2.2.ms r hr).1, (readsR_nums (find_ok e1 hf).2.2 r hr).1⟩
  obtain ⟨t1, t2, t3, _⟩ := takes_grow ho fun r h => (hr r h).1
  refine ⟨⟨e1, t1, fun t ht => ?_, fun j hj => ?_⟩, fun x hx => build_same e1 t2 (e3 x (build_app hs _ hx) ?_ ?_)⟩
  ·obtain ⟨x, hx, e⟩ := e2 t ht
   rw [e]
   rcases List.mem_append.1 hx with hx | hx
   ·have := hid x hx; omega
   ·rw [List.mem_singleton.1 hx]; exact Int.le_refl _
  ·rcases t3 j hj with e | ⟨r, h1, _, h2⟩
   ·rw [e]; exact hks j hj
   ·rw [← h2]; exact (hr r h1).2
  ·obtain ⟨t, ht, e⟩ := node_in (build_ends s o x hx).1
   have := hid t ht
   rw [e]; omega
  ·obtain ⟨t, ht, e⟩ := node_in (build_ends s o x hx).2
   have := hid t ht
   rw [e]; omega
 ·rw [if_pos he]
  have hb : (beginR s 0 ((k + 1 : Nat) : Int) d.ml).1 = s := by
   rcases beginR_cases s 0 ((k + 1 : Nat) : Int) d.ml with ⟨_, h⟩ | ⟨h, _⟩
   ·exact h
   ·exact absurd h he
  rw [hb]
  exact ⟨⟨hs, ho, fun t ht => by have := hid t ht; omega, hks⟩, fun x hx => hx⟩
theorem os0_none : ∀ j : Int, keyO os0 j = [] := by
 intro j
 unfold keyO os0
 split
 ·rfl
 ·rename_i h
  have : j.toNat < 8 := by omega
  generalize j.toNat = n at this
  rcases n with _ | _ | _ | _ | _ | _ | _ | _ | n <;> first | rfl | omega
theorem told_step {l : List De} {k : Nat} (hk : k < l.length) : toldR (l.take (k + 1)) = stepD (toldR (l.take k)) ((k + 1 : Nat) : Int) l[k] := told_take hk
theorem told_TK {l : List De} (h : ∀ d ∈ l, d.ok) (hl : l.length < 65535) : ∀ k : Nat, k ≤ l.length → TK (toldR (l.take k)) k
 | 0, _ => ⟨⟨by simp [toldR], by simp [toldR]⟩, rfl, by simp [toldR], fun j _ => by show (keyO os0 j).length ≤ 32; rw [os0_none]; simp⟩
 | k + 1, hk => by
  rw [told_step (by omega)]
  exact ((told_TK h hl k (by omega)).step (h _ (gmm _)) (by omega)).1
theorem keyP_len' {s : Str} {os : Ods} (k : Int) (h : (keyO os k).length ≤ 32) : (keyP s os k).length ≤ 32 := by
 have := flat_len (f := kf s k) (n := 1) (l := (keyO os k).zip (keyO os k).tail) fun x _ => by
  unfold kf
  split
  ·exact edgeP_len _ _ _
  ·simp
 have h2 : ((keyO os k).zip (keyO os k).tail).length ≤ 32 := by rw [List.length_zip]; omega
 have h3 : keyP s os k = ((keyO os k).zip (keyO os k).tail).flatMap (kf s k) := rfl
 rw [h3]; omega
theorem TK.len {so : Str × Ods} {k : Int} (h : TK so k) : (buildP so.1 so.2).length < 2 ^ 21 := by
 have h1 := flat_len (f := fun (k : Nat) => keyP so.1 so.2 (k : Int)) (n := 32) (l := List.range 8) fun k _ => keyP_len' k (h.ks k (by omega))
 have h2 := flat_len (f := txnP so.1 so.2) (n := 16) (l := so.1) fun t ht => txnP_len (h.ok.ok t ht)
 have h3 := st_len h.ok
 have h4 : (List.range 8).length = 8 := rfl
 rw [buildP, keysP, lap]
 omega
end Go.AL.S
