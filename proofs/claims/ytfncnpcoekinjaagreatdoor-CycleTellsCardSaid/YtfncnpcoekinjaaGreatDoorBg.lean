/- What the program's functions do, part 7. Conditions: none. -/
import Derived.Test.YtfncnpcoekinjaaGreatDoorBf
open Nat renaming reduceEqDiff → nE, reduceLeDiff → nL, reduceAdd → nA, reduceLT → nT, le_refl → lr
open List renaming getElem?_eq_getElem → gEg, length_map → lmp, getElem_mem → gmm, length_append → lap, length_cons → lcs, mem_singleton → msg, append_nil → apn, mem_append → map', take_length → tkl, map_cons → mcs, map_append → mpp, mem_map → mmp, any_eq_true → aet, length_replicate → lrp, take_add_one → tao, length_take → ltk, mem_filter → mfl
set_option maxRecDepth 100000
set_option maxHeartbeats 8000000
namespace Go.AL.S
open Go Go.AL Go.AL.SE Go.Proofs
variable {E : Env}
theorem isR_c (hP : PE E) (W : AW) {g m lo : Nat} {h : V} {P : List Ek} {N : List Int} (hG : Gr W g m h P N lo) {v1 v2 : V} {ids ks : List Int} (i1 : isS 1 v1 (intsV ids)) (i2 : isS 1 v2 (u8s ks)) (hi : ∀ x ∈ ids, 0 ≤ x ∧ x < 65536) (hk : ∀ x ∈ ks, 0 ≤ x ∧ x < 256) (hl : ids.length < 2 ^ 20) (hl2 : ks.length < 2 ^ 20) (k : Int) :
  ACalls E 20 [.ptr g 0, .int .u8 k, .agg [v1, v2]] W fun Y W' => Y = .bool (isR (fun e => decide (ofEd e ∈ P)) k ids ks) ∧ W' = W :=
 cIs_c hP W _ i1 i2 hi hk hl hl2 k rfl rfl (fun _ => rfl) fun l e he => hasG_x hP _ (by rw [X_old hG.lg]; exact hG.hg) (by rw [X_old hG.lm]; exact hG.hm) (by have := hG.lg; simp only [X_nx, rf]; omega) (by have := hG.lm; simp only [X_nx, rf]; omega) hG.pk e he
def c_lawTe : AC := (.r [.u 5 .box 2,.v 6 (.bool false)] (.seq (.r [.m 12 0,.u 13 (.call 8) 12,.u 14 (.un .not) 13,.m 15 14,.P 16 (.idxa 2 2) [.t 5,.i 0] 15 false,.U 17 (.fld 0) 16 15 false,.U 18 (.load false 1) 17 15 false,.U 19 (.len 1 0) 18 15 false,.P 20 (.bin .gtr) [.t 19,.i 20] 15 false,.p 21 .pick [.t 15,.T,.t 20],.m 22 21,.P 23 (.idxa 2 2) [.t 5,.i 0] 22 false,.U 24 (.fld 1) 23 22 false,.U 25 (.load false 1) 24 22 false,.U 26 (.len 1 0) 25 22 false,.P 27 (.bin .gtr) [.t 26,.i 20] 22 false,.p 28 .pick [.t 22,.T,.t 27],.m 29 28,.P 30 (.idxa 2 2) [.t 5,.i 1] 29 false,.U 31 (.fld 0) 30 29 false,.U 32 (.load false 1) 31 29 false,.U 33 (.len 1 0) 32 29 false,.P 34 (.bin .gtr) [.t 33,.i 20] 29 false,.p 35 .pick [.t 29,.T,.t 34],.m 36 35,.P 37 (.idxa 2 2) [.t 5,.i 1] 36 false,.U 38 (.fld 1) 37 36 false,.U 39 (.load false 1) 38 36 false,.U 40 (.len 1 0) 39 36 false,.P 41 (.bin .gtr) [.t 40,.i 20] 36 false,.p 42 .pick [.t 36,.T,.t 41]] (.cond (.t 42) (.r [.p 43 (.call 9) [],.m 6 43] .ret) .skip)) (.r [.m 44 0,.u 45 (.call 10) 44,.m 7 45] (.r [.m 47 7,.u 48 (.call 11) 47,.m 46 48,.u 49 (.ext 0) 46,.u 50 (.ext 1) 46,.m 8 49,.m 9 50] (.seq (.r [.m 51 7,.p 52 (.eqn false 0) [.t 51,.c (.nilptr)],.m 53 52,.M 54 9 53 false,.U 55 (.un .not) 54 53 false,.p 56 .pick [.t 53,.T,.t 55]] (.cond (.t 56) (.r [.v 6 (.bool false)] .ret) .skip)) (.seq (.par (.step 0 (.a 57 (.idxa 2 2) 5 0) (.step 2 (.a 59 (.idxa 2 2) 5 1) (.alt (.step 1 (.u 58 (.load true 2) 57) (.alt (.step 3 (.u 60 (.load true 2) 59) (.alt (.step 4 (.p 10 (.alloc [.nilsl,.nilsl]) []) (.step 5 (.p 11 (.alloc [.nilsl,.nilsl]) []) (.step 6 ⟨none,.store 2, [.t 10,.t 58], none⟩ (.step 7 ⟨none,.store 2, [.t 11,.t 60], none⟩ .done)))) (.step 5 (.p 11 (.alloc [.nilsl,.nilsl]) []) (.step 4 (.p 10 (.alloc [.nilsl,.nilsl]) []) (.step 6 ⟨none,.store 2, [.t 10,.t 58], none⟩ (.step 7 ⟨none,.store 2, [.t 11,.t 60], none⟩ .done)))))) (.alt (.step 4 (.p 10 (.alloc [.nilsl,.nilsl]) []) (.alt (.step 3 (.u 60 (.load true 2) 59) (.step 5 (.p 11 (.alloc [.nilsl,.nilsl]) []) (.step 6 ⟨none,.store 2, [.t 10,.t 58], none⟩ (.step 7 ⟨none,.store 2, [.t 11,.t 60], none⟩ .done)))) (.step 5 (.p 11 (.alloc [.nilsl,.nilsl]) []) (.alt (.step 3 (.u 60 (.load true 2) 59) (.step 6 ⟨none,.store 2, [.t 10,.t 58], none⟩ (.step 7 ⟨none,.store 2, [.t 11,.t 60], none⟩ .done))) (.step 6 ⟨none,.store 2, [.t 10,.t 58], none⟩ (.step 3 (.u 60 (.load true 2) 59) (.step 7 ⟨none,.store 2, [.t 11,.t 60], none⟩ .done))))))) (.step 5 (.p 11 (.alloc [.nilsl,.nilsl]) []) (.alt (.step 3 (.u 60 (.load true 2) 59) (.step 4 (.p 10 (.alloc [.nilsl,.nilsl]) []) (.step 6 ⟨none,.store 2, [.t 10,.t 58], none⟩ (.step 7 ⟨none,.store 2, [.t 11,.t 60], none⟩ .done)))) (.step 4 (.p 10 (.alloc [.nilsl,.nilsl]) []) (.alt (.step 3 (.u 60 (.load true 2) 59) (.step 6 ⟨none,.store 2, [.t 10,.t 58], none⟩ (.step 7 ⟨none,.store 2, [.t 11,.t 60], none⟩ .done))) (.step 6 ⟨none,.store 2, [.t 10,.t 58], none⟩ (.step 3 (.u 60 (.load true 2) 59) (.step 7 ⟨none,.store 2, [.t 11,.t 60], none⟩ .done)))))))))) (.alt (.step 3 (.u 60 (.load true 2) 59) (.alt (.step 1 (.u 58 (.load true 2) 57) (.alt (.step 4 (.p 10 (.alloc [.nilsl,.nilsl]) []) (.step 5 (.p 11 (.alloc [.nilsl,.nilsl]) []) (.step 6 ⟨none,.store 2, [.t 10,.t 58], none⟩ (.step 7 ⟨none,.store 2, [.t 11,.t 60], none⟩ .done)))) (.step 5 (.p 11 (.alloc [.nilsl,.nilsl]) []) (.step 4 (.p 10 (.alloc [.nilsl,.nilsl]) []) (.step 6 ⟨none,.store 2, [.t 10,.t 58], none⟩ (.step 7 ⟨none,.store 2, [.t 11,.t 60], none⟩ .done)))))) (.alt (.step 4 (.p 10 (.alloc [.nilsl,.nilsl]) []) (.alt (.step 1 (.u 58 (.load true 2) 57) (.step 5 (.p 11 (.alloc [.nilsl,.nilsl]) []) (.step 6 ⟨none,.store 2, [.t 10,.t 58], none⟩ (.step 7 ⟨none,.store 2, [.t 11,.t 60], none⟩ .done)))) (.step 5 (.p 11 (.alloc [.nilsl,.nilsl]) []) (.step 1 (.u 58 (.load true 2) 57) (.step 6 ⟨none,.store 2, [.t 10,.t 58], none⟩ (.step 7 ⟨none,.store 2, [.t 11,.t 60], none⟩ .done)))))) (.step 5 (.p 11 (.alloc [.nilsl,.nilsl]) []) (.alt (.step 1 (.u 58 (.load true 2) 57) (.step 4 (.p 10 (.alloc [.nilsl,.nilsl]) []) (.step 6 ⟨none,.store 2, [.t 10,.t 58], none⟩ (.step 7 ⟨none,.store 2, [.t 11,.t 60], none⟩ .done)))) (.step 4 (.p 10 (.alloc [.nilsl,.nilsl]) []) (.step 1 (.u 58 (.load true 2) 57) (.step 6 ⟨none,.store 2, [.t 10,.t 58], none⟩ (.step 7 ⟨none,.store 2, [.t 11,.t 60], none⟩ .done))))))))) (.alt (.step 4 (.p 10 (.alloc [.nilsl,.nilsl]) []) (.alt (.step 1 (.u 58 (.load true 2) 57) (.alt (.step 3 (.u 60 (.load true 2) 59) (.step 5 (.p 11 (.alloc [.nilsl,.nilsl]) []) (.step 6 ⟨none,.store 2, [.t 10,.t 58], none⟩ (.step 7 ⟨none,.store 2, [.t 11,.t 60], none⟩ .done)))) (.step 5 (.p 11 (.alloc [.nilsl,.nilsl]) []) (.alt (.step 3 (.u 60 (.load true 2) 59) (.step 6 ⟨none,.store 2, [.t 10,.t 58], none⟩ (.step 7 ⟨none,.store 2, [.t 11,.t 60], none⟩ .done))) (.step 6 ⟨none,.store 2, [.t 10,.t 58], none⟩ (.step 3 (.u 60 (.load true 2) 59) (.step 7 ⟨none,.store 2, [.t 11,.t 60], none⟩ .done))))))) (.alt (.step 3 (.u 60 (.load true 2) 59) (.alt (.step 1 (.u 58 (.load true 2) 57) (.step 5 (.p 11 (.alloc [.nilsl,.nilsl]) []) (.step 6 ⟨none,.store 2, [.t 10,.t 58], none⟩ (.step 7 ⟨none,.store 2, [.t 11,.t 60], none⟩ .done)))) (.step 5 (.p 11 (.alloc [.nilsl,.nilsl]) []) (.step 1 (.u 58 (.load true 2) 57) (.step 6 ⟨none,.store 2, [.t 10,.t 58], none⟩ (.step 7 ⟨none,.store 2, [.t 11,.t 60], none⟩ .done)))))) (.step 5 (.p 11 (.alloc [.nilsl,.nilsl]) []) (.step 1 (.u 58 (.load true 2) 57) (.alt (.step 3 (.u 60 (.load true 2) 59) (.step 6 ⟨none,.store 2, [.t 10,.t 58], none⟩ (.step 7 ⟨none,.store 2, [.t 11,.t 60], none⟩ .done))) (.step 6 ⟨none,.store 2, [.t 10,.t 58], none⟩ (.step 3 (.u 60 (.load true 2) 59) (.step 7 ⟨none,.store 2, [.t 11,.t 60], none⟩ .done))))))))) (.step 5 (.p 11 (.alloc [.nilsl,.nilsl]) []) (.alt (.step 1 (.u 58 (.load true 2) 57) (.alt (.step 3 (.u 60 (.load true 2) 59) (.step 4 (.p 10 (.alloc [.nilsl,.nilsl]) []) (.step 6 ⟨none,.store 2, [.t 10,.t 58], none⟩ (.step 7 ⟨none,.store 2, [.t 11,.t 60], none⟩ .done)))) (.step 4 (.p 10 (.alloc [.nilsl,.nilsl]) []) (.alt (.step 3 (.u 60 (.load true 2) 59) (.step 6 ⟨none,.store 2, [.t 10,.t 58], none⟩ (.step 7 ⟨none,.store 2, [.t 11,.t 60], none⟩ .done))) (.step 6 ⟨none,.store 2, [.t 10,.t 58], none⟩ (.step 3 (.u 60 (.load true 2) 59) (.step 7 ⟨none,.store 2, [.t 11,.t 60], none⟩ .done))))))) (.alt (.step 3 (.u 60 (.load true 2) 59) (.alt (.step 1 (.u 58 (.load true 2) 57) (.step 4 (.p 10 (.alloc [.nilsl,.nilsl]) []) (.step 6 ⟨none,.store 2, [.t 10,.t 58], none⟩ (.step 7 ⟨none,.store 2, [.t 11,.t 60], none⟩ .done)))) (.step 4 (.p 10 (.alloc [.nilsl,.nilsl]) []) (.step 1 (.u 58 (.load true 2) 57) (.step 6 ⟨none,.store 2, [.t 10,.t 58], none⟩ (.step 7 ⟨none,.store 2, [.t 11,.t 60], none⟩ .done)))))) (.step 4 (.p 10 (.alloc [.nilsl,.nilsl]) []) (.step 1 (.u 58 (.load true 2) 57) (.alt (.step 3 (.u 60 (.load true 2) 59) (.step 6 ⟨none,.store 2, [.t 10,.t 58], none⟩ (.step 7 ⟨none,.store 2, [.t 11,.t 60], none⟩ .done))) (.step 6 ⟨none,.store 2, [.t 10,.t 58], none⟩ (.step 3 (.u 60 (.load true 2) 59) (.step 7 ⟨none,.store 2, [.t 11,.t 60], none⟩ .done))))))))))))))) (.seq (.par (.step 0 (.m 61 7) (.step 1 (.m 62 1) (.step 2 (.a 63 (.idxa 2 2) 5 0) (.step 5 (.m 66 8) (.step 6 (.m 67 1) (.step 3 (.u 64 (.load true 2) 63) (.step 4 (.p 65 (.pcall 20) [.t 61,.t 62,.t 64]) (.step 7 (.u 68 (.load true 2) 10) (.step 8 (.p 69 (.pcall 24) [.t 66,.t 67,.t 68]) (.step 9 (.b 70 (.eqv false (false, [.b])) 65 69) (.step 10 (.m 71 70) (.step 11 (.P 72 (.idxa 2 2) [.t 5,.i 0] 71 true) (.step 12 (.U 73 (.load true 2) 72 71 true) (.step 13 (.U 74 (.pcall 21) 73 71 true) (.step 14 (.U 75 (.load true 2) 10 71 true) (.step 15 (.U 76 (.pcall 25) 75 71 true) (.step 16 (.B 77 (.bin .eql) 74 76 71 true) (.step 17 (.p 78 .pick [.t 71,.t 77,.F]) (.step 18 (.m 79 78) (.step 19 (.P 80 (.idxa 2 2) [.t 5,.i 0] 79 true) (.step 21 (.P 82 (.idxa 2 2) [.t 5,.i 1] 79 true) (.step 20 (.U 81 (.load true 2) 80 79 true) (.step 22 (.U 83 (.load true 2) 82 79 true) (.step 23 (.B 84 (.pcall 26) 81 83 79 true) (.step 24 (.U 85 (.load true 2) 10 79 true) (.step 25 (.U 86 (.load true 2) 11 79 true) (.step 26 (.B 87 (.pcall 27) 85 86 79 true) (.step 27 (.B 88 (.eqv false (false, [.b])) 84 87 79 true) (.step 28 (.p 89 .pick [.t 79,.t 88,.F]) (.step 29 (.m 90 89) (.step 30 (.P 91 (.pcall 9) [] 90 true) (.step 31 (.p 92 .pick [.t 90,.t 91,.F]) (.step 32 (.m 6 92) .done)))))))))))))))))))))))))))))))))) .ret)))))))
theorem ok_lawTee : compF Tryz.prog Tryz.f6 ⟨false, false, []⟩ = some (c_lawTe, [.tmp 6], 93) := by kernel_rfl
theorem eqvT {W : AW} {K : V → AW → Prop} {a : Bool} : sem E (.eqv false (false, [.b])) [.bool a, .bool a] W K = K (.bool true) W := by
 cases a <;> rfl
theorem lawTe_c (hP : PE E) (hd0 : E.w0.drawn = 0) (htab : TabP E.w0) (hB : 0 < E.B) (W : AW) {v : V} {l : List De} (hv : isS 3 v (l.map De.V)) (ha : ∀ d ∈ l, d.ok) (hl : l.length < 2 ^ 48) {class_ : Int} {v1 v2 w1 w2 : V} {a b : List Int × List Int} (i1 : isS 1 v1 (intsV a.1)) (i2 : isS 1 v2 (u8s a.2)) (j1 : isS 1 w1 (intsV b.1)) (j2 : isS 1 w2 (u8s b.2))
  (a1 : ∀ x ∈ a.1, 0 ≤ x ∧ x < 65536) (a2 : ∀ x ∈ a.2, 0 ≤ x ∧ x < 256) :
  ACalls E 6 [v, .int .u8 class_, .agg [v1, v2, w1, w2]] W fun Y _ => Y = .bool true := by
 refine ACalls.of hP Tryz.func6 ok_lawTee (by simp) fun _ hok => ?_
 refine awp_start hok ?_
 simp (maxSteps:=9^9) (disch:=omega) only [BZ, ↓reduceIte, reduceCtorEq, BM, BD, c_lawTe, hv.frz]
 refine (fewD_c hP _ hv ha hl).mono ?_
 have hx0 : ∀ (W : AW) (K : V → AW → Prop) r, sem E (.idxa 2 2) [.ptr r 0, .int .i64 0] W K = K (.ptr r 0) W := fun W K r => by simp [sem, rsem, tsem]
 have hx1 : ∀ (W : AW) (K : V → AW → Prop) r, sem E (.idxa 2 2) [.ptr r 0, .int .i64 1] W K = K (.ptr r 2) W := fun W K r => by simp [sem, rsem, tsem]
 have works : ∀ l, ACalls E 9 [] (X W W.nx l) fun X W' => X = .bool true ∧ W' = S.X W W.nx l := fun l => works_c hP hd0 _
 have k20 : ∀ n : Nat, decide ((n : Int) > 20) = decide (n > 20) := fun n => decide_eq_decide.2 (by omega)
 rintro _ _ ⟨rfl, bf, rfl, hb⟩
 cases bf with
 | false =>
  simp (maxSteps:=9^9) (disch:=omega) only [BS, ↓reduceIte, BD]
  repeat (rw [guard_if]; simp (maxSteps:=9^9) (disch:=omega) only [BX, ↓reduceIte, nE, BM])
  refine pc (works _) ?_
  simp (maxSteps:=9^9) (disch:=omega) only [BS, BC, ↓reduceIte, ]
  exact ⟨_, rfl, _, W, backX hok rfl, lr _, rfl⟩
 | true =>
  obtain ⟨h30, hf⟩ := hb rfl
  by_cases g1 : a.1.length > 20
  ·simp (maxSteps:=9^9) (disch:=omega) only [BS, ↓reduceIte, BD]
   repeat (rw [guard_if]; simp (maxSteps:=9^9) (disch:=omega) only [BX, ↓reduceIte, nE, BM, BD, hx0, i1.len, ints_len, k20, decide_eq_true g1])
   refine pc (works _) ?_
   simp (maxSteps:=9^9) (disch:=omega) only [BS, BC, ↓reduceIte, ]
   exact ⟨_, rfl, _, W, backX hok rfl, lr _, rfl⟩
  by_cases g2 : a.2.length > 20
  ·simp (maxSteps:=9^9) (disch:=omega) only [BS, ↓reduceIte, BD]
   repeat (rw [guard_if]; simp (maxSteps:=9^9) (disch:=omega) only [BX, ↓reduceIte, nE, BM, BD, hx0, i1.len, i2.len, ints_len, u8s_len, k20, decide_eq_false g1, decide_eq_true g2])
   refine pc (works _) ?_
   simp (maxSteps:=9^9) (disch:=omega) only [BS, BC, ↓reduceIte, ]
   exact ⟨_, rfl, _, W, backX hok rfl, lr _, rfl⟩
  by_cases g3 : b.1.length > 20
  ·simp (maxSteps:=9^9) (disch:=omega) only [BS, ↓reduceIte, BD]
   repeat (rw [guard_if]; simp (maxSteps:=9^9) (disch:=omega) only [BX, ↓reduceIte, nE, BM, BD, hx0, hx1, i1.len, i2.len, j1.len, ints_len, u8s_len, k20, decide_eq_false g1, decide_eq_false g2, decide_eq_true g3])
   refine pc (works _) ?_
   simp (maxSteps:=9^9) (disch:=omega) only [BS, BC, ↓reduceIte, ]
   exact ⟨_, rfl, _, W, backX hok rfl, lr _, rfl⟩
  by_cases g4 : b.2.length > 20
  ·simp (maxSteps:=9^9) (disch:=omega) only [BS, ↓reduceIte, BD]
   repeat (rw [guard_if]; simp (maxSteps:=9^9) (disch:=omega) only [BX, ↓reduceIte, nE, BM, BD, nA, hx0, hx1, i1.len, i2.len, j1.len, j2.len, ints_len, u8s_len, k20, decide_eq_false g1, decide_eq_false g2, decide_eq_false g3, decide_eq_true g4])
   refine pc (works _) ?_
   simp (maxSteps:=9^9) (disch:=omega) only [BS, BC, ↓reduceIte, ]
   exact ⟨_, rfl, _, W, backX hok rfl, lr _, rfl⟩
  simp (maxSteps:=9^9) (disch:=omega) only [BS, ↓reduceIte, BD]
  repeat (rw [guard_if]; simp (maxSteps:=9^9) (disch:=omega) only [BX, ↓reduceIte, nE, reduceCtorEq, BM, BD, nA, hx0, hx1, i1.len, i2.len, j1.len, j2.len, ints_len, u8s_len, k20, decide_eq_false g1, decide_eq_false g2, decide_eq_false g3, decide_eq_false g4, hv.frz])
  have hd : ∀ d ∈ l, d.ok ∧ d.small := fun d h => ⟨ha d h, (hf d h).small⟩
  refine (told_c hP _ hv hd (by omega)).mono ?_
  rintro _ W1 ⟨g, m, h, rfl, hG, hS, hE0⟩
  have hE : Ex W W1 := Ex.x0.trans hE0
  have gc : W1.get (rf W.nx 0) = some (.row [v1, v2, w1, w2]) := by rw [hE0.get _ (by simp [X_nx, rf]), X_get]; rfl
  have lc : rf W.nx 0 < W1.nx := by have := hE0.nx; simp only [X_nx, rf, lcs, List.length_nil] at this ⊢; omega
  have hTK := told_TK ha (by omega) l.length (lr _)
  rw [tkl] at hTK
  have hlen : (edL (buildP (toldR l).1 (toldR l).2)).length < 2 ^ 30 := by have := hTK.len; have := edL_le (buildP (toldR l).1 (toldR l).2); omega
  generalize buildP (toldR l).1 (toldR l).2 = P at hG hlen
  generalize nodesR (toldR l).1 = N at hG
  generalize rf W.nx 0 = rc at gc lc
  have en : eqNil 0 (.ptr g 0) .nilptr = some false := rfl
  have hed := edsV_S (edL P)
  have hek : ∀ e ∈ edL P, ekOk (ofEd e) := fun e he => hG.pk _ (edL_mem.1 he)
  rw [hE.cl.start]
  simp (maxSteps:=9^9) (disch:=omega) only [BS, ↓reduceIte, ]
  rw [e_seq]
  simp (maxSteps:=9^9) (disch:=omega) only [BS, BC, ↓reduceIte, ]
  refine pc (edges30_c hP _ (hG.ex ((Ex.refl hE.cl).X))) ?_
  simp (maxSteps:=9^9) (disch:=omega) only [BS, ↓reduceIte, nE]
  rw [e_seq, e_seq]
  simp (maxSteps:=9^9) (disch:=omega) only [BS, BC, ↓reduceIte, nE, BM, en]
  rw [guard_if]
  simp (maxSteps:=9^9) (disch:=omega) only [BS, ↓reduceIte, nE]
  rw [guard_if]
  simp (maxSteps:=9^9) (disch:=omega) only [BS, BC, cond_if, ↓reduceIte, nE, BD]
  rw [e_seq]
  have gX : ∀ l, (X W1 W1.nx l).get rc = some (.row [v1, v2, w1, w2]) := fun l => by rw [X_old lc]; exact gc
  have l0 : ∀ l (K : V → AW → Prop), sem E (.load true 2) [.ptr rc 0] (X W1 W1.nx l) K = K (.agg [v1, v2]) (X W1 W1.nx l) := fun l K => sem_load_row (gX l) rfl
  have l2 : ∀ l (K : V → AW → Prop), sem E (.load true 2) [.ptr rc 2] (X W1 W1.nx l) K = K (.agg [w1, w2]) (X W1 W1.nx l) := fun l K => sem_load_row (gX l) rfl
  refine awp_mono (Q := fun z A' W' => z = .normal ∧ ∃ ra rb, A' 1 = some (.int .u8 class_) ∧ A' 5 = some (.ptr rc 0) ∧ A' 7 = some (.ptr g 0) ∧ A' 8 = some (edsV (edL P)) ∧ A' 10 = some (.ptr ra 0) ∧ A' 11 = some (.ptr rb 0) ∧ Ex W1 W' ∧ W'.get ra = some (.row [v1, v2]) ∧ W'.get rb = some (.row [w1, w2])) _ ?_ ?_
  ·rintro _ A2 W2 ⟨rfl, ra, rb, z1, z5, z7, z8, z10, z11, hE2, ga, gb⟩
   show awp E _ _ A2 W2
   have gc2 := (hE2.get _ lc).trans gc
   have k0 : ∀ K : V → AW → Prop, sem E (.load true 2) [.ptr rc 0] W2 K = K (.agg [v1, v2]) W2 := fun K => sem_load_row gc2 rfl
   have k2 : ∀ K : V → AW → Prop, sem E (.load true 2) [.ptr rc 2] W2 K = K (.agg [w1, w2]) W2 := fun K => sem_load_row gc2 rfl
   have ka : ∀ K : V → AW → Prop, sem E (.load true 2) [.ptr ra 0] W2 K = K (.agg [v1, v2]) W2 := fun K => sem_load_row ga rfl
   have kb : ∀ K : V → AW → Prop, sem E (.load true 2) [.ptr rb 0] W2 K = K (.agg [w1, w2]) W2 := fun K => sem_load_row gb rfl
   have hG2 := hG.ex hE2
   have hF : (fun e => decide (ofEd e ∈ P)) = fun e => decide (e ∈ edL P) := funext fun e => decide_eq_decide.2 edL_mem.symm
   simp (maxSteps:=9^9) (disch:=omega) only [BS, e_seq, ↓reduceIte, nE, z1, z5, z7, z8, hx0, k0]
   refine pcall_go (by simp only [mcs, List.map_nil]; rfl) (isR_c hP _ hG2 i1 i2 a1 a2 (by omega) (by omega) class_) ?_
   simp (maxSteps:=9^9) (disch:=omega) only [BS, ↓reduceIte, nE, z10, ka]
   refine pcall_go (by simp only [mcs, List.map_nil, hed.frz]; rfl) (rIsC_c hP _ hed hek (by omega) i1 i2 a1 a2 (by omega) (by omega) class_) ?_
   rw [hF]
   simp (maxSteps:=9^9) (disch:=omega) only [BS, ↓reduceIte, nE, eqvT]
   have hss : ∀ (W : AW) (K : V → AW → Prop), sem E (.bin .eql) [.str (txtR a.1 a.2), .str (txtR a.1 a.2)] W K = K (.bool true) W := fun W K => eqSS rfl
   repeat (rw [guard_if]; simp (maxSteps:=9^9) (disch:=omega) only [BS, ↓reduceIte, nE, z5, hx0, k0])
   refine pcall_go rfl (cText2_c hP hd0 htab hB _ i1 i2 a1 a2 (by omega)) ?_
   simp (maxSteps:=9^9) (disch:=omega) only [BS]
   repeat (rw [guard_if]; simp (maxSteps:=9^9) (disch:=omega) only [BS, ↓reduceIte, nE, z10, ka])
   refine pcall_go rfl (rText2_c hP hd0 _ i1 i2 a1 a2 (by omega)) ?_
   simp (maxSteps:=9^9) (disch:=omega) only [BS]
   repeat (rw [guard_if]; simp (maxSteps:=9^9) (disch:=omega) only [BS, ↓reduceIte, nE, z5, hx0, hx1, k0, k2, hss])
   refine pcall_go rfl (cLess_c hP _ i1 i2 j1 j2 (by omega) (by omega) (by omega) (by omega)) ?_
   simp (maxSteps:=9^9) (disch:=omega) only [BS]
   repeat (rw [guard_if]; simp (maxSteps:=9^9) (disch:=omega) only [BS, ↓reduceIte, nE, z10, z11, ka, kb])
   refine pcall_go rfl (rLess_c hP _ i1 i2 j1 j2 (by omega) (by omega)) ?_
   simp (maxSteps:=9^9) (disch:=omega) only [BS]
   repeat (rw [guard_if]; simp (maxSteps:=9^9) (disch:=omega) only [BS, ↓reduceIte, nE, eqvT])
   refine pcall_go rfl (works_c hP hd0 _) ?_
   simp (maxSteps:=9^9) (disch:=omega) only [BS, BC, ↓reduceIte, nE]
   repeat (rw [guard_if]; simp (maxSteps:=9^9) (disch:=omega) only [BX, ↓reduceIte, nE, reduceCtorEq, BM, BD, nA, nL, nT, Nat.reduceMul, msV_cells, msV_one, lsV_cells, lsV_one, msV_frz, lsV_frz, z1, z5, z7, z8, z10, z11, hx0, hx1, k0, k2, ka, kb, eqvT, hss])
   exact ⟨_, rfl, _, W, .weak (weak_back hok rfl fun y hy => (hE.trans hE2).get y hy), lr _, rfl⟩
  ·simp (maxSteps:=9^9) (disch:=omega) only [BS, BC, ↓reduceIte, nE, BM, BD, nA, nL, nT, hx0, hx1, l0, l2, i1.one, i2.one, j1.one, j2.one]
   repeat' first
    | exact ⟨tt, rf W1.nx 0, rf W1.nx 1, tt, tt, tt, tt, rfl, rfl, (Ex.refl hE.cl).X, by rw [X_get]; rfl, by rw [X_get]; rfl⟩
    | exact ⟨tt, rf W1.nx 1, rf W1.nx 0, tt, tt, tt, tt, rfl, rfl, (Ex.refl hE.cl).X, by rw [X_get]; rfl, by rw [X_get]; rfl⟩
    | refine ⟨?_, ?_⟩
end Go.AL.S
namespace Go.AL
open Go Go.AL Go.Proofs
variable {E : Env}
theorem calls_inp0 {P : Program} {f : FuncId} {W : World} {vs : List V} {ws : List Value} (hr : RelL (S.gIn W) vs ws) (h : ACalls (S.Env.inp P { W with drawn := 0 }) f vs AW.empty fun Y _ => Y = .bool true) :
  Calls P f ws.toArray W fun e w' => e = .returned (.bool true) ∧ RowKit.Below W.heap.size W w' := by
 have hW : RelW (S.Env.inp P { W with drawn := 0 }) (S.gIn W) W AW.empty := (S.Env.inp_rel P { W with drawn := 0 }).grow ⟨⟨rfl, rfl, rfl, lr _, fun _ _ => rfl⟩, Nat.zero_le _⟩ (fun _ _ => rfl) (lr _)
 refine (h.2 (S.Env.inp_sound P _) _ _ ws hW hr).mono ?_
 rintro e w' ⟨v, γ', Y, W', rfl, _, _, h4, h5, rfl⟩
 cases h5
 have hb := h4.below.row
 exact ⟨rfl, ⟨hb.os, hb.tape, hb.output, hb.size, hb.block⟩⟩
end Go.AL
namespace Go.AL.S
open Go Go.AL Go.RowKit
mutual
def Sh.tyB (P : Program) : Sh → TypeId → Bool
 | .bool, t => (match P.underlying t with | some .bool => true | _ => false) && decide (P.cellsOf t = 1)
 | .int k, t => (match P.underlying t with | some (.int k') => decide (k' = k) | _ => false) && decide (P.cellsOf t = 1)
 | .sl e, t => (match P.underlying t with | some (.slice te) => e.tyB P te && decide (0 < e.n) && decide (0 < P.bytesOf te) | _ => false) && decide (P.cellsOf t = 1)
 | .st l, t => (match P.underlying t with | some (.struct fs) => decide (P.cellsOf t = Sh.nL l) && Sh.tyLB P l 0 fs.toList | _ => false)
def Sh.tyLB (P : Program) : List Sh → Nat → List Field → Bool
 | [], _, [] => true
 | s :: l, off, f :: r => decide (f.offset = off) && s.tyB P f.type && Sh.tyLB P l (off + s.n) r
 | _, _, _ => false
end
mutual
theorem Sh.ty_of {P : Program} : ∀ {s : Sh} {t : TypeId}, s.tyB P t = true → s.Ty P t
 | .bool, t, h => by
  simp only [Sh.tyB, Bool.and_eq_true, decide_eq_true_eq] at h
  refine ⟨?_, h.2⟩
  have h1 := h.1
  split at h1
  ·assumption
  ·cases h1
 | .int k, t, h => by
  simp only [Sh.tyB, Bool.and_eq_true, decide_eq_true_eq] at h
  refine ⟨?_, h.2⟩
  have h1 := h.1
  split at h1
  ·rename_i k' hk; rw [decide_eq_true_eq] at h1; rw [hk, h1]
  ·cases h1
 | .sl e, t, h => by
  simp only [Sh.tyB, Bool.and_eq_true, decide_eq_true_eq] at h
  have h1 := h.1
  split at h1
  ·rename_i te hk
   simp only [Bool.and_eq_true, decide_eq_true_eq] at h1
   exact ⟨te, hk, Sh.ty_of h1.1.1, h1.1.2, h.2, h1.2⟩
  ·cases h1
 | .st l, t, h => by
  simp only [Sh.tyB] at h
  split at h
  ·rename_i fs hk
   simp only [Bool.and_eq_true, decide_eq_true_eq] at h
   exact .inl ⟨fs, hk, h.1, Sh.tyL_of h.2⟩
  ·cases h
theorem Sh.tyL_of {P : Program} : ∀ {l : List Sh} {off : Nat} {fs : List Field}, Sh.tyLB P l off fs = true → Sh.TyL P l off fs
 | [], _, [], _ => rfl
 | s :: l, off, f :: r, h => by
  simp only [Sh.tyLB, Bool.and_eq_true, decide_eq_true_eq] at h
  exact ⟨f, r, rfl, h.1.1, Sh.ty_of h.1.2, Sh.tyL_of h.2⟩
 | [], _, _ :: _, h => by simp [Sh.tyLB] at h
 | _ :: _, _, [], h => by simp [Sh.tyLB] at h
end
theorem relL_app {γ : G} : ∀ {a b : List V} {l m : List Value}, RelL γ a l → RelL γ b m → RelL γ (a ++ b) (l ++ m)
 | [], _, _, _, h, h' => by rw [show _ = ([] : List Value) from h]; exact h'
 | x :: a, b, _, m, ⟨v, l', e, h1, h2⟩, h' => ⟨v, l' ++ m, by rw [e]; rfl, h1, relL_app h2 h'⟩
theorem relL_len {γ : G} : ∀ {a : List V} {l : List Value}, RelL γ a l → l.length = a.length
 | [], l, h => by obtain rfl : l = [] := h; rfl
 | x :: a, _, ⟨v, l', e, _, h2⟩ => by rw [e, lcs, lcs, relL_len h2]
theorem el_of {γ : G} {e : Sh} {ws : List V} {l : List Value} (h : e.Is ws) (hr : RelL γ ws l) : ∃ v : Value, v.cells.toList = l ∧ v.cells.size = e.n ∧ RelV γ (e.val ws) v := by
 have hl := (relL_len hr).trans h.len
 cases e with
 | st sh => exact ⟨.agg l.toArray, by simp [Value.cells], by simpa [Value.cells] using hl, l, rfl, hr⟩
 | bool =>
  obtain ⟨b, rfl⟩ := h
  obtain ⟨v, l', e, h1, h2⟩ := hr
  obtain rfl : l' = [] := h2
  have h1' : v = .bool b := h1
  subst h1' e
  exact ⟨_, rfl, rfl, rfl⟩
 | int k =>
  obtain ⟨n, rfl, hw⟩ := h
  obtain ⟨v, l', e, h1, h2⟩ := hr
  obtain rfl : l' = [] := h2
  have h1' : v = .int k n := h1
  subst h1' e
  exact ⟨_, rfl, rfl, rfl⟩
 | sl e' =>
  obtain ⟨x, xs, rfl, hs, _⟩ := h
  obtain ⟨v, l', e, h1, h2⟩ := hr
  obtain rfl : l' = [] := h2
  subst e
  have hc : v.cells = #[v] := by
   rcases hs with ⟨rfl, _⟩ | ⟨rfl, _⟩ | ⟨f, rfl⟩
   ·have h1' : v = .slice none 0 0 := h1
    subst h1'; rfl
   ·obtain ⟨a, rfl⟩ := h1; rfl
   ·obtain ⟨b, pre, l, post, sz, cap, _, _, rfl, _⟩ := h1; rfl
  exact ⟨v, by rw [hc], by rw [hc]; rfl, h1⟩
theorem relE_of {γ : G} {e : Sh} : ∀ (m : Nat) (l : List Value), l.length = m * e.n → (∀ i, i < m → ∃ ws, e.Is ws ∧ RelL γ ws ((l.drop (i * e.n)).take e.n)) →
  ∃ xs, xs.length = m ∧ RelE γ e.n xs l ∧ ∀ x ∈ xs, ∃ ws, e.Is ws ∧ x = e.val ws
 | 0, l, hl, _ => by
  have : l = [] := List.length_eq_zero_iff.1 (by omega)
  subst this
  exact ⟨[], rfl, rfl, by simp⟩
 | m + 1, l, hl, h => by
  obtain ⟨ws, h1, h2⟩ := h 0 (by omega)
  rw [Nat.zero_mul, List.drop_zero] at h2
  obtain ⟨v, hv1, hv2, hv3⟩ := el_of h1 h2
  have hl' : (l.drop e.n).length = m * e.n := by
   rw [List.length_drop, hl, Nat.add_mul]; omega
  obtain ⟨xs, x1, x2, x3⟩ := relE_of m (l.drop e.n) hl' fun i hi => by
   obtain ⟨ws, a, b⟩ := h (i + 1) (by omega)
   refine ⟨ws, a, ?_⟩
   rw [List.drop_drop]
   rwa [Nat.add_mul, Nat.one_mul, Nat.add_comm] at b
  refine ⟨e.val ws :: xs, by simp [x1], ⟨v, l.drop e.n, by rw [hv1, List.take_append_drop], hv2, hv3, x2⟩, ?_⟩
  intro x hx
  rcases List.mem_cons.1 hx with rfl | hx
  ·exact ⟨ws, h1, rfl⟩
  ·exact x3 x hx
section
variable {H : Type} {enc : TypeId × Value → H} {P : Program} {W : World}
theorem chunk_of {c : List Value} {a : Addr} {n : Nat} {cs : List Value} {o : Nat} (hc : ∀ i, W.cell? ⟨a.block, i, none⟩ = c[i]?) (hs : a.spot = none) (h : W.cells? 0 (a.add o) n = some cs) : (c.drop (a.off + o)).take n = cs := by
 obtain ⟨_, h2, h3⟩ := World.cells?_some h
 refine List.ext_getElem? fun i => ?_
 by_cases hi : i < n
 ·rw [List.getElem?_take_of_lt hi, List.getElem?_drop, ← h3 i hi, ← hc]
  congr 1
  have hb : ∀ (a : Addr) (m : Nat), a.spot = none → a.add m = ⟨a.block, a.off + m, none⟩ := by
   intro a m h
   unfold Addr.add
   split
   ·rename_i h0; subst h0; cases a; simp at h ⊢; exact h
   ·rfl
  rw [hb a o hs, hb _ i rfl, Nat.add_assoc]
 ·rw [List.getElem?_eq_none (by simp; omega), List.getElem?_eq_none (by omega)]
theorem wAll {e : TypeId} {p : Nat → Bool} : ∀ {l : List (DataW H)}, (DataW.weightsAll P e l).all p = true → ∀ d ∈ l, (d.weights P e).all p = true
 | [], _, _, h => by simp at h
 | x :: l, h, d, hd => by
  simp only [DataW.weightsAll, List.all_append, Bool.and_eq_true] at h
  rcases List.mem_cons.1 hd with rfl | hd
  ·exact h.1
  ·exact wAll h.2 d hd
theorem wEach {p : Nat → Bool} : ∀ {ts : List TypeId} {l : List (DataW H)}, (DataW.weightsEach P ts l).all p = true → ∀ (i : Nat) (t : TypeId) (d : DataW H), ts[i]? = some t → l[i]? = some d → (d.weights P t).all p = true
 | [], _, _, _, _, _, h, _ => by simp at h
 | _ :: _, [], _, _, _, _, _, h => by simp at h
 | t :: ts, x :: l, h, i, t', d, h1, h2 => by
  simp only [DataW.weightsEach, List.all_append, Bool.and_eq_true] at h
  cases i with
  | zero => simp at h1 h2; subst h1 h2; exact h.1
  | succ i => simp at h1 h2; exact wEach h.2 i t' d h1 h2
theorem decode : ∀ (fuel : Nat) (s : Sh) (t : TypeId) (cs : List Value) (x : DataW H × List MemPlace), s.Ty P t → (x.1.weights P t).all (· ≤ reachBytes) = true → DataW.trod enc P W 0 (fun _ => true) true fuel t cs = some x → ∃ vs, s.Is vs ∧ RelL (gIn W) vs cs := by
 intro fuel
 induction fuel with
 | zero => intro s t cs x _ _ h; simp [DataW.trod] at h
 | succ fuel ih =>
  intro s t cs x ht hwt h
  cases s with
  | bool =>
   obtain ⟨b, rfl, _⟩ := DataW.trod_bool ht.1 h
   exact ⟨[.bool b], ⟨b, rfl⟩, _, _, rfl, rfl, rfl⟩
  | int k =>
   obtain ⟨n, rfl, _, hw⟩ := DataW.trod_int ht.1 h
   exact ⟨[.int k n], ⟨n, rfl, hw⟩, _, _, rfl, rfl, rfl⟩
  | sl e =>
   obtain ⟨te, hu, hte, hn, hc, hby⟩ := ht
   have hce := hte.cells
   rcases DataW.trod_slice hu h with ⟨rfl, _⟩ | ⟨a, len, cap, elems, rest, n', hf, rfl, rfl, _, hlc, hcap, hel, he, hr, _⟩
   ·exact ⟨[.nilsl], ⟨.nilsl, [], rfl, .nil, by simp, by simp⟩, _, _, rfl, rfl, rfl⟩
   ·obtain rfl : fuel = n' := by omega
    rw [hce] at he hr
    simp only [DataW.weights, hu, List.all_cons, List.all_append, Bool.and_eq_true, decide_eq_true_eq, lmp] at hwt
    obtain ⟨hw1, hw2, _⟩ := hwt
    by_cases h0 : cap = 0
    ·obtain rfl : len = 0 := by omega
     subst h0
     exact ⟨[.slz], ⟨.slz, [], rfl, .inr (.inl ⟨rfl, rfl⟩), by simp, by simp⟩, _, _, rfl, ⟨a, rfl⟩, rfl⟩
    ·have h1 : ∃ cs0, W.cells? 0 (a.add 0) e.n = some cs0 := by
      by_cases hl0 : 0 < len
      ·have := he 0 hl0
       rw [Nat.zero_mul, gEg (by omega)] at this
       obtain ⟨cs0, q, _⟩ := Option.bind_eq_some_iff.1 this
       exact ⟨cs0, q⟩
      ·obtain rfl : len = 0 := by omega
       obtain ⟨r1, r2⟩ := hr rfl
       have := r2 0 (by omega)
       rw [Nat.zero_add, Nat.zero_mul, gEg (by omega)] at this
       obtain ⟨cs0, q, _⟩ := Option.bind_eq_some_iff.1 this
       exact ⟨cs0, q⟩
     obtain ⟨cs0, hcs0⟩ := h1
     obtain ⟨_, q2, q3⟩ := World.cells?_some hcs0
     have q4 := q3 0 hn
     rw [gEg (by omega)] at q4
     have q5 : W.cell? a = some (cs0[0]'(by omega)) := by simpa [Addr.add] using q4
     obtain ⟨c, c1, c2, c3, c4⟩ := gIn_con q5
     have hch : ∀ i, i < len → ∃ ws, e.Is ws ∧ RelL (gIn W) ws ((c.drop (a.off + i * e.n)).take e.n) := by
      intro i hi
      have := he i hi
      rw [gEg (by omega)] at this
      obtain ⟨csi, p1, p2⟩ := Option.bind_eq_some_iff.1 this
      rw [chunk_of c4 c2 p1]
      exact ih e te csi _ hte (wAll hw2 _ (List.mem_map.2 ⟨_, gmm _, rfl⟩)) p2
     have hlen : ((c.drop a.off).take (len * e.n)).length = len * e.n := by
      by_cases hl0 : 0 < len
      ·have := he (len - 1) (by omega)
       rw [gEg (by omega)] at this
       obtain ⟨csi, p1, p2⟩ := Option.bind_eq_some_iff.1 this
       have p3 := chunk_of c4 c2 p1
       have p4 := congrArg List.length p3
       rw [ltk, List.length_drop, (World.cells?_some p1).2.1] at p4
       have : (len - 1) * e.n + e.n = len * e.n := by rw [← Nat.succ_mul]; congr 1; omega
       rw [ltk, List.length_drop]
       omega
      ·have : len = 0 := by omega
       subst this; simp
     obtain ⟨xs, x1, x2, x3⟩ := relE_of (γ := gIn W) (e := e) len ((c.drop a.off).take (len * e.n)) hlen fun i hi => by
      obtain ⟨ws, w1, w2⟩ := hch i hi
      refine ⟨ws, w1, ?_⟩
      have : (((c.drop a.off).take (len * e.n)).drop (i * e.n)).take e.n = (c.drop (a.off + i * e.n)).take e.n := by
       rw [List.drop_take, List.take_take, List.drop_drop, Nat.min_eq_left]
       have : i * e.n + e.n ≤ len * e.n := by rw [← Nat.succ_mul]; exact Nat.mul_le_mul_right _ hi
       omega
      rw [this]; exact w2
     have h48 : len < 2 ^ 48 := by
      have h1 : reachBytes < 2 ^ 48 := by decide
      have h2 : (elems.length + rest.length) * 1 ≤ (elems.length + rest.length) * P.bytesOf te := Nat.mul_le_mul_left _ hby
      omega
     refine ⟨[.sl e.n false xs], ⟨.sl e.n false xs, xs, rfl, .mk, by omega, x3⟩, _, _, rfl, ?_, rfl⟩
     refine ⟨a.block, c.take a.off, (c.drop a.off).take (len * e.n), (c.drop a.off).drop (len * e.n), c.length, cap, ?_, x2, ?_, by omega, by simp, by omega⟩
     ·rw [List.append_assoc, List.take_append_drop, List.take_append_drop]; exact c1
     ·rw [x1, ltk, Nat.min_eq_left (by omega)]
      cases a; simp at c2; subst c2; rfl
  | st l =>
   have hall : ∀ (l : List Sh) (off : Nat) (fs : List Field), Sh.TyL P l off fs → (∀ f ∈ fs, ∃ y, (y.1.weights P f.type).all (· ≤ reachBytes) = true ∧ DataW.trod enc P W 0 (fun _ => true) true fuel f.type ((cs.drop f.offset).take (P.cellsOf f.type)) = some y) → off + Sh.nL l ≤ cs.length → ∃ vs, Sh.IsL l vs ∧ RelL (gIn W) vs ((cs.drop off).take (Sh.nL l)) := by
    intro l
    induction l with
    | nil => intro off fs hl _ _; exact ⟨[], rfl, by simp [Sh.nL, RelL]⟩
    | cons s l ihl =>
     intro off fs hl hf hlen
     obtain ⟨f, r, rfl, rfl, hs, hl'⟩ := hl
     obtain ⟨y, hyw, hy⟩ := hf f (by simp)
     rw [hs.cells] at hy
     obtain ⟨a, a1, a2⟩ := ih s f.type _ y hs hyw hy
     obtain ⟨b, b1, b2⟩ := ihl (f.offset + s.n) r hl' (fun g hg => hf g (by simp [hg])) (by simp only [Sh.nL] at hlen; omega)
     refine ⟨a ++ b, ⟨a, b, rfl, a1, b1⟩, ?_⟩
     have := relL_app a2 b2
     rw [← List.drop_drop, ← List.take_add] at this
     exact this
   rcases ht with ⟨fs, hu, hc, htl⟩ | ⟨n, e, te, rfl, hu, hc, htr⟩
   ·obtain ⟨xs, n', hf, rfl, hl, hxl, hx⟩ := DataW.trod_struct hu h
    obtain rfl : fuel = n' := by omega
    simp only [DataW.weights, hu] at hwt
    obtain ⟨vs, v1, v2⟩ := hall l 0 fs.toList htl (fun f hf => by
     obtain ⟨i, hi, rfl⟩ := List.mem_iff_getElem.1 hf
     have hi' : i < fs.size := by simpa using hi
     have := hx i fs[i] (by simp [hi'])
     rw [gEg (by omega)] at this
     exact ⟨_, wEach hwt i _ _ (by simp [hi']) (by simp [show i < xs.length by omega]; rfl), by simpa using this⟩) (by omega)
    rw [List.drop_zero, List.take_of_length_le (by omega)] at v2
    exact ⟨vs, v1, v2⟩
   ·obtain ⟨xs, n', hf, rfl, hl, hxl, hx⟩ := DataW.trod_array hu h
    obtain rfl : fuel = n' := by omega
    simp only [DataW.weights, hu] at hwt
    have hgo : ∀ (m i : Nat), i + m = n → ∃ vs, Sh.IsL (List.replicate m e) vs ∧ RelL (gIn W) vs ((cs.drop (i * e.n)).take (m * e.n)) := by
     intro m
     induction m with
     | zero => intro i _; exact ⟨[], rfl, by simp [RelL]⟩
     | succ m ihm =>
      intro i hi
      have hte : e.Ty P te := by
       obtain ⟨k, rfl⟩ : ∃ k, n = k + 1 := ⟨n - 1, by omega⟩
       exact htr.1
      have := hx i (by omega)
      rw [hte.cells, gEg (by omega)] at this
      obtain ⟨a, a1, a2⟩ := ih e te _ _ hte (wAll hwt _ (List.mem_map.2 ⟨_, gmm _, rfl⟩)) this
      obtain ⟨b, b1, b2⟩ := ihm (i + 1) (by omega)
      refine ⟨a ++ b, ⟨a, b, rfl, a1, b1⟩, ?_⟩
      have := relL_app a2 b2
      rw [Nat.add_mul, Nat.one_mul, ← List.drop_drop, ← List.take_add] at this
      rw [Nat.add_mul, Nat.one_mul, Nat.add_comm (m * e.n)]
      exact this
    have hnl : Sh.nL (List.replicate n e) = n * e.n := by
     clear hgo hx hxl hc hu htr
     induction n with
     | zero => simp [Sh.nL]
     | succ n ih => simp only [List.replicate_succ, Sh.nL, ih, Nat.succ_mul]; omega
    obtain ⟨vs, v1, v2⟩ := hgo n 0 (by omega)
    rw [Nat.zero_mul, List.drop_zero, List.take_of_length_le (by omega)] at v2
    exact ⟨vs, v1, v2⟩
end
end Go.AL.S
namespace Go.AL.S
open Go Go.AL
def shMi : Sh := .st [.bool, .int .u8, .int .u16]
def shDe : Sh := .st [.sl shMi, .sl (.sl (.int .u16)), .int .u8]
theorem wf_u8 {n : Int} (h : (Lit.int .u8 n).wf = true) : 0 ≤ n ∧ n < 256 := by
 simp [Lit.wf, IntKind.min, IntKind.max, IntKind.signed, IntKind.bits] at h; omega
theorem wf_u16 {n : Int} (h : (Lit.int .u16 n).wf = true) : 0 ≤ n ∧ n < 65536 := by
 simp [Lit.wf, IntKind.min, IntKind.max, IntKind.signed, IntKind.bits] at h; omega
theorem list_of {α : Type} {f : α → V} {p : α → Prop} : ∀ {xs : List V}, (∀ x ∈ xs, ∃ a, x = f a ∧ p a) → ∃ l : List α, xs = l.map f ∧ ∀ a ∈ l, p a
 | [], _ => ⟨[], rfl, by simp⟩
 | x :: xs, h => by
  obtain ⟨a, rfl, ha⟩ := h x (by simp)
  obtain ⟨l, rfl, hl⟩ := list_of (xs := xs) fun y hy => h y (by simp [hy])
  refine ⟨a :: l, rfl, fun b hb => ?_⟩
  rcases List.mem_cons.1 hb with rfl | hb
  ·exact ha
  ·exact hl b hb
theorem mi_of {ws : List V} (h : shMi.Is ws) : ∃ m : Mi, shMi.val ws = m.V ∧ m.ok := by
 obtain ⟨_, _, rfl, ⟨b, rfl⟩, _, _, rfl, ⟨k, rfl, hk⟩, _, _, rfl, ⟨n, rfl, hn⟩, rfl⟩ := h
 have h1 := wf_u8 hk
 have h2 := wf_u16 hn
 exact ⟨⟨b, k, n⟩, rfl, h1.1, h1.2, h2.1, h2.2⟩
theorem mis_of {ws : List V} (h : (Sh.sl shMi).Is ws) : ∃ v l, ws = [v] ∧ isMs v l ∧ ∀ m ∈ l, m.ok := by
 obtain ⟨v, xs, rfl, hs, _, hx⟩ := h
 obtain ⟨l, rfl, hl⟩ := list_of (f := Mi.V) (p := Mi.ok) fun x hxm => by
  obtain ⟨ws, h1, rfl⟩ := hx x hxm
  obtain ⟨m, h2, h3⟩ := mi_of h1
  exact ⟨m, h2, h3⟩
 exact ⟨v, l, rfl, hs, hl⟩
theorem ints_of {ws : List V} (h : (Sh.sl (.int .u16)).Is ws) : ∃ v o, ws = [v] ∧ isEl v o ∧ ∀ n ∈ nums o, 0 ≤ n ∧ n < 65536 := by
 obtain ⟨v, xs, rfl, hs, _, hx⟩ := h
 obtain ⟨l, rfl, hl⟩ := list_of (f := V.int .u16) (p := fun n => 0 ≤ n ∧ n < 65536) fun x hxm => by
  obtain ⟨ws, ⟨n, rfl, hn⟩, rfl⟩ := hx x hxm
  exact ⟨n, rfl, wf_u16 hn⟩
 rcases hs with ⟨rfl, _⟩ | ⟨rfl, _⟩ | ⟨f, rfl⟩
 ·exact ⟨_, none, rfl, .inl ⟨rfl, rfl⟩, by simp [nums]⟩
 ·exact ⟨_, some [], rfl, .inr (.inl ⟨rfl, rfl⟩), by simp [nums]⟩
 ·exact ⟨_, some l, rfl, .inr (.inr ⟨f, l, rfl, rfl⟩), hl⟩
theorem lists_of {ws : List V} (h : (Sh.sl (.sl (.int .u16))).Is ws) : ∃ v ls, ws = [v] ∧ isLs v ls ∧ ∀ o ∈ ls, ∀ n ∈ nums o, 0 ≤ n ∧ n < 65536 := by
 obtain ⟨v, xs, rfl, hs, _, hx⟩ := h
 have hgo : ∀ xs : List V, (∀ x ∈ xs, ∃ ws, (Sh.sl (.int .u16)).Is ws ∧ x = (Sh.sl (.int .u16)).val ws) → ∃ ls : List (Option (List Int)), xs.length = ls.length ∧ (∀ k (h : k < xs.length) (h' : k < ls.length), isEl xs[k] ls[k]) ∧ ∀ o ∈ ls, ∀ n ∈ nums o, 0 ≤ n ∧ n < 65536 := by
  intro xs
  induction xs with
  | nil => intro _; exact ⟨[], rfl, fun k h => by simp at h, by simp⟩
  | cons x xs ih =>
   intro h
   obtain ⟨ws, h1, rfl⟩ := h x (by simp)
   obtain ⟨v, o, rfl, h2, h3⟩ := ints_of h1
   obtain ⟨ls, l1, l2, l3⟩ := ih fun y hy => h y (by simp [hy])
   refine ⟨o :: ls, by simp [l1], fun k hk hk' => ?_, fun o' ho' => ?_⟩
   ·cases k with
    | zero => exact h2
    | succ k => exact l2 k (by simpa using hk) (by simpa using hk')
   ·rcases List.mem_cons.1 ho' with rfl | ho'
    ·exact h3
    ·exact l3 o' ho'
 obtain ⟨ls, l1, l2, l3⟩ := hgo xs hx
 exact ⟨v, ls, rfl, ⟨xs, hs, l1, l2⟩, l3⟩
theorem de_of {ws : List V} (h : shDe.Is ws) : ∃ d : De, shDe.val ws = d.V ∧ d.ok := by
 obtain ⟨ws1, _, rfl, h1, ws2, _, rfl, h2, _, _, rfl, ⟨w, rfl, hw⟩, rfl⟩ := h
 have hb := h2.bel (n := 0)
 obtain ⟨t, l, rfl, t1, t2⟩ := mis_of h1
 obtain ⟨r, ls, rfl, r1, r2⟩ := lists_of h2
 refine ⟨⟨t, l, r, ls, w⟩, rfl, t1, t2, r1, r2, ?_, wf_u8 hw⟩
 simpa [V.belL] using hb
theorem des_of {ws : List V} (h : (Sh.sl shDe).Is ws) : ∃ v, ∃ l : List De, ws = [v] ∧ isS 3 v (l.map De.V) ∧ (∀ d ∈ l, d.ok) ∧ l.length < 2 ^ 48 := by
 obtain ⟨v, xs, rfl, hs, hl, hx⟩ := h
 obtain ⟨l, rfl, hl'⟩ := list_of (f := De.V) (p := De.ok) fun x hxm => by
  obtain ⟨ws, h1, rfl⟩ := hx x hxm
  obtain ⟨a, h2, h3⟩ := de_of h1
  exact ⟨a, h2, h3⟩
 exact ⟨v, l, rfl, hs, hl', by simpa using hl⟩
def shCy : Sh := .st [.sl (.int .u16), .sl (.int .u8)]
def shC2 : Sh := .st (List.replicate 2 shCy)
theorem bytes_of {ws : List V} (h : (Sh.sl (.int .u8)).Is ws) : ∃ v, ∃ l : List Int, ws = [v] ∧ isS 1 v (u8s l) ∧ ∀ n ∈ l, 0 ≤ n ∧ n < 256 := by
 obtain ⟨v, xs, rfl, hs, _, hx⟩ := h
 obtain ⟨l, rfl, hl⟩ := list_of (f := V.int .u8) (p := fun n => 0 ≤ n ∧ n < 256) fun x hxm => by
  obtain ⟨ws, ⟨n, rfl, hn⟩, rfl⟩ := hx x hxm
  exact ⟨n, rfl, wf_u8 hn⟩
 exact ⟨v, l, rfl, hs, hl⟩
theorem cy_of {ws : List V} (h : shCy.Is ws) : ∃ v1 v2, ∃ a : List Int × List Int, ws = [v1, v2] ∧ isS 1 v1 (intsV a.1) ∧ isS 1 v2 (u8s a.2) ∧ (∀ x ∈ a.1, 0 ≤ x ∧ x < 65536) ∧ ∀ x ∈ a.2, 0 ≤ x ∧ x < 256 := by
 obtain ⟨w1, _, rfl, h1, w2, _, rfl, h2, rfl⟩ := h
 obtain ⟨v1, o, rfl, e1, b1⟩ := ints_of h1
 obtain ⟨v2, l, rfl, e2, b2⟩ := bytes_of h2
 exact ⟨v1, v2, (nums o, l), rfl, e1.isS, e2, b1, b2⟩
theorem c2_of {ws : List V} (h : shC2.Is ws) : ∃ v1 v2 w1 w2, ∃ a b : List Int × List Int, ws = [v1, v2, w1, w2] ∧ isS 1 v1 (intsV a.1) ∧ isS 1 v2 (u8s a.2) ∧ isS 1 w1 (intsV b.1) ∧ isS 1 w2 (u8s b.2) ∧ (∀ x ∈ a.1, 0 ≤ x ∧ x < 65536) ∧ ∀ x ∈ a.2, 0 ≤ x ∧ x < 256 := by
 obtain ⟨x1, _, rfl, h1, x2, _, rfl, h2, rfl⟩ := h
 obtain ⟨v1, v2, a, rfl, p1, p2, p3, p4⟩ := cy_of h1
 obtain ⟨w1, w2, b, rfl, q1, q2, _, _⟩ := cy_of h2
 exact ⟨v1, v2, w1, w2, a, b, rfl, p1, p2, q1, q2, p3, p4⟩
end Go.AL.S
