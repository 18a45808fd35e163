/- What the program's functions do, part 6. Conditions: none. -/
import Derived.Test.YtjkmnbdfpednfaaGreatDoorBe
open Nat renaming reduceEqDiff → nE, reduceLeDiff → nL, reduceAdd → nA, reduceLT → nT, le_refl → lr
open List renaming getElem?_eq_getElem → gEg, length_map → lmp, getElem_mem → gmm, length_append → lap, length_cons → lcs, mem_singleton → msg, append_nil → apn, mem_append → map', take_length → tkl, map_cons → mcs, map_append → mpp, mem_map → mmp, any_eq_true → aet, length_replicate → lrp, take_add_one → tao, length_take → ltk, mem_filter → mfl
set_option maxRecDepth 100000
set_option maxHeartbeats 4000000
namespace Go.AL.S
open Go Go.AL Go.AL.SE Go.Proofs
def c_reachesL_1 : AC := (.seq (.r [.m 21 11,.m 22 0,.u 23 (.len 1 0) 22,.b 24 (.bin .lss) 21 23] (.w 24 2)) (.seq (.block 3 (.r [.m 27 0,.m 28 11,.b 29 (.idxp 3) 27 28,.u 30 (.fld 2) 29,.u 31 (.load false 1) 30,.m 32 3,.b 33 (.bin .leq) 31 32,.m 34 33,.M 35 9 34 true,.M 36 0 34 true,.M 37 11 34 true,.B 38 (.idxp 3) 36 37 34 true,.U 39 (.fld 0) 38 34 true,.U 40 (.load false 1) 39 34 true,.B 41 (.lookup (false, [.i .u16]) (.int .i64 0) false) 35 40 34 true,.P 42 (.bin .gtr) [.t 41,.i 0] 34 true,.p 43 .pick [.t 34,.t 42,.F]] (.cond (.t 43) (.reg [.m 44 9,.m 45 0,.m 46 11,.b 47 (.idxp 3) 45 46,.u 48 (.fld 1) 47,.u 49 (.load false 1) 48,.b 50 (.lookup (false, [.i .u16]) (.int .i64 0) false) 44 49,.a 51 (.bin .add) 50 1,⟨none,.mupd (false, [.i .u16]), [.t 44,.t 49,.t 51], none⟩]) .skip))) (.reg [.m 25 11,.a 26 (.bin .add) 25 1,.m 11 26])))
def c_reachesL_0 : AC := (.seq (.r [.m 15 10,.m 16 0,.u 17 (.len 1 0) 16,.b 18 (.bin .leq) 15 17] (.w 18 0)) (.seq (.block 1 (.seq (.r [.v 11 (.int .i64 0)] (.block 2 (.loop c_reachesL_1))) (.r [.m 52 9,.m 53 2,.b 54 (.lookup (false, [.i .u16]) (.int .i64 0) false) 52 53,.a 55 (.bin .gtr) 54 0] (.cond (.t 55) (.r [.v 8 (.bool true)] .ret) .skip)))) (.reg [.m 19 10,.a 20 (.bin .add) 19 1,.m 10 20])))
def c_reachesL : AC := (.r [.v 8 (.bool false)] (.r [.p 12 .mkmap [],.m 13 1,⟨none,.mupd (false, [.i .u16]), [.t 12,.t 13,.c (.int .i64 1)], none⟩,.m 14 12,.m 9 14] (.seq (.r [.v 10 (.int .i64 0)] (.block 0 (.loop c_reachesL_0))) (.r [.v 8 (.bool false)] .ret))))
theorem ok_reachesLe : compF Tryz.prog Tryz.f13 ⟨false, false, []⟩ = some (c_reachesL, [.tmp 8], 56) := by kernel_rfl
variable {E : Env}
def leK (most : Int) (k : Int) : Bool := decide (k ≤ most)
theorem prs_take {L : List Ed} {ks : Int → Bool} {j : Nat} (h : j < L.length) : prs (L.take (j + 1)) ks = prs (L.take j) ks ++ (if ks L[j].kd = true then [(L[j].fr, L[j].to)] else []) := by
 unfold prs
 rw [tao, gEg h, Option.toList_some, List.filter_append, mpp]
 congr 1
 by_cases hk : ks L[j].kd = true <;> simp [hk]
theorem pass_snoc {L : List (Int × Int)} {e : Int × Int} {s : List Int} : passM (L ++ [e]) s = stepM (passM L s) e := by
 simp [passM]
theorem rch1_go (_ : E.P = Tryz.prog) {W : AW} {v : V} {L : List Ed} {S0 M0 : List Int} {most fr0 to0 : Int} {m c0 : Nat} {es0 : List En} {v10 : V} {B : Nat} (hv : isS 3 v (L.map Ed.V)) (hL : ∀ e ∈ L, ekOk (ofEd e)) (hLl : L.length < 2 ^ 22) (hg : W.get m = some (.map es0 c0)) (hM : MetOk es0 M0) (hS : ∀ x, x ∈ M0 ↔ x ∈ S0) (hC : Cl W) (hm : m < W.nx) (hB : M0.length ≤ B) (hB2 : B < 2 ^ 50) {A : AFr} {Q : Exit → AFr → AW → Prop}
  (a0 : A 0 = some v) (a1 : A 1 = some (.int .u16 fr0)) (a2 : A 2 = some (.int .u16 to0)) (a3 : A 3 = some (.int .u8 most)) (a9 : A 9 = some (.map m)) (a10 : A 10 = some v10) (a11 : A 11 = some (.int .i64 0))
  (hQ : ∀ A' W' es c M, A' 0 = some v → A' 1 = some (.int .u16 fr0) → A' 2 = some (.int .u16 to0) → A' 3 = some (.int .u8 most) → A' 9 = some (.map m) → A' 10 = some v10 → W'.get m = some (.map es c) → MetOk es M → (∀ x, x ∈ M ↔ x ∈ passM (prs L (leK most)) S0) → M.length ≤ B + L.length → W'.nx = W.nx → Cl W' → (∀ x, x ≠ m → W'.get x = W.get x) → Q (.exit 2) A' W') : awp E (.loop c_reachesL_1) Q A W := by
 rw [e_loop]
 refine alp (fun (σ : Nat × List Int × List En × Nat) A1 W1 => A1 0 = some v ∧ A1 1 = some (.int .u16 fr0) ∧ A1 2 = some (.int .u16 to0) ∧ A1 3 = some (.int .u8 most) ∧ A1 9 = some (.map m) ∧ A1 10 = some v10 ∧ A1 11 = some (.int .i64 σ.1) ∧ σ.1 ≤ L.length ∧ W1.get m = some (.map σ.2.2.1 σ.2.2.2) ∧ MetOk σ.2.2.1 σ.2.1 ∧ (∀ x, x ∈ σ.2.1 ↔ x ∈ passM (prs (L.take σ.1) (leK most)) S0) ∧ σ.2.1.length ≤ B + σ.1 ∧ W1.nx = W.nx ∧ Cl W1 ∧ ∀ x, x ≠ m → W1.get x = W.get x) (fun σ => L.length - σ.1) (0, M0, es0, c0)
  ⟨a0, a1, a2, a3, a9, a10, a11, Nat.zero_le _, hg, hM, hS, hB, rfl, hC, fun _ _ => rfl⟩ ?_
 rintro ⟨j, M, es, c⟩ A1 W1 ⟨g0, g1, g2, g3, g9, g10, g11, gj, gm, gM, gS, gB, gn, gC, gf⟩ _
 simp only at g11 gj gm gM gS gB
 by_cases hj : j < L.length
 ·have hat := ed_at hj
  obtain ⟨⟨f0, f1⟩, ⟨t0, t1⟩, _⟩ := hL _ (gmm hj)
  have hpt := prs_take (ks := leK most) hj
  generalize L[j] = e at hat f0 f1 t0 t1 hpt
  simp only [ofEd] at f0 f1 t0 t1
  have next : ∀ (M' : List Int) (es' : List En) (c' : Nat) (W' : AW), W'.get m = some (.map es' c') → MetOk es' M' → (∀ x, x ∈ M' ↔ x ∈ passM (prs (L.take (j + 1)) (leK most)) S0) → M'.length ≤ B + (j + 1) → W'.nx = W.nx → Cl W' → (∀ x, x ≠ m → W'.get x = W.get x) →
    ∃ s' : Nat × List Int × List En × Nat, (True ∧ True ∧ True ∧ True ∧ True ∧ True ∧ some (V.int .i64 (j + 1 : Nat)) = some (.int .i64 s'.1) ∧ s'.1 ≤ L.length ∧ W'.get m = some (.map s'.2.2.1 s'.2.2.2) ∧ MetOk s'.2.2.1 s'.2.1 ∧ (∀ x, x ∈ s'.2.1 ↔ x ∈ passM (prs (L.take s'.1) (leK most)) S0) ∧ s'.2.1.length ≤ B + s'.1 ∧ W'.nx = W.nx ∧ Cl W' ∧ ∀ x, x ≠ m → W'.get x = W.get x) ∧ L.length - s'.1 < L.length - j ∧ W.nx ≤ W'.nx :=
   fun M' es' c' W' q1 q2 q3 q4 q5 q6 q7 => ⟨(j + 1, M', es', c'), ⟨tt, tt, tt, tt, tt, tt, rfl, hj, q1, q2, q3, q4, q5, q6, q7⟩, by show L.length - (j + 1) < L.length - j; omega, by omega⟩
  have hlk : ∀ i : Int, 0 ≤ i → i < 65536 → ∀ K, sem E (.lookup (false, [.i .u16]) (.int .i64 0) false) [.map m, .int .u16 i] W1 K = K (.int .i64 (M.count i)) W1 := fun i h0 h1 K => by
   rw [m_lookup gm (met_keys gM h0 h1), met_look gM]
  by_cases hk : e.kd ≤ most
  ·have hk' : decide (e.kd ≤ most) = true := decide_eq_true hk
   by_cases hmem : e.fr ∈ M
   ·have hc : decide (((M.count e.fr : Nat) : Int) > 0) = true := by
     have := List.count_pos_iff.2 hmem
     simp; exact hmem
    have hw : IntKind.i64.wrap (((M.count e.to : Nat) : Int) + 1) = (M.count e.to : Int) + 1 := IntWalk.i64_in _ (by
     have := List.count_le_length (a := e.to) (l := M); omega)
    have hmu : ∀ K, sem E (.mupd (false, [.i .u16])) [.map m, .int .u16 e.to, .int .i64 ((M.count e.to : Int) + 1)] W1 K = K .undef (W1.put m (.map (mset (.int .u16 e.to) (.int .i64 ((M.count e.to : Int) + 1)) es c).1 (mset (.int .u16 e.to) (.int .i64 ((M.count e.to : Int) + 1)) es c).2)) := fun K => m_mset gm (met_keys gM t0 t1)
    have gM2 := met_bump gM t0 t1 c
    generalize (mset (.int .u16 e.to) (.int .i64 ((M.count e.to : Int) + 1)) es c).1 = es2 at hmu gM2
    generalize (mset (.int .u16 e.to) (.int .i64 ((M.count e.to : Int) + 1)) es c).2 = c2 at hmu
    simp (maxSteps:=9^9) (disch:=omega) only [BS, e_seq, cond_if, ↓reduceIte, nE, reduceCtorEq, BM, BD, nA, nL, c_reachesL_1, g0, g3, g11, hv.len, lmp, clt, hj, dT, hv.idx hat, ed_cells, hk']
    repeat (rw [guard_if]; simp (maxSteps:=9^9) (disch:=omega) only [BS, cond_if, ↓reduceIte, nE, reduceCtorEq, BM, BD, nA, nL, g0, g1, g2, g3, g9, g10, g11, hv.idx hat, ed_cells, hlk e.fr f0 f1, hc, hlk e.to t0 t1, hw, hmu, wadd1])
    refine next (M ++ [e.to]) es2 c2 _ put_at gM2 (fun x => ?_) (by rw [lap]; show M.length + 1 ≤ _; omega) gn (gC.put (by omega)) (fun x hx => by rw [put_ne hx]; exact gf x hx)
    rw [hpt, if_pos (show leK most e.kd = true from hk'), pass_snoc]
    have hfr := (gS e.fr).1 hmem
    unfold stepM
    by_cases ht : e.to ∈ passM (prs (L.take j) (leK most)) S0
    ·rw [if_neg (fun h => h.2 ht), map', gS, msg]
     exact ⟨fun h => h.elim id fun h => by rw [h]; exact ht, .inl⟩
    ·rw [if_pos ⟨hfr, ht⟩, map', map', gS]
   ·have hc : decide (((M.count e.fr : Nat) : Int) > 0) = false := by
     rw [List.count_eq_zero_of_not_mem hmem]; rfl
    simp (maxSteps:=9^9) (disch:=omega) only [BS, e_seq, cond_if, ↓reduceIte, nE, reduceCtorEq, BM, BD, nA, nL, c_reachesL_1, g0, g3, g11, hv.len, lmp, clt, hj, dT, hv.idx hat, ed_cells, hk']
    repeat (rw [guard_if]; simp (maxSteps:=9^9) (disch:=omega) only [BS, BC, cond_if, ↓reduceIte, nE, reduceCtorEq, BM, BD, nA, nL, g0, g1, g2, g3, g9, g10, g11, hv.idx hat, ed_cells, hlk e.fr f0 f1, hc, wadd1])
    refine next M es c _ gm gM (fun x => ?_) (by omega) gn gC gf
    rw [hpt, if_pos (show leK most e.kd = true from hk'), pass_snoc, gS, stepM, if_neg (fun h => hmem ((gS _).2 h.1))]
  ·have hk' : decide (e.kd ≤ most) = false := decide_eq_false hk
   simp (maxSteps:=9^9) (disch:=omega) only [BS, e_seq, cond_if, ↓reduceIte, nE, reduceCtorEq, BM, BD, nA, nL, c_reachesL_1, g0, g3, g11, hv.len, lmp, clt, hj, dT, hv.idx hat, ed_cells, hk']
   repeat (rw [guard_if]; simp (maxSteps:=9^9) (disch:=omega) only [BS, BC, cond_if, ↓reduceIte, nE, reduceCtorEq, BM, g0, g1, g2, g3, g9, g10, g11, wadd1])
   refine next M es c _ gm gM (fun x => ?_) (by omega) gn gC gf
   rw [hpt, if_neg (show ¬ leK most e.kd = true by simpa [leK] using hk), apn, gS]
 ·obtain rfl : j = L.length := by omega
  rw [tkl] at gS
  simp (maxSteps:=9^9) (disch:=omega) only [BX, ↓reduceIte, nE, reduceCtorEq, c_reachesL_1, g0, g11, hv.len, lmp, clt, hj, dF]
  exact hQ _ _ es c M g0 g1 g2 g3 g9 g10 gm gM gS gB gn gC gf
theorem reaches_c (hP : PE E) (W : AW) {v : V} {L : List Ed} {most fr to : Int} (hv : isS 3 v (L.map Ed.V)) (hL : ∀ e ∈ L, ekOk (ofEd e)) (hLl : L.length < 2 ^ 22) (hf : 0 ≤ fr ∧ fr < 65536) (ht : 0 ≤ to ∧ to < 65536) :
  ACalls E 13 [v, .int .u16 fr, .int .u16 to, .int .u8 most] W fun Y W' => W' = W ∧ ∃ b, Y = .bool b ∧ (b = true ↔ Rch (outE (prs L (leK most))) fr to) := by
 refine ACalls.of hP Tryz.func13 ok_reachesLe (by simp) fun _ hok => ?_
 have hl2 : L.length < 2 ^ 22 := hLl
 refine awp_start hok ?_
 have hM0 : MetOk [] [] := ⟨fun e he => (by cases he), fun i => rfl⟩
 have hg0 : (X W W.nx [.map [] 0]).get (rf W.nx 0) = some (.map [] 0) := by rw [X_get]; rfl
 have hmu : ∀ K, sem E (.mupd (false, [.i .u16])) [.map (rf W.nx 0), .int .u16 fr, .int .i64 1] (X W W.nx [.map [] 0]) K = K .undef ((X W W.nx [.map [] 0]).put (rf W.nx 0) (.map (mset (.int .u16 fr) (.int .i64 1) [] 0).1 (mset (.int .u16 fr) (.int .i64 1) [] 0).2)) := fun K => m_mset hg0 (met_keys hM0 hf.1 hf.2)
 have hM1 := met_bump hM0 hf.1 hf.2 0
 have r0 : rf W.nx 0 = W.nx := rfl
 simp (maxSteps:=9^9) (disch:=omega) only [BZ, ↓reduceIte, nE, BM, BD, nT, c_reachesL, hmu]
 obtain ⟨W1, hW1⟩ : ∃ W1, W1 = X W W.nx [.map (mset (.int .u16 fr) (.int .i64 1) [] 0).1 (mset (.int .u16 fr) (.int .i64 1) [] 0).2] := ⟨_, rfl⟩
 have g1 : W1.get (rf W.nx 0) = some (.map (mset (.int .u16 fr) (.int .i64 1) [] 0).1 (mset (.int .u16 fr) (.int .i64 1) [] 0).2) := by rw [hW1, X_get]; rfl
 have n1 : W1.nx = W.nx + 1 := by rw [hW1]; rfl
 have c1 : Cl W1 := by rw [hW1]; exact Cl.X
 have f1 : ∀ x, x < W.nx → W1.get x = W.get x := fun x hx => by rw [hW1]; exact X_old hx
 rw [← hW1]
 clear hW1
 have hM1' : MetOk (mset (.int .u16 fr) (.int .i64 1) [] 0).1 [fr] := hM1
 generalize (mset (.int .u16 fr) (.int .i64 1) [] 0).1 = es1 at g1 hM1'
 generalize (mset (.int .u16 fr) (.int .i64 1) [] 0).2 = k1 at g1
 rw [e_loop]
 refine alp (fun (σ : Nat × List Int × List En × Nat) A1 W2 => A1 0 = some v ∧ A1 1 = some (.int .u16 fr) ∧ A1 2 = some (.int .u16 to) ∧ A1 3 = some (.int .u8 most) ∧ A1 9 = some (.map (rf W.nx 0)) ∧ A1 10 = some (.int .i64 σ.1) ∧ σ.1 ≤ L.length + 1 ∧ W2.get (rf W.nx 0) = some (.map σ.2.2.1 σ.2.2.2) ∧ MetOk σ.2.2.1 σ.2.1 ∧ (∀ x, x ∈ σ.2.1 ↔ x ∈ roundsM (prs L (leK most)) fr σ.1) ∧ σ.2.1.length ≤ 1 + σ.1 * L.length ∧ (∀ r, r < σ.1 → to ∉ roundsM (prs L (leK most)) fr (r + 1)) ∧ W2.nx = W1.nx ∧ Cl W2 ∧ ∀ x, x < W.nx → W2.get x = W.get x) (fun σ => L.length + 1 - σ.1) (0, [fr], es1, k1)
  ⟨rfl, rfl, rfl, rfl, rfl, rfl, Nat.zero_le _, g1, hM1', fun x => by simp [roundsM], by simp, fun r hr => by omega, rfl, c1, f1⟩ ?_
 rintro ⟨r, M, es, c⟩ A1 W2 ⟨g0, g1', g2, g3, g9, g10, gr, gm, gM, gS, gl, gno, gn, gC, gf⟩ _
 simp only at g10 gr gm gM gS gl gno
 by_cases hr : r ≤ L.length
 ·have hr' : decide ((r : Int) ≤ ((L.length : Nat) : Int)) = true := by simp; omega
  have hrl : 1 + r * L.length < 2 ^ 45 := by
   have : r * L.length ≤ 2 ^ 22 * 2 ^ 22 := Nat.mul_le_mul (by omega) (by omega)
   omega
  simp (maxSteps:=9^9) (disch:=omega) only [BS, e_seq, cond_if, ↓reduceIte, nE, reduceCtorEq, c_reachesL_0, g0, g10, hv.len, lmp, hr', e_seq]
  refine rch1_go hP (B := 1 + r * L.length) hv hL hLl gm gM gS gC (by omega) gl (by omega) (v10 := .int .i64 r) tt tt tt tt tt tt tt ?_
  intro A' W3 es' c' M' u0 u1 u2 u3 u9 u10 um uM uS ul un uC uf
  have hlk : ∀ K, sem E (.lookup (false, [.i .u16]) (.int .i64 0) false) [.map (rf W.nx 0), .int .u16 to] W3 K = K (.int .i64 (M'.count to)) W3 := fun K => by
   rw [m_lookup um (met_keys uM ht.1 ht.2), met_look uM]
  have uS' : ∀ x, x ∈ M' ↔ x ∈ roundsM (prs L (leK most)) fr (r + 1) := uS
  by_cases hto : to ∈ M'
  ·have hc : decide (((M'.count to : Nat) : Int) > 0) = true := by
    have := List.count_pos_iff.2 hto
    simp; exact hto
   simp (maxSteps:=9^9) (disch:=omega) only [BX, ↓reduceIte, nE, u2, u9, hlk, hc]
   refine ⟨_, rfl, _, W, .weak (weak_back hok rfl fun x hx => by rw [uf x (by omega)]; exact gf x hx), lr _, rfl, true, rfl, ?_⟩
   simp only [true_iff]
   exact rounds_reach _ to ((uS' to).1 hto)
  ·have hc : decide (((M'.count to : Nat) : Int) > 0) = false := by
    rw [List.count_eq_zero_of_not_mem hto]; rfl
   simp (maxSteps:=9^9) (disch:=omega) only [BX, ↓reduceIte, nE, reduceCtorEq, u0, u1, u2, u3, u9, u10, hlk, hc, wadd1]
   refine ⟨(r + 1, M', es', c'), ⟨tt, tt, tt, tt, tt, tt, by show r + 1 ≤ L.length + 1; omega, um, uM, uS', ?_, fun r' hr' => ?_, by omega, uC, fun x hx => by rw [uf x (by omega)]; exact gf x hx⟩, by show L.length + 1 - (r + 1) < L.length + 1 - r; omega, by omega⟩
   ·show M'.length ≤ 1 + (r + 1) * L.length
    rw [Nat.add_mul]; omega
   ·by_cases e : r' = r
    ·rw [e]; exact fun h => hto ((uS' to).2 h)
    ·exact gno r' (by have : r' < r + 1 := hr'; omega)
 ·have hr' : decide ((r : Int) ≤ ((L.length : Nat) : Int)) = false := by simp; omega
  simp (maxSteps:=9^9) (disch:=omega) only [BX, ↓reduceIte, nE, reduceCtorEq, c_reachesL_0, g0, g10, hv.len, lmp, hr']
  refine ⟨_, rfl, _, W, .weak (weak_back hok rfl gf), lr _, rfl, false, rfl, ?_⟩
  simp only [Bool.false_eq_true, false_iff]
  intro h
  have hpl : (prs L (leK most)).length ≤ L.length := by
   rw [prs, lmp]; exact List.length_filter_le _ _
  exact gno (prs L (leK most)).length (by omega) (rounds_all h)
def c_lawC_0 : AC := (.seq (.r [.m 29 5,.m 30 0,.u 31 (.len 1 0) 30,.b 32 (.bin .lss) 29 31] (.w 32 0)) (.seq (.block 1 (.par (.step 1 (.m 36 0) (.step 2 (.m 37 5) (.step 0 (.u 35 (.load true 4) 3) (.step 3 (.b 38 (.idxp 5) 36 37) (.step 4 (.u 39 (.load true 5) 38) (.step 5 (.b 40 (.call 10) 35 39) .done)))))))) (.reg [.m 33 5,.a 34 (.bin .add) 33 1,.m 5 34])))
def c_lawC_2 : AC := (.seq (.r [.m 63 13,.u 64 (.load false 1) 8,.u 65 (.len 1 0) 64,.b 66 (.bin .lss) 63 65] (.w 66 6)) (.seq (.block 7 (.seq (.par (.step 1 (.m 70 13) (.step 5 (.m 74 11) (.step 0 (.u 69 (.load false 1) 8) (.step 2 (.b 71 (.idxp 3) 69 70) (.step 3 (.u 72 (.fld 2) 71) (.step 4 (.u 73 (.load false 1) 72) (.step 6 (.b 75 (.bin .eql) 73 74) (.step 7 (.m 76 75) (.step 10 (.M 79 13 76 true) (.step 15 (.M 84 13 76 true) (.step 19 (.M 88 11 76 true) (.step 8 (.U 77 (.load false 1) 8 76 true) (.step 9 (.U 78 (.load false 1) 8 76 true) (.step 11 (.B 80 (.idxp 3) 78 79 76 true) (.step 12 (.U 81 (.fld 1) 80 76 true) (.step 13 (.U 82 (.load false 1) 81 76 true) (.step 14 (.U 83 (.load false 1) 8 76 true) (.step 16 (.B 85 (.idxp 3) 83 84 76 true) (.step 17 (.U 86 (.fld 0) 85 76 true) (.step 18 (.U 87 (.load false 1) 86 76 true) (.step 20 (.P 89 (.call 13) [.t 77,.t 82,.t 87,.t 88] 76 true) (.step 21 (.p 90 .pick [.t 76,.t 89,.F]) .done))))))))))))))))))))))) (.cond (.t 90) (.reg [.m 91 10,.m 92 12,.b 93 (.bin .or) 91 92,.m 10 93]) .skip))) (.reg [.m 67 13,.a 68 (.bin .add) 67 1,.m 13 68])))
def c_lawC_1 : AC := (.seq (.r [.m 56 11,.p 57 (.bin .lss) [.t 56,.c (.int .u8 3)]] (.w 57 4)) (.seq (.block 5 (.r [.p 60 (.build [.int .u8 0,.int .u8 0,.int .u8 0] [(0, 1), (1, 1), (2, 1)]) [.c (.int .u8 1),.c (.int .u8 8),.c (.int .u8 16)],.m 61 11,.b 62 (.idxv 3 1 false) 60 61,.m 12 62] (.r [.v 13 (.int .i64 0)] (.block 6 (.loop c_lawC_2))))) (.reg [.m 58 11,.p 59 (.bin .add) [.t 58,.c (.int .u8 1)],.m 11 59])))
def c_lawC : AC := (.r [.v 2 (.bool false)] (.r [.p 15 (.call 7) [],.m 14 15,.u 16 (.ext 0) 14,.u 17 (.ext 1) 14,.p 3 (.alloc [.nilptr,.nilptr,.nilptr,.nilptr]) [],⟨none,.store 4, [.t 3,.t 16], none⟩,.m 4 17] (.seq (.r [.m 18 0,.u 19 (.call 8) 18,.u 20 (.un .not) 19,.m 21 20,.M 22 4 21 false,.U 23 (.un .not) 22 21 false,.p 24 .pick [.t 21,.T,.t 23]] (.cond (.t 24) (.r [.m 25 4,.m 26 25,.P 27 (.call 9) [] 26 true,.p 28 .pick [.t 26,.t 27,.F],.m 2 28] .ret) .skip)) (.seq (.r [.v 5 (.int .i64 0)] (.block 0 (.loop c_lawC_0))) (.r [.u 41 (.fld 0) 3,.u 42 (.load false 1) 41,.u 43 (.fld 1) 3,.u 44 (.load false 1) 43,.b 45 (.call 11) 42 44,.m 6 45] (.r [.m 46 6,.u 47 (.call 12) 46,.m 7 47] (.seq (.r [.m 48 7,.p 49 (.eqn false 3) [.t 48,.c (.nilfn)]] (.cond (.t 49) (.r [.v 2 (.bool false)] .ret) .skip)) (.r [.p 8 (.alloc [.nilsl]) []] (.seq (.r [.m 50 7] (.block 2 (.rangef (.t 50) [51] (.reg [.p 9 (.alloc [.int .u16 0,.int .u16 0,.int .u8 0]) [],⟨none,.store 3, [.t 9,.t 51], none⟩]) (.block 3 (.reg [.u 52 (.load false 1) 8,.u 53 (.load true 3) 9,.u 54 (.bslice 3 1 (.agg [.int .u16 0,.int .u16 0,.int .u8 0]) [0]) 53,.b 55 (.append 3 6) 52 54,⟨none,.store 1, [.t 8,.t 55], none⟩]))))) (.r [.v 10 (.int .u8 0)] (.seq (.r [.v 11 (.int .u8 0)] (.block 4 (.loop c_lawC_1))) (.r [.m 94 6,.u 95 (.call 14) 94,.m 96 10,.b 97 (.bin .eql) 95 96,.m 98 97,.P 99 (.call 9) [] 98 true,.p 100 .pick [.t 98,.t 99,.F],.m 2 100] .ret))))))))))))
theorem ok_lawCe : compF Tryz.prog Tryz.f3 ⟨false, false, []⟩ = some (c_lawC, [.tmp 2], 101) := by kernel_rfl
theorem bsE {W : AW} {K : V → AW → Prop} {a b c : Int} : sem E (.bslice 3 1 (.agg [.int .u16 0, .int .u16 0, .int .u8 0]) [0]) [.agg [.int .u16 a, .int .u16 b, .int .u8 c]] W K = K (.sl 3 true [(Ed.mk a b c).V]) W := by
 simp [sem, rsem, tsem, fillE, V.cells, Ed.V]
theorem bsE' {W : AW} {K : V → AW → Prop} {e : Ed} : sem E (.bslice 3 1 (.agg [.int .u16 0, .int .u16 0, .int .u8 0]) [0]) [.agg [.int .u16 e.fr, .int .u16 e.to, .int .u8 e.kd]] W K = K (.sl 3 true [e.V]) W := bsE
def kup (m : Nat) : List Int := (List.range (m + 1)).map Int.ofNat
def flM (m : Nat) : Nat := if m = 0 then 1 else if m = 1 then 8 else 16
theorem fl_lt (m : Nat) : flM m < 256 := by
 unfold flM
 split
 ·decide
 ·split <;> decide
def wantN (P : List Ek) (m : Nat) : Nat := flagN (decide (0 < m) && hitB P (kup 0) 0) (decide (1 < m) && hitB P (kup 1) 1) (decide (2 < m) && hitB P (kup 2) 2)
theorem want_lt (P : List Ek) (m : Nat) : wantN P m < 256 := flag_lt _ _ _
theorem want_up {P : List Ek} {m : Nat} (h : m < 3) : wantN P (m + 1) = wantN P m ||| (if hitB P (kup m) (m : Int) = true then flM m else 0) := by
 have : m = 0 ∨ m = 1 ∨ m = 2 := by omega
 rcases this with rfl | rfl | rfl <;> (simp only [wantN]; generalize hitB P (kup 0) 0 = a; generalize hitB P (kup 1) 1 = b; generalize hitB P (kup 2) 2 = c; cases a <;> cases b <;> cases c <;> rfl)
theorem prs_kup {L : List Ed} (hL : ∀ e ∈ L, ekOk (ofEd e)) (m : Nat) : prs L (leK m) = prs L (kin (kup m)) := by
 unfold prs
 congr 1
 refine List.filter_congr fun e he => ?_
 have hk : 0 ≤ e.kd := (hL e he).c.1
 rw [Bool.eq_iff_iff]
 simp only [leK, kin, kup, decide_eq_true_eq, aet, mmp, List.mem_range]
 constructor
 ·intro h; exact ⟨e.kd, ⟨e.kd.toNat, by omega, by simp; omega⟩, rfl⟩
 ·rintro ⟨x, ⟨n, hn, rfl⟩, h⟩; simp at h; omega
theorem want_go (hP : PE E) {W : AW} {P : List Ek} {h8 v7 v6 : V} {b8 lo m w0 : Nat} (_ : m < 3) (hw0 : w0 < 256) (hP2 : ∀ x ∈ P, ekOk x) (hl : (edL P).length < 2 ^ 22) (g8 : W.get b8 = some (.row [h8])) (hn : nowG W h8 ((edL P).map Ed.V) 3 lo) {A : AFr} {Q : Exit → AFr → AW → Prop}
  (a6 : A 6 = some v6) (a7 : A 7 = some v7) (a8 : A 8 = some (.ptr b8 0)) (a10 : A 10 = some (.int .u8 w0)) (a11 : A 11 = some (.int .u8 m)) (a12 : A 12 = some (.int .u8 (flM m))) (a13 : A 13 = some (.int .i64 0))
  (hQ : ∀ A', A' 6 = some v6 → A' 7 = some v7 → A' 8 = some (.ptr b8 0) → A' 10 = some (.int .u8 ((w0 ||| (if hitB P (kup m) (m : Int) = true then flM m else 0) : Nat) : Int)) → A' 11 = some (.int .u8 m) → Q (.exit 6) A' W) : awp E (.loop c_lawC_2) Q A W := by
 have hek : ∀ e ∈ edL P, ekOk (ofEd e) := fun e he => hP2 _ (edL_mem.1 he)
 have hfl : flM m < 256 := fl_lt m
 have hs := nowGS_S 3 ((edL P).map Ed.V)
 rw [e_loop]
 refine alp (fun (σ : Nat × Bool) A1 W1 => A1 6 = some v6 ∧ A1 7 = some v7 ∧ A1 8 = some (.ptr b8 0) ∧ A1 10 = some (.int .u8 ((w0 ||| (if σ.2 = true then flM m else 0) : Nat) : Int)) ∧ A1 11 = some (.int .u8 m) ∧ A1 12 = some (.int .u8 (flM m)) ∧ A1 13 = some (.int .i64 σ.1) ∧ σ.1 ≤ (edL P).length ∧ (σ.2 = true ↔ ∃ e ∈ (edL P).take σ.1, hitT P (kup m) m e) ∧ W1 = W) (fun σ => (edL P).length - σ.1) (0, false)
  ⟨a6, a7, a8, by rw [a10]; simp, a11, a12, a13, Nat.zero_le _, by simp, rfl⟩ ?_
 rintro ⟨i, b⟩ A1 W1 ⟨g6, g7, gb, g10, g11, g12, g13, gi, gbb, rfl⟩ _
 simp only at g10 g13 gi gbb
 by_cases hi : i < (edL P).length
 ·have hat := ed_at hi
  obtain ⟨⟨f0, f1⟩, ⟨t0, t1⟩, k0, k1⟩ := hek _ (gmm hi)
  have htk : (edL P).take (i + 1) = (edL P).take i ++ [(edL P)[i]] := by
   rw [tao, gEg hi]; rfl
  generalize (edL P)[i] = e at hat f0 f1 t0 t1 k0 k1 htk
  simp only [ofEd] at f0 f1 t0 t1 k0 k1
  have hre := fun W => reaches_c (E := E) hP W (v := nowGS 3 ((edL P).map Ed.V)) (L := edL P) (most := m) hs hek hl ⟨t0, t1⟩ ⟨f0, f1⟩
  have next : ∀ b' : Bool, (b' = true ↔ b = true ∨ hitT P (kup m) m e) → (i + 1 ≤ (edL P).length ∧ (b' = true ↔ ∃ e ∈ (edL P).take (i + 1), hitT P (kup m) m e) ∧ True) ∧ (edL P).length - (i + 1) < (edL P).length - i ∧ W1.nx ≤ W1.nx := fun b' hb' => by
   refine ⟨⟨hi, ?_, tt⟩, by omega, lr _⟩
   rw [hb', gbb, htk]
   simp only [map', msg]
   constructor
   ·rintro (⟨x, h1, h2⟩ | h)
    ·exact ⟨x, .inl h1, h2⟩
    ·exact ⟨e, .inr rfl, h⟩
   ·rintro ⟨x, h1 | rfl, h2⟩
    ·exact .inl ⟨x, h1, h2⟩
    ·exact .inr h2
  by_cases hk : e.kd = m
  ·have hk' : (e.kd == (m : Int)) = true := by simp [hk]
   simp (maxSteps:=9^9) (disch:=omega) only [BX, ↓reduceIte, nE, BM, BD, nA, nL, c_lawC_2, gb, g8, g11, g13, hn.len, lmp, clt, hi, dT, hn.idx' hat, ed_cells, hk']
   repeat (rw [guard_if]; simp (maxSteps:=9^9) (disch:=omega) only [BS, BC, ↓reduceIte, nE, BM, BD, nA, nL, g8, gb, g13, g11, hn.idx' hat, ed_cells, hn.frz])
   refine (hre W1).mono ?_
   rintro _ _ ⟨rfl, c, rfl, hc⟩
   rw [prs_kup hek] at hc
   cases c with
   | true =>
    have hor := bitor8 (w0 ||| (if b = true then flM m else 0)) (flM m) (Nat.or_lt_two_pow (n := 8) hw0 (by split; exact hfl; decide)) hfl
    simp (maxSteps:=9^9) (disch:=omega) only [BS, cond_if, ↓reduceIte, nE, g10, g12, g13, sem_or hor, wadd1]
    refine ⟨(i + 1, true), ⟨tt, tt, tt, ?_, tt, tt, tt, (next true (by simp; exact .inr ⟨hk, hc.1 rfl⟩)).1⟩, (next true (by simp; exact .inr ⟨hk, hc.1 rfl⟩)).2⟩
    cases b <;> simp [Nat.or_assoc]
   | false =>
    simp (maxSteps:=9^9) (disch:=omega) only [BS, BC, cond_if, ↓reduceIte, nE, g10, g12, g13, wadd1]
    refine ⟨(i + 1, b), ⟨tt, tt, tt, tt, tt, tt, tt, (next b ?_).1⟩, (next b ?_).2⟩ <;> exact ⟨.inl, fun h => h.elim id fun h => (by cases hc.2 h.2)⟩
  ·have hk' : (e.kd == (m : Int)) = false := by simp [hk]
   simp (maxSteps:=9^9) (disch:=omega) only [BX, ↓reduceIte, nE, BM, BD, nA, nL, c_lawC_2, gb, g8, g11, g13, hn.len, lmp, clt, hi, dT, hn.idx' hat, ed_cells, hk']
   repeat (rw [guard_if]; simp (maxSteps:=9^9) (disch:=omega) only [BS, BC, cond_if, ↓reduceIte, nE, BM, gb, g13, g11])
   simp (maxSteps:=9^9) (disch:=omega) only [g10, g12, wadd1]
   refine ⟨(i + 1, b), ⟨tt, tt, tt, tt, tt, tt, tt, (next b ?_).1⟩, (next b ?_).2⟩ <;> exact ⟨.inl, fun h => h.elim id fun h => (hk h.1).elim⟩
 ·obtain rfl : i = (edL P).length := by omega
  rw [tkl, ← hitB_iff] at gbb
  simp (maxSteps:=9^9) (disch:=omega) only [BX, ↓reduceIte, nE, BM, c_lawC_2, gb, g8, g13, hn.len, lmp, clt, hi, dF]
  refine hQ _ g6 g7 gb ?_ g11
  have : b = hitB P (kup m) m := by rw [Bool.eq_iff_iff]; exact gbb
  rw [← this]; exact g10
theorem ac_load {W : AW} {K : V → AW → Prop} {a : Ac} : sem E (.load true 5) [.cptr a.V.cells] W K = K a.V W := rfl
theorem ac_frz {W : AW} {a : Ac} : W.frz a.V = a.V := rfl
theorem kup_all : kup 0 = [0] ∧ kup 1 = [0, 1] ∧ kup 2 = [0, 1, 2] := ⟨rfl, rfl, rfl⟩
theorem want_end (s : Str) (o : Ods) : wantN (buildP s o) 3 = cycN s o := by
 simp only [wantN, cycN, kup_all.1, kup_all.2.1, kup_all.2.2]; rfl
theorem wants_go (hP : PE E) {W : AW} {P : List Ek} {h8 v7 v6 : V} {b8 lo : Nat} (hP2 : ∀ x ∈ P, ekOk x) (hl : (edL P).length < 2 ^ 22) (g8 : W.get b8 = some (.row [h8])) (hn : nowG W h8 ((edL P).map Ed.V) 3 lo) {A : AFr} {Q : Exit → AFr → AW → Prop}
  (a6 : A 6 = some v6) (a7 : A 7 = some v7) (a8 : A 8 = some (.ptr b8 0)) (a10 : A 10 = some (.int .u8 0)) (a11 : A 11 = some (.int .u8 0))
  (hQ : ∀ A', A' 6 = some v6 → A' 10 = some (.int .u8 (wantN P 3)) → Q (.exit 4) A' W) : awp E (.loop c_lawC_1) Q A W := by
 rw [e_loop]
 refine alp (fun (m : Nat) A1 W1 => A1 6 = some v6 ∧ A1 7 = some v7 ∧ A1 8 = some (.ptr b8 0) ∧ A1 10 = some (.int .u8 (wantN P m)) ∧ A1 11 = some (.int .u8 m) ∧ m ≤ 3 ∧ W1 = W) (fun m => 3 - m) 0
  ⟨a6, a7, a8, a10, a11, by omega, rfl⟩ ?_
 rintro m A1 W1 ⟨g6, g7, gb, g10, g11, gm, rfl⟩ _
 by_cases hm : m < 3
 ·have hm' : decide ((m : Int) < 3) = true := by simp; omega
  have hix : ([V.int .u8 1, .int .u8 8, .int .u8 16])[m]? = some (.int .u8 (flM m)) := by
   have : m = 0 ∨ m = 1 ∨ m = 2 := by omega
   rcases this with rfl | rfl | rfl <;> rfl
  have hw : IntKind.u8.wrap ((m : Int) + 1) = ((m + 1 : Nat) : Int) := by
   have : m = 0 ∨ m = 1 ∨ m = 2 := by omega
   rcases this with rfl | rfl | rfl <;> rfl
  simp (maxSteps:=9^9) (disch:=omega) only [BS, e_seq, cond_if, ↓reduceIte, nE, BM, BD, nA, nL, c_lawC_1, g11, hm', e_seq]
  rw [m_idxv, if_pos ⟨by omega, by omega⟩, partV_f, show ((m : Int).toNat * 1) = m by omega, hix, optK_some]
  simp (maxSteps:=9^9) (disch:=omega) only [BS, e_seq, ↓reduceIte, e_seq]
  refine want_go hP (w0 := wantN P m) hm (want_lt P m) hP2 hl g8 hn g6 g7 gb g10 g11 tt tt ?_
  intro A' u6 u7 ub u10 u11
  rw [← want_up hm] at u10
  simp (maxSteps:=9^9) (disch:=omega) only [BS, ↓reduceIte, nE, u6, u7, ub, u10, u11, hw]
  exact ⟨m + 1, ⟨tt, tt, tt, tt, tt, hm, tt⟩, by omega, lr _⟩
 ·obtain rfl : m = 3 := by omega
  simp (maxSteps:=9^9) (disch:=omega) only [BX, ↓reduceIte, c_lawC_1, g11, show decide (((3 : Nat) : Int) < 3) = false from rfl]
  exact hQ _ g6 g10
theorem lawC_c (hP : PE E) (W : AW) {v : V} {l : List Ac} (hv : isS 5 v (l.map Ac.V)) (ha : ∀ a ∈ l, a.ok) (hl : l.length < 2 ^ 48) :
  ACalls E 3 [v] W fun Y _ => Y = .bool true := by
 refine ACalls.of hP Tryz.func3 ok_lawCe (by simp) fun _ hok => ?_
 refine awp_start hok ?_
 simp (maxSteps:=9^9) (disch:=omega) only [BZ, c_lawC]
 refine (fresh_c hP _).mono ?_
 rintro _ W1 ⟨F, p, ra, rw, q, rfl, hB⟩
 have hst := X_start hok
 rw [← hst] at hB
 rw [hB.cl.start]
 simp (maxSteps:=9^9) (disch:=omega) only [BZ, ↓reduceIte, nE, reduceCtorEq, BM, BD, nA, nL, nT, ]
 have hE1 : Ex W1 (X W1 W1.nx [.row [.ptr p 0, .ptr q 0, .ptr F 0, .ptr (F + 1) 0]]) := (Ex.refl hB.cl).X
 have hB1 := hB.ex hE1
 have g4 : (X W1 W1.nx [.row [.ptr p 0, .ptr q 0, .ptr F 0, .ptr (F + 1) 0]]).get (rf W1.nx 0) = some (.row [.ptr p 0, .ptr q 0, .ptr F 0, .ptr (F + 1) 0]) := by rw [X_get]; rfl
 have r0 : rf W1.nx 0 = W1.nx := rfl
 have l1 := hB.lt
 have l2 := hB.nx
 have n2 : (X W1 W1.nx [.row [.ptr p 0, .ptr q 0, .ptr F 0, .ptr (F + 1) 0]]).nx = W1.nx + 1 := rfl
 obtain ⟨W2, hW2⟩ : ∃ W2, W2 = X W1 W1.nx [.row [.ptr p 0, .ptr q 0, .ptr F 0, .ptr (F + 1) 0]] := ⟨_, rfl⟩
 rw [← hW2] at hB1 g4 n2 ⊢
 clear hW2
 have keep : ∀ {Wa Wb : AW}, FrB Wa Wb F p ra rw q → W1.nx < Wa.nx → Wa.get (rf W1.nx 0) = some (.row [.ptr p 0, .ptr q 0, .ptr F 0, .ptr (F + 1) 0]) → Wb.get (rf W1.nx 0) = some (.row [.ptr p 0, .ptr q 0, .ptr F 0, .ptr (F + 1) 0]) := fun hF hx hg => by
  rw [hF.get _ (by omega) (by omega) (by omega) (by omega) (by omega) (by omega) (by omega) (fun cs => by rw [hg]; simp)]; exact hg
 rw [hv.frz]
 refine (few_c hP _ hv ha hl).mono ?_
 rintro _ _ ⟨rfl, b, rfl, hb⟩
 cases b with
 | false =>
  simp (maxSteps:=9^9) (disch:=omega) only [BS, ↓reduceIte, BD, ]
  repeat (rw [guard_if]; simp (maxSteps:=9^9) (disch:=omega) only [BX, ↓reduceIte, nE, BM, ])
  refine pc (awake_c hP _) ?_
  simp (maxSteps:=9^9) (disch:=omega) only [BS, BC, ↓reduceIte, nE, ]
  repeat (rw [guard_if]; simp (maxSteps:=9^9) (disch:=omega) only [BX, ↓reduceIte, nE, reduceCtorEq, BM, BD, nA, nL, nT, Nat.reduceMul, msV_cells, msV_one, lsV_cells, lsV_one, msV_frz, lsV_frz, ])
  exact ⟨_, rfl, _, W, .weak (weak_back hok rfl fun x hx => hB1.sx.nw.ex.get x hx), lr _, rfl⟩
 | true =>
  obtain ⟨hl60, hsm⟩ := hb rfl
  simp (maxSteps:=9^9) (disch:=omega) only [BS, ↓reduceIte, BD, ]
  repeat (rw [guard_if]; simp (maxSteps:=9^9) (disch:=omega) only [BX, ↓reduceIte, nE, BD, ])
  rw [e_loop]
  refine alp (fun (k : Nat) A1 Wa => A1 0 = some v ∧ A1 3 = some (.ptr (rf W1.nx 0) 0) ∧ A1 5 = some (.int .i64 k) ∧ k ≤ l.length ∧ W1.nx < Wa.nx ∧ Wa.get (rf W1.nx 0) = some (.row [.ptr p 0, .ptr q 0, .ptr F 0, .ptr (F + 1) 0]) ∧ Bt W F p ra rw q Wa (runG ([], os0) (l.take k)).1 (runG ([], os0) (l.take k)).2 (8 * k)) (fun k => l.length - k) 0
   ⟨rfl, rfl, rfl, Nat.zero_le _, by omega, g4, hB1⟩ ?_
  rintro k A1 Wa ⟨g0, g3, g5, gk, gn, gr, gB⟩ gW
  by_cases hk : k < l.length
  ·have hat : (l.map Ac.V)[k]? = some (l[k]).V := by simp [hk]
   have hak := ha _ (gmm hk)
   have hsk := hsm _ (gmm hk)
   have hsn := run_snoc (x := ([], os0)) hk
   generalize l[k] = a at hat hak hsk hsn
   have hact := act_c (E := E) hP Wa gB (by omega) hak hsk
   simp (maxSteps:=9^9) (disch:=omega) only [BX, ↓reduceIte, nE, reduceCtorEq, BM, BD, nA, nL, c_lawC_0, g0, g3, g5, gr, hv.len, lmp, clt, hk, dT, hv.idx hat, ac_load, ac_frz]
   refine hact.mono ?_
   rintro _ Wb ⟨rfl, b1, b2⟩
   simp (maxSteps:=9^9) (disch:=omega) only [BS, ↓reduceIte, nE, reduceCtorEq, g5, wadd1]
   have hnb := b2.nx
   refine ⟨k + 1, ⟨g0, g3, rfl, hk, by omega, keep b2 gn gr, by rw [hsn]; exact b1⟩, by omega, by omega⟩
  ·obtain rfl : k = l.length := by omega
   rw [List.take_of_length_le (by omega)] at gB
   generalize runG ([], os0) l = so at gB
   obtain ⟨s, o⟩ := so
   simp only at gB
   have hso := gB.sx.nw.st.ok
   have hnx := gB.sx.nw.ex.nx
   have hpl := buildP_len hso gB.sx.od
   simp (maxSteps:=9^9) (disch:=omega) only [BX, ↓reduceIte, nE, reduceCtorEq, BM, BD, c_lawC_0, g0, g3, g5, gr, hv.len, lmp, clt, hk, dF]
   refine (build_c hP _ gB.sx.nw.st gB.sx.od).mono ?_
   rintro _ Wg ⟨gg, gm, hh, rfl, hG, hEg⟩
   rw [hEg.cl.start]
   simp (maxSteps:=9^9) (disch:=omega) only [BZ, ↓reduceIte, ]
   refine (edges_c hP _ gg).mono ?_
   rintro _ W3 ⟨q2, rfl, hq2, hqn2, hE3⟩
   rw [hE3.cl.start]
   simp (maxSteps:=9^9) (disch:=omega) only [BX, ↓reduceIte, nE, BM, BD, ]
   rw [← hEg.cl.start] at hE3
   obtain ⟨W0, hW0⟩ : ∃ W0, W0 = X W3 W3.nx [.row [.nilsl]] := ⟨_, rfl⟩
   rw [← hW0]
   have hE10 : Ex W3 W0 := by rw [hW0]; exact .x0
   have hn0 : W0.nx = W3.nx + 1 := by rw [hW0]; rfl
   have r3 : rf W3.nx 0 = W3.nx := rfl
   have hc5 : W0.get (rf W3.nx 0) = some (.row [.nilsl]) := by rw [hW0, X_get]; rfl
   clear hW0
   have hE0 := (hEg.trans hE3).trans hE10
   have hG0 := hG.ex (hE3.trans hE10)
   have hn1 := hE3.nx
   have hng := hEg.nx
   have hl' := edL_lt hG
   refine range_edges hP (q := q2) (lo := Wa.nx) (P := buildP s o) (N := nodesR s) rfl ((hE10.get _ hqn2).trans hq2) (by omega) hE0.cl hG0 (fun i W2 => Cl W2 ∧ W0.nx < W2.nx ∧ (∀ x, x < W0.nx → x ≠ rf W3.nx 0 → W2.get x = W0.get x) ∧ ∃ h, W2.get (rf W3.nx 0) = some (.row [h]) ∧ nowG W2 h (((edL (buildP s o)).take i).map Ed.V) 3 W0.nx) ?_ ?_ ?_ ?_
   ·intro W2 hE hn
    exact ⟨hE.cl, hn, fun x hx _ => hE.get x hx, .nilsl, by rw [hE.get _ (by omega)]; exact hc5, .inl ⟨rfl, rfl⟩⟩
   ·exact fun i W2 h => ⟨h.1, h.2.1⟩
   ·rintro i hi W2 W2' ⟨j0, j1, j2, h5, j3, j4⟩ hE2 hlp
    have htk : ((edL (buildP s o)).take (i + 1)).map Ed.V = ((edL (buildP s o)).take i).map Ed.V ++ [((edL (buildP s o))[i]).V] := by
     rw [tao, gEg hi, mpp]; rfl
    have hlk : (((edL (buildP s o)).take i).map Ed.V).length = i := by simp; omega
    generalize (edL (buildP s o))[i] = e at htk
    have hn2 := hE2.nx
    have k5 := (hE2.get _ (show rf W3.nx 0 < W2.nx by omega)).trans j3
    have j4' := j4.to hE2.nx fun r _ hr _ => hE2.get r hr
    refine awp_startC hE2.cl ?_
    simp (maxSteps:=9^9) (disch:=omega) only [BS, BC, ↓reduceIte, nE, BM, BD, nA, nL, nT, Ed.V, hlp]
    refine ⟨tt, ?_⟩
    have k5' : (X (W2'.put W0.nx (.loop .busy none)) W2'.nx [.row [.int .u16 e.fr, .int .u16 e.to, .int .u8 e.kd]]).get (rf W3.nx 0) = some (.row [h5]) := by rw [X_old (by omega), put_ne (by omega)]; exact k5
    simp (maxSteps:=9^9) (disch:=omega) only [BS, BC, ↓reduceIte, nE, BM, put_ne, k5, bsE']
    refine app_now (lo := W0.nx) (j4'.to (by simp only [X_nx, rf]; omega) fun r h1 h2 ⟨ys, hy⟩ => by rw [X_old h2, put_ne (by rintro rfl; rw [hlp] at hy; cases hy)]) Cl.X (by simp only [X_nx, rf]; omega) (by decide) rfl (by rw [hlk]; omega) ?_
    intro h' Wc gN gC gn' gg1 gg2
    simp only [X_nx, rf, lcs, List.length_nil] at gn'
    have k3 : Wc.get (rf W3.nx 0) = some (.row [h5]) := by rw [gg2 _ (by omega)]; exact k5'
    have kl : Wc.get W0.nx = some (.loop .busy none) := by
     rw [gg1 W0.nx (by simp only [X_nx, rf]; omega) (fun ys => by rw [X_old (by omega), put_at]; simp), X_old (by omega), put_at]
    simp (maxSteps:=9^9) (disch:=omega) only [BS, ↓reduceIte, nE, BM, BD, nL, gN.cells1.1, gN.cells1.2, k3]
    refine ⟨tt, by rw [put_ne (by omega)]; exact kl, (gC.put (by omega)).put (by rw [put_nx]; omega), by simp only [put_nx]; omega, fun x hx hx5 => ?_, h', ?_, ?_⟩
    ·rw [put_ne (by omega), put_ne hx5, gg2 x hx, X_old (by omega), put_ne (by omega), hE2.get x (by omega)]
     exact j2 x hx hx5
    ·first | (rw [put_at]; done) | (rw [put_ne (by omega), put_at])
    ·rw [htk]
     refine gN.to (by simp only [put_nx]; exact lr _) fun r h1 h2 ⟨ys, hy⟩ => ?_
     rw [put_ne (by rintro rfl; rw [kl] at hy; cases hy), put_ne (by omega)]
   ·rintro W2 ⟨j0, j1, j2, h5, j3, j4⟩ hlp
    rw [tkl] at j4
    have k5 : (W2.put W0.nx (.loop .exhausted none)).get (rf W3.nx 0) = some (.row [h5]) := by rw [put_ne (by omega)]; exact j3
    have j5 := j4.to (W' := W2.put W0.nx (.loop .exhausted none)) (by rw [put_nx]; exact lr _) fun r h1 h2 ⟨ys, hy⟩ => put_ne (by rintro rfl; rw [hlp] at hy; cases hy)
    have kg : ∀ x, x < W0.nx → x ≠ rf W3.nx 0 → (W2.put W0.nx (.loop .exhausted none)).get x = W0.get x := fun x hx hx3 => by
     rw [put_ne (by omega)]; exact j2 x hx hx3
    have kn : (W2.put W0.nx (.loop .exhausted none)).nx = W2.nx := put_nx
    generalize W2.put W0.nx (.loop .exhausted none) = Wz at k5 j5 kg kn
    have hlg := hG0.lg
    have hlm := hG0.lm
    have lge := hG.gg
    have lme := hG.gm
    have lg1 := hG.lg
    have lm1 := hG.lm
    have hGz : Gr Wz gg gm hh (buildP s o) (nodesR s) Wa.nx := ⟨(kg _ hlg (by omega)).trans hG0.hg, (kg _ hlm (by omega)).trans hG0.hm, hG.now.to (by omega) fun r h1 h2 _ => (kg r (by omega) (by omega)).trans ((hE3.trans hE10).get r h2), by omega, by omega, lge, lme, hG.pk, hG.pl, hG.nl⟩
    simp (maxSteps:=9^9) (disch:=omega) only [BS, e_seq, e_seq]
    refine wants_go hP (P := buildP s o) hG.pk (by have := edL_le (buildP s o); omega) k5 j5 tt tt tt tt tt ?_
    intro A' u6 u10
    rw [want_end] at u10
    simp (maxSteps:=9^9) (disch:=omega) only [BZ, ↓reduceIte, u6]
    refine pc (cyc_c29 hP _ hso hGz) ?_
    have hbe : ((((cycN s o : Nat) : Int)) == ((cycN s o : Nat) : Int)) = true := by simp
    simp (maxSteps:=9^9) (disch:=omega) only [BS, ↓reduceIte, nE, u10, hbe]
    repeat (rw [guard_if]; simp (maxSteps:=9^9) (disch:=omega) only [BS, BC, ↓reduceIte])
    refine pc (awake_c hP _) ?_
    simp (maxSteps:=9^9) (disch:=omega) only [BS, BC, ↓reduceIte, nE, ]
    refine ⟨_, rfl, _, W, .weak (weak_back hok rfl fun x hx => ?_), lr _, rfl⟩
    have hx' : x < W.nx := hx
    rw [kg x (by omega) (by omega), hE0.get x (by omega)]
    exact gB.sx.nw.ex.get x hx'
end Go.AL.S
namespace Go.AL.S
open Go Go.AL
def shMi : Sh := .st [.bool, .int .u8, .int .u16]
def shAc : Sh := .st [.int .u8, .int .u8, .int .u16, .sl shMi, .sl (.sl (.int .u16))]
theorem wf_u8 {n : Int} (h : (Lit.int .u8 n).wf = true) : 0 ≤ n ∧ n < 256 := by
 simp [Lit.wf, IntKind.min, IntKind.max, IntKind.signed, IntKind.bits] at h; omega
theorem wf_u16 {n : Int} (h : (Lit.int .u16 n).wf = true) : 0 ≤ n ∧ n < 65536 := by
 simp [Lit.wf, IntKind.min, IntKind.max, IntKind.signed, IntKind.bits] at h; omega
theorem list_of {α : Type} {f : α → V} {p : α → Prop} : ∀ {xs : List V}, (∀ x ∈ xs, ∃ a, x = f a ∧ p a) → ∃ l : List α, xs = l.map f ∧ ∀ a ∈ l, p a
 | [], _ => ⟨[], rfl, by simp⟩
 | x :: xs, h => by
  obtain ⟨a, rfl, ha⟩ := h x (by simp)
  obtain ⟨l, rfl, hl⟩ := list_of (xs := xs) fun y hy => h y (by simp [hy])
  refine ⟨a :: l, rfl, fun b hb => ?_⟩
  rcases List.mem_cons.1 hb with rfl | hb
  ·exact ha
  ·exact hl b hb
theorem mi_of {ws : List V} (h : shMi.Is ws) : ∃ m : Mi, shMi.val ws = m.V ∧ m.ok := by
 obtain ⟨_, _, rfl, ⟨b, rfl⟩, _, _, rfl, ⟨k, rfl, hk⟩, _, _, rfl, ⟨n, rfl, hn⟩, rfl⟩ := h
 have h1 := wf_u8 hk
 have h2 := wf_u16 hn
 exact ⟨⟨b, k, n⟩, rfl, h1.1, h1.2, h2.1, h2.2⟩
theorem mis_of {ws : List V} (h : (Sh.sl shMi).Is ws) : ∃ v l, ws = [v] ∧ isMs v l ∧ ∀ m ∈ l, m.ok := by
 obtain ⟨v, xs, rfl, hs, _, hx⟩ := h
 obtain ⟨l, rfl, hl⟩ := list_of (f := Mi.V) (p := Mi.ok) fun x hxm => by
  obtain ⟨ws, h1, rfl⟩ := hx x hxm
  obtain ⟨m, h2, h3⟩ := mi_of h1
  exact ⟨m, h2, h3⟩
 exact ⟨v, l, rfl, hs, hl⟩
theorem ints_of {ws : List V} (h : (Sh.sl (.int .u16)).Is ws) : ∃ v o, ws = [v] ∧ isEl v o ∧ ∀ n ∈ nums o, 0 ≤ n ∧ n < 65536 := by
 obtain ⟨v, xs, rfl, hs, _, hx⟩ := h
 obtain ⟨l, rfl, hl⟩ := list_of (f := V.int .u16) (p := fun n => 0 ≤ n ∧ n < 65536) fun x hxm => by
  obtain ⟨ws, ⟨n, rfl, hn⟩, rfl⟩ := hx x hxm
  exact ⟨n, rfl, wf_u16 hn⟩
 rcases hs with ⟨rfl, _⟩ | ⟨rfl, _⟩ | ⟨f, rfl⟩
 ·exact ⟨_, none, rfl, .inl ⟨rfl, rfl⟩, by simp [nums]⟩
 ·exact ⟨_, some [], rfl, .inr (.inl ⟨rfl, rfl⟩), by simp [nums]⟩
 ·exact ⟨_, some l, rfl, .inr (.inr ⟨f, l, rfl, rfl⟩), hl⟩
theorem lists_of {ws : List V} (h : (Sh.sl (.sl (.int .u16))).Is ws) : ∃ v ls, ws = [v] ∧ isLs v ls ∧ ∀ o ∈ ls, ∀ n ∈ nums o, 0 ≤ n ∧ n < 65536 := by
 obtain ⟨v, xs, rfl, hs, _, hx⟩ := h
 have hgo : ∀ xs : List V, (∀ x ∈ xs, ∃ ws, (Sh.sl (.int .u16)).Is ws ∧ x = (Sh.sl (.int .u16)).val ws) → ∃ ls : List (Option (List Int)), xs.length = ls.length ∧ (∀ k (h : k < xs.length) (h' : k < ls.length), isEl xs[k] ls[k]) ∧ ∀ o ∈ ls, ∀ n ∈ nums o, 0 ≤ n ∧ n < 65536 := by
  intro xs
  induction xs with
  | nil => intro _; exact ⟨[], rfl, fun k h => by simp at h, by simp⟩
  | cons x xs ih =>
   intro h
   obtain ⟨ws, h1, rfl⟩ := h x (by simp)
   obtain ⟨v, o, rfl, h2, h3⟩ := ints_of h1
   obtain ⟨ls, l1, l2, l3⟩ := ih fun y hy => h y (by simp [hy])
   refine ⟨o :: ls, by simp [l1], fun k hk hk' => ?_, fun o' ho' => ?_⟩
   ·cases k with
    | zero => exact h2
    | succ k => exact l2 k (by simpa using hk) (by simpa using hk')
   ·rcases List.mem_cons.1 ho' with rfl | ho'
    ·exact h3
    ·exact l3 o' ho'
 obtain ⟨ls, l1, l2, l3⟩ := hgo xs hx
 exact ⟨v, ls, rfl, ⟨xs, hs, l1, l2⟩, l3⟩
theorem ac_of {ws : List V} (h : shAc.Is ws) : ∃ a : Ac, shAc.val ws = a.V ∧ a.ok := by
 obtain ⟨_, _, rfl, ⟨w, rfl, hw⟩, _, _, rfl, ⟨c, rfl, hc⟩, _, _, rfl, ⟨i, rfl, hi⟩, ws3, _, rfl, h3, ws4, _, rfl, h4, rfl⟩ := h
 have hb := h4.bel (n := 0)
 obtain ⟨t, l, rfl, t1, t2⟩ := mis_of h3
 obtain ⟨r, ls, rfl, r1, r2⟩ := lists_of h4
 refine ⟨⟨w, c, i, t, l, r, ls⟩, rfl, wf_u8 hw, wf_u8 hc, wf_u16 hi, t1, r1, t2, r2, ?_⟩
 simpa [V.belL] using hb
theorem acs_of {ws : List V} (h : (Sh.sl shAc).Is ws) : ∃ v, ∃ l : List Ac, ws = [v] ∧ isS 5 v (l.map Ac.V) ∧ (∀ a ∈ l, a.ok) ∧ l.length < 2 ^ 48 := by
 obtain ⟨v, xs, rfl, hs, hl, hx⟩ := h
 obtain ⟨l, rfl, hl'⟩ := list_of (f := Ac.V) (p := Ac.ok) fun x hxm => by
  obtain ⟨ws, h1, rfl⟩ := hx x hxm
  obtain ⟨a, h2, h3⟩ := ac_of h1
  exact ⟨a, h2, h3⟩
 exact ⟨v, l, rfl, hs, hl', by simpa using hl⟩
end Go.AL.S
