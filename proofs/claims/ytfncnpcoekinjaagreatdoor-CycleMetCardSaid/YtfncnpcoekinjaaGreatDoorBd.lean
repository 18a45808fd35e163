/- What the program's functions do, part 4. Conditions: none. -/
import Derived.Test.YtfncnpcoekinjaaGreatDoorBc
open Nat renaming reduceEqDiff → nE, reduceLeDiff → nL, reduceAdd → nA, reduceLT → nT, le_refl → lr
open List renaming getElem?_eq_getElem → gEg, length_map → lmp, getElem_mem → gmm, length_append → lap, length_cons → lcs, mem_singleton → msg, append_nil → apn, mem_append → map', take_length → tkl, map_cons → mcs, map_append → mpp, mem_map → mmp, any_eq_true → aet, length_replicate → lrp, take_add_one → tao, length_take → ltk, mem_filter → mfl
set_option maxRecDepth 100000
set_option maxHeartbeats 4000000
namespace Go.AL.S
open Go Go.AL Go.Proofs
variable {E : Env}
theorem slH.slr {W : AW} {h : V} {xs : List V} {lo : Nat} (hn : slH W h xs lo) (hx : 0 < xs.length) : ∃ r cs, h = .slr r 0 xs.length 1 ∧ W.get r = some (.vec 1 (xs ++ cs)) ∧ lo ≤ r ∧ r < W.nx := by
 rcases hn with ⟨rfl, rfl⟩ | ⟨r, cs, h1, h2, h3, h4⟩
 ·simp at hx
 ·exact ⟨r, cs, h3, h4, h1, h2⟩
theorem S6 (hP : PE E) {W : AW} {n lo rs rn bn : Nat} {nv hw ht he : V} {gs : List (Nat × List Nat)} {s : TS} {i lw mt : Nat} {wtv : Bool} {gv : Int} (h : Sw n lo nv rs rn hw ht he gs s W) (hbn : W.get bn = some (.row [.int .i64 (mt : Int), .int .i64 (lw : Int), .bool wtv, .int .i64 gv])) (hn : n < 2 ^ 30) (hwn : ∀ j ∈ s.wtg, j < n) (htl : s.wtg.length ≤ n) (hgl : gs.length ≤ 2 ^ 30)
  (hiw : lw = mt → i ∈ s.wtg) {A : AFr} {Q : Exit → AFr → AW → Prop} (a0 : A 0 = some (.ptr rs 0)) (a2 : A 2 = some (.int .i64 (i : Int))) (a3 : A 3 = some (.ptr bn 0))
  (hret : lw ≠ mt → ∀ A', Q .ret A' W)
  (hq : lw = mt → ∀ A' W' a b g ht' he' gs', s.wtg = a ++ i :: b → g.Perm (i :: b) → Sw n lo nv rs rn hw ht' he' gs' { s with wtg := a, wt := clrW s.wt (i :: b), ended := s.ended ++ [g] } W' → gs'.length = gs.length + 1 → W.nx ≤ W'.nx → (∀ x, x < lo → W'.get x = W.get x) → Q .normal A' W') : awp E (tailS c_leaveS 4) Q A W := by
 simp only [tailS, c_leaveS]
 by_cases hlm : lw = mt
 ·have hb : ((lw : Int) != (mt : Int)) = false := by subst hlm; simp
  obtain ⟨a, b, hab⟩ := List.append_of_mem (hiw hlm)
  -- the first place where it stands
  obtain ⟨a, b, hab, hna⟩ : ∃ a b, s.wtg = a ++ i :: b ∧ i ∉ a := by
   have key : ∀ l : List Nat, i ∈ l → ∃ a b, l = a ++ i :: b ∧ i ∉ a := by
    intro l
    induction l with
    | nil => intro h; cases h
    | cons x l ih =>
     intro hm
     by_cases e : x = i
     ·exact ⟨[], l, by rw [e]; rfl, by simp⟩
     ·obtain ⟨a, b, h1, h2⟩ := ih ((List.mem_cons.1 hm).resolve_left fun e' => e e'.symm)
      exact ⟨x :: a, b, by rw [h1]; rfl, fun hm => (List.mem_cons.1 hm).elim (fun e' => e e'.symm) h2⟩
   exact key _ (hiw hlm)
  have hlen : s.wtg.length = a.length + (i :: b).length := by rw [hab]; simp
  have hpos : 0 < (i :: b).length := by simp
  have hib : ∀ j ∈ i :: b, j < n := fun j hj => hwn j (by rw [hab]; exact List.mem_append_right _ hj)
  obtain ⟨rt, ct, rfl, gt, t1, t2⟩ := h.wtg.slr (by rw [An]; omega)
  rw [An] at *
  have hidx := idxS_c hP W (i := i) gt (by omega) hab hna
  have hcl := cloneS_c hP W gt (by omega) hab hpos
  have hsub : s.wtg.length - a.length = (i :: b).length := by omega
  obtain ⟨B, hB⟩ : ∃ B, B = i :: b := ⟨_, rfl⟩
  rw [← hB] at hlen hpos hib hcl hsub
  have l1 := h.rsl
  have l2 := h.rnl
  simp (disch:=omega) only [BX, ↓reduceIte, nE, reduceCtorEq, BM, BD, a0, a2, a3, hbn, hb, h.row]
  refine pc hidx ?_
  simp (disch:=omega) only [BZ, ↓reduceIte, nE, reduceCtorEq, BM, BD, a0, h.row, slcT, hsub]
  refine hcl.mono ?_
  rintro Y W1 ⟨rfl, hW1⟩
  have x1 : W1.nx = W.nx + 1 := by rw [hW1]; rfl
  have x2 : ∀ y, y < W.nx → W1.get y = W.get y := fun y hy => by rw [hW1]; exact Ak hy
  have x3 : W1.get W.nx = some (.vec 1 (natsV B)) := by rw [hW1]; exact Ay
  have x4 : Cl W1 := fun r hr => by rw [x1] at hr; rw [hW1, Ci, if_neg (by omega)]; exact h.cl r (by omega)
  clear hW1
  have h1 := h.to x4 (by omega) fun y _ hy => x2 y hy
  simp (disch:=omega) only [BS, Am, ↓reduceIte]
  refine clr_go hP (z := W.nx) (v5 := .int .i64 (a.length : Nat)) h1 x3 (by omega) hib (by omega) tt tt tt tt tt tt ?_
  intro A2 W2 b0 b5 b6 h2 n2 z2 f2
  obtain ⟨s2, hs2⟩ : ∃ s2 : TS, s2 = { s with wt := clrW s.wt B } := ⟨_, rfl⟩
  rw [← hs2] at h2
  have y1 : s2.way = s.way := by rw [hs2]
  have y2 : s2.wtg = s.wtg := by rw [hs2]
  have y3 : s2.cnt = s.cnt := by rw [hs2]
  have y4 : s2.ended = s.ended := by rw [hs2]
  simp (disch:=omega) only [BZ, ↓reduceIte, nE, reduceCtorEq, BM, BD, nA, nL, b0, b5, b6, h2.row, slcS, Hn, Xj, y3]
  have hwt2 := h2.wtg
  obtain ⟨_, _, ct2, e2, gt2⟩ := hwt2.rlt rfl
  have hw3 : slH W2 (.slr rt 0 a.length 1) (natsV a) lo := .inr ⟨rt, natsV B ++ ct2, t1, by omega, by rw [An], by rw [gt2, y2, hab, ← hB]; simp [natsV]⟩
  have h3 := h2.putr (ht' := .slr rt 0 a.length 1) (s' := { s2 with wtg := a }) (lr _) h2.cl (fun _ _ _ _ _ => rfl) h2.way hw3 h2.eds (fun g hg => .inl hg) h2.eg (fun _ => rfl) h2.d1 h2.d2 h2.d3
  obtain ⟨W3, hW3⟩ : ∃ W3, W3 = W2.put rs (.row [nv, .slr rn 0 n 4, hw, .slr rt 0 a.length 1, he, .int .i64 (s.cnt : Int)]) := ⟨_, rfl⟩
  have h3 : Sw n lo nv rs rn hw (.slr rt 0 a.length 1) he gs { s2 with wtg := a } W3 := by rw [hW3, ← y3]; exact h3
  rw [← hW3]
  have zr : W.nx ≠ rs := by omega
  have z3 : W3.get W.nx = some (.vec 1 (natsV B)) := by rw [hW3, put_ne zr]; exact z2
  have n3 : W3.nx = W2.nx := by rw [hW3]; rfl
  have f3 : ∀ x, x < lo → W3.get x = W.get x := fun x hx => by rw [hW3, put_ne (by omega), f2 x hx, x2 x (by omega)]
  clear hW3
  refine (sortI_c hP W3 z3 hpos (by omega)).mono ?_
  rintro Y W4 ⟨rfl, g, hg, hW4⟩
  have hgl' := hg.length_eq
  have z4 : W4.get W.nx = some (.vec 1 (natsV g)) := by rw [hW4]; exact put_at
  have n4 : W4.nx = W3.nx := by rw [hW4]; rfl
  have f4 : ∀ x, x ≠ W.nx → W4.get x = W3.get x := fun x hx => by rw [hW4]; exact put_ne hx
  have c4 : Cl W4 := by rw [hW4]; exact h3.cl.put (by omega)
  clear hW4
  have q1 := h.way.rne W.nx (lr _)
  have q3 := h.eds.rne W.nx (lr _)
  have q2 : refH (.slr rt 0 a.length 1) ≠ some W.nx := fun e => by have : rt = W.nx := Option.some.inj e; omega
  have q4 : ∀ g ∈ gs, g.1 ≠ W.nx := fun g hg => by have := (h.grp g hg).2.1; omega
  have h4 := h3.but c4 (by omega) z3 q1 q2 q3 q4 fun x _ _ hx => f4 x hx
  simp (disch:=omega) only [BS, BC, ↓reduceIte, nE, reduceCtorEq, BM, BD, b0, b6, h4.row, bsS]
  rw [show B.length = g.length from hgl'.symm]
  refine h4.eds.app h4.cl (by omega) (x := egV (W.nx, g)) ⟨rfl, rfl⟩ (by rw [lmp]; omega) ?_
  intro W5 a1 a2' a3' a4
  have r5 := (a4 _ h4.rsl.2 (h4.eds.ner h4.row)).trans h4.row
  have d1 := h4.d1
  have d2 := h4.d2
  have w1 := h4.way.rne
  have w2 := h4.wtg.rne
  have ls4 := h4.rsl
  have a1' : slH W5 (.slr W4.nx 0 ((gs.map egV).length + 1) 1) ((gs ++ [(W.nx, g)]).map egV) lo := by rw [mpp]; exact a1
  simp (disch:=omega) only [BS, ↓reduceIte, nE, BM, BD, nA, nL, r5, Hn, Xj, y3]
  have h5 := h4.putr (he' := .slr W4.nx 0 ((gs.map egV).length + 1) 1) (gs' := gs ++ [(W.nx, g)]) (s' := { s2 with wtg := a, ended := s.ended ++ [g] }) (by omega) a2' (fun x hx _ _ q => a4 x hx q)
   (h4.way.to (by omega) fun r hr _ hl => a4 r hl fun e => (d1 r hr).2 e) (h4.wtg.to (by omega) fun r hr _ hl => a4 r hl fun e => d2 r hr e) a1'
   (fun x hx => by
    rcases List.mem_append.1 hx with hx | hx
    ·exact .inl hx
    ·rw [List.mem_singleton.1 hx]; exact .inr ⟨by omega, by show W.nx < W5.nx; omega, by rw [a4 _ (by show W.nx < W4.nx; omega) q3]; exact z4⟩)
   (by show s.ended ++ [g] = _; rw [mpp, ← y4, h2.eg]; rfl) (fun _ => rfl)
   (fun r hr => ⟨(d1 r hr).1, fun e => by cases e; exact w1 _ (lr _) hr⟩) (fun r hr e => by cases e; exact w2 _ (lr _) hr)
   (fun x hx => by
    have hne : x.1 < W4.nx := by
     rcases List.mem_append.1 hx with hx | hx
     ·exact (h4.grp x hx).2.1
     ·rw [List.mem_singleton.1 hx]; show W.nx < W4.nx; omega
    have hn3 : refH (.slr W4.nx 0 ((gs.map egV).length + 1) 1) ≠ some x.1 := fun e => by have : W4.nx = x.1 := Option.some.inj e; omega
    rcases List.mem_append.1 hx with hx | hx
    ·exact ⟨(h4.d3 x hx).1, (h4.d3 x hx).2.1, hn3⟩
    ·rw [List.mem_singleton.1 hx] at hn3 ⊢; exact ⟨q1, q2, hn3⟩)
  subst hB
  refine hq hlm _ _ a b g _ _ _ hab hg (by rw [← y3]; rw [hs2] at h5 ⊢; exact h5) (by simp) (by rw [Af]; omega) fun x hx => ?_
  rw [put_ne (by omega), a4 x (by omega) fun e => by have := (h4.eds.rlt e).1; omega, f4 x (by omega)]
  exact f3 x hx
 ·have hb : ((lw : Int) != (mt : Int)) = true := by simp; omega
  simp (disch:=omega) only [BX, ↓reduceIte, nE, BM, BD, a3, hbn, hb]
  exact hret hlm _
def headS : AC → Nat → AC
 | .seq a _, 0 => a
 | .seq _ b, n + 1 => headS b n
 | c, _ => c
def leaveT : AC := tailS c_leaveS 4
theorem Xbu : c_leaveS = .seq (headS c_leaveS 0) (.seq (headS c_leaveS 1) (.seq (headS c_leaveS 2) (.seq (headS c_leaveS 3) leaveT))) := id rfl
theorem leave_c (hP : PE E) (W : AW) {n lo rs rn : Nat} {nv hw ht he : V} {gs : List (Nat × List Nat)} {s : TS} {p : List Nat} {i : Nat} (h : Sw n lo nv rs rn hw ht he gs s W) (hwy : s.way = p ++ [i]) (hn : n < 2 ^ 30) (hwn : ∀ j ∈ s.wtg, j < n) (hsub : ∀ j ∈ s.way, j ∈ s.wtg) (hwl : s.way.length ≤ n) (htl : s.wtg.length ≤ n) (hgl : gs.length ≤ 2 ^ 30) (_ : nv.cells = [nv] ∧ nv.one = true) :
  ACalls E 178 [.ptr rs 0] W fun _ W' => W.nx ≤ W'.nx ∧ (∀ x, x < lo → W'.get x = W.get x) ∧ ∃ hw' ht' he' gs' s', Sw n lo nv rs rn hw' ht' he' gs' s' W' ∧ gs'.length ≤ gs.length + 1 ∧
   ((s.low i ≠ s.met i ∧ s' = { s.up p i with way := p }) ∨ (s.low i = s.met i ∧ ∃ a b g, s.wtg = a ++ i :: b ∧ g.Perm (i :: b) ∧ s' = { s.up p i with way := p, wtg := a, wt := clrW s.wt (i :: b), ended := s.ended ++ [g] })) := by
 refine ACalls.of hP Tryz.func178 Sj (by simp) fun _ hok => ?_
 refine Au h.cl ?_
 rw [Xbu]
 have hiw : i ∈ s.wtg := hsub i (by rw [hwy]; simp)
 have hin := hwn i hiw
 have hlen : (natsV s.way).length = p.length + 1 := by rw [An, hwy]; simp
 have hpl : p.length < 2 ^ 30 := by have := congrArg List.length hwy; simp at this; omega
 obtain ⟨rw0, cw, rfl, gw, w1, w2⟩ := h.way.slr (by omega)
 rw [hlen] at h
 have hat : (natsV s.way ++ cw)[p.length]? = some (.int .i64 (i : Int)) := by
  rw [List.getElem?_append_left (by omega), hwy]; simp [natsV]
 have l1 := h.rsl
 have l2 := h.rnl
 have hne := h.ne
 have hne2 : rw0 ≠ rs := fun e => by rw [e, h.row] at gw; cases gw
 have hne3 : rw0 ≠ rn := fun e => by rw [e, h.nod] at gw; cases gw
 have hpr := Y4 (k := p.length) (by omega)
 have hw3 : slH W (.slr rw0 0 p.length 1) (natsV p) lo := .inr ⟨rw0, .int .i64 (i : Int) :: cw, w1, w2, by rw [An], by rw [gw, hwy]; simp [natsV]⟩
 have f2 := h.wtg.cells
 have f3 := h.eds.cells
 -- the way without its last node
 have h2 := h.putr (hw' := .slr rw0 0 p.length 1) (s' := { s with way := p }) (lr _) h.cl (fun _ _ _ _ _ => rfl) hw3 h.wtg h.eds (fun g hg => .inl hg) h.eg (fun _ => rfl) (fun r hr => h.d1 r hr) h.d2 h.d3
 have fin : ∀ (Wx : AW) (s2 : TS) (A : AFr), Sw n lo nv rs rn (.slr rw0 0 p.length 1) ht he gs s2 Wx → s2 = { s.up p i with way := p } → Wx.nx = W.nx → (∀ x, x < lo → Wx.get x = W.get x) → A 0 = some (.ptr rs 0) → A 2 = some (.int .i64 (i : Int)) → A 3 = some (.ptr (rf W.nx 0) 0) →
   awp E leaveT (retQ [] W.nx fun Y W' => W.nx ≤ W'.nx ∧ (∀ x, x < lo → W'.get x = W.get x) ∧ ∃ hw' ht' he' gs' s', Sw n lo nv rs rn hw' ht' he' gs' s' W' ∧ gs'.length ≤ gs.length + 1 ∧
   ((s.low i ≠ s.met i ∧ s' = { s.up p i with way := p }) ∨ (s.low i = s.met i ∧ ∃ a b g, s.wtg = a ++ i :: b ∧ g.Perm (i :: b) ∧ s' = { s.up p i with way := p, wtg := a, wt := clrW s.wt (i :: b), ended := s.ended ++ [g] }))) A (X Wx W.nx [.row (nodeV s i)]) := by
  intro Wx s2 A hS hs2 hnx hfr e0 e2 e3
  have hX : Sw n lo nv rs rn (.slr rw0 0 p.length 1) ht he gs s2 (X Wx W.nx [.row (nodeV s i)]) := hS.to Cl.X (by simp only [Ar, rf]; omega) fun x _ hx => Ag (by omega)
  obtain ⟨u1, u2, u3, u4, u5, u6, u7⟩ := TS.up_way (s := s) (p := p) (i := i)
  have y2 : s2.wtg = s.wtg := by rw [hs2]; exact u2
  have y6 : s2.wt = s.wt := by rw [hs2]; exact u6
  have y7 : s2.ended = s.ended := by rw [hs2]; exact u7
  refine S6 hP (bn := rf W.nx 0) hX (by rw [Ap]; rfl) hn (by rw [y2]; exact hwn) (by rw [y2]; exact htl) hgl (fun _ => by rw [y2]; exact hiw) e0 e2 e3 ?_ ?_
  ·intro hlm A'
   refine ⟨_, rfl, _, _, .weak Ab, by simp only [Ar, rf]; omega, by simp only [Ar, rf]; omega, fun x hx => by rw [Ag (by omega)]; exact hfr x hx, _, _, _, _, _, hX, by omega, .inl ⟨hlm, hs2⟩⟩
  ·intro hlm A' W' a b g ht' he' gs' q1 q2 q3 q4 q5 q6
   have hnx' : W.nx + 1 ≤ W'.nx := q5
   refine ⟨_, rfl, _, _, .weak Ab, by omega, by omega, fun x hx => by rw [q6 x hx, Ag (by omega)]; exact hfr x hx, _, _, _, _, _, q3, by omega, .inr ⟨hlm, a, b, g, by rw [← y2]; exact q1, q2, ?_⟩⟩
   rw [y6, y7, hs2]
 by_cases hp : p = []
 ·have hz : decide (((p.length : Nat) : Int) > 0) = false := by rw [hp]; decide
  simp (disch:=omega) only [BX, ↓reduceIte, nE, reduceCtorEq, BM, BD, nA, nL, nT, headS, c_leaveS, h.row, h.nod, put_at, put_ne, gw, hpr, zx1, ix4, C0, Hv hat, slcS, vlA, Hn, Xj, hz, nodeV]
  refine fin _ _ _ h2 ?_ rfl (fun x hx => put_ne (by omega)) tt tt tt
  rw [TS.up, hp]; rfl
 ·obtain ⟨pp, t, hpp⟩ : ∃ pp t, p = pp ++ [t] := ⟨p.dropLast, p.getLast hp, (List.dropLast_concat_getLast hp).symm⟩
  have hz : decide (((p.length : Nat) : Int) > 0) = true := by rw [hpp]; simp
  have hl2 : p.length = pp.length + 1 := by rw [hpp]; simp
  have hpr2 := Y4 (k := pp.length) (by omega)
  rw [← hl2] at hpr2
  have htw : t ∈ s.way := by rw [hwy, hpp]; simp
  have htn := hwn t (hsub t htw)
  have hat2 : (natsV s.way ++ cw)[pp.length]? = some (.int .i64 (t : Int)) := by
   rw [List.getElem?_append_left (by omega), hwy, hpp]; simp [natsV]
  simp (disch:=omega) only [BX, ↓reduceIte, nE, reduceCtorEq, BM, BD, nA, nL, nT, headS, c_leaveS, h.row, h.nod, put_at, put_ne, gw, hpr, zx1, ix4, C0, Hv hat, slcS, vlA, Hn, Xj, hz, nodeV, hpr2, Hv hat2, vl1, H8, minN, Es, vsL]
  have h3 := h2.putn (s' := ({ s with way := p } : TS).setL t (min (s.low t) (s.low i))) rfl rfl rfl rfl
  have e9 := Fp (s := ({ s with way := p } : TS).setL t (min (s.low t) (s.low i))) (s' := s.setL t (min (s.low t) (s.low i))) (fun _ => rfl) n
  rw [e9]
  refine fin _ _ _ h3 ?_ rfl (fun x hx => by rw [put_ne (by omega), put_ne (by omega)]) tt tt tt
  rw [TS.up, hpp, List.getLast?_concat]; rfl
def c_fromS_1 : AC := (.seq (.seq (.par (.step 0 (.m 35 5) (.step 1 (.u 36 .nilck 35) (.step 2 (.u 37 (.fld 3) 36) (.step 4 (.m 39 0) (.step 5 (.u 40 .nilck 39) (.step 6 (.u 41 (.fld 0) 40) (.step 8 (.m 43 4) (.step 3 (.u 38 (.load false 1) 37) (.step 7 (.u 42 (.load false 1) 41) (.step 9 (.b 44 (.idxp 1) 42 43) (.step 10 (.u 45 (.load false 1) 44) (.step 11 (.u 46 (.len 1 0) 45) (.step 12 (.b 47 (.bin .lss) 38 46) .done)))))))))))))) (.w 47 2)) (.block 3 (.seq (.par (.step 0 (.m 48 0) (.step 1 (.u 49 .nilck 48) (.step 2 (.u 50 (.fld 0) 49) (.step 4 (.m 52 4) (.step 7 (.m 55 5) (.step 8 (.u 56 .nilck 55) (.step 9 (.u 57 (.fld 3) 56) (.step 3 (.u 51 (.load false 1) 50) (.step 5 (.b 53 (.idxp 1) 51 52) (.step 6 (.u 54 (.load false 1) 53) (.step 10 (.u 58 (.load false 1) 57) (.step 11 (.b 59 (.idxp 1) 54 58) (.step 12 (.u 60 (.load false 1) 59) (.step 13 (.m 6 60) .done))))))))))))))) (.r [.m 61 5,.u 62 .nilck 61,.u 63 (.fld 3) 62,.u 64 (.load false 1) 63,.a 65 (.bin .add) 64 1,.u 66 .nilck 61,.u 67 (.fld 3) 66,⟨none,.store 1, [.t 67,.t 65], none⟩] (.r [.m 68 0,.u 69 .nilck 68,.u 70 (.fld 1) 69,.u 71 (.load false 1) 70,.m 72 6,.b 73 (.idxp 4) 71 72,.m 7 73] (.block 4 (.r [.m 75 7,.u 76 .nilck 75,.u 77 (.fld 0) 76,.u 78 (.fld 0) 77,.u 79 (.load false 1) 78,.a 80 (.bin .eql) 79 0,.m 74 80] (.cond (.t 74) (.r [.m 81 0,.m 82 6,.b 83 (.call 177) 81 82] (.exit 1)) (.r [.m 85 7,.u 86 .nilck 85,.u 87 (.fld 0) 86,.u 88 (.fld 2) 87,.u 89 (.load false 1) 88,.m 84 89] (.cond (.t 84) (.par (.step 0 (.m 90 5) (.step 1 (.m 91 5) (.step 2 (.u 92 .nilck 91) (.step 3 (.u 93 (.fld 0) 92) (.step 4 (.u 94 (.fld 1) 93) (.step 6 (.m 96 7) (.step 7 (.u 97 .nilck 96) (.step 8 (.u 98 (.fld 0) 97) (.step 9 (.u 99 (.fld 0) 98) (.step 5 (.u 95 (.load false 1) 94) (.step 10 (.u 100 (.load false 1) 99) (.step 11 (.b 101 (.len 5 0) 95 100) (.step 12 (.u 102 .nilck 90) (.step 13 (.u 103 (.fld 0) 102) (.step 14 (.u 104 (.fld 1) 103) (.step 15 ⟨none,.store 1, [.t 104,.t 101], none⟩ .done))))))))))))))))) .skip))))))))))
def c_fromS_0 : AC := (.seq (.r [.m 11 0,.u 12 .nilck 11,.u 13 (.fld 2) 12,.u 14 (.load false 1) 13,.u 15 (.len 1 0) 14,.a 16 (.bin .gtr) 15 0] (.w 16 0)) (.block 1 (.seq (.par (.step 0 (.m 17 0) (.step 1 (.u 18 .nilck 17) (.step 2 (.u 19 (.fld 2) 18) (.step 4 (.m 21 0) (.step 5 (.u 22 .nilck 21) (.step 6 (.u 23 (.fld 2) 22) (.step 3 (.u 20 (.load false 1) 19) (.step 7 (.u 24 (.load false 1) 23) (.step 8 (.u 25 (.len 1 0) 24) (.step 9 (.a 26 (.bin .sub) 25 1) (.step 10 (.b 27 (.idxp 1) 20 26) (.step 11 (.u 28 (.load false 1) 27) (.step 12 (.m 4 28) .done)))))))))))))) (.r [.m 29 0,.u 30 .nilck 29,.u 31 (.fld 1) 30,.u 32 (.load false 1) 31,.m 33 4,.b 34 (.idxp 4) 32 33,.m 5 34] (.seq (.block 2 (.loop c_fromS_1)) (.reg [.m 105 0,.u 106 (.call 178) 105]))))))
def c_fromS : AC := (.r [.m 8 0,.m 9 1,.b 10 (.call 177) 8 9] (.seq .skip (.block 0 (.loop c_fromS_0))))
theorem Xy : compF Tryz.prog Tryz.f139 ⟨true, false, []⟩ = some (c_fromS, [], 107) := by kernel_rfl
def isQ (s : Nat) (v : V) (xs : List V) : Prop := isS s v xs ∨ (xs = [] ∧ ∃ r, v = .slr r 0 0 s)
section
variable {W : AW} {K : V → AW → Prop} {s : Nat} {v : V} {xs : List V}
theorem isQ.len (h : isQ s v xs) {n : Nat} : sem E (.len 1 n) [v] W K = K (.int .i64 xs.length) W := by
 rcases h with h | ⟨rfl, r, rfl⟩
 ·exact h.len
 ·rfl
theorem isQ.idx (h : isQ s v xs) {k : Nat} {x : V} {kk : IntKind} (hx : xs[k]? = some x) : sem E (.idxp s) [v, .int kk (k : Int)] W K = K (.cptr x.cells) W := by
 rcases h with h | ⟨rfl, r, rfl⟩
 ·exact h.idx hx
 ·simp at hx
theorem isQ.frz (h : isQ s v xs) : W.frz v = v := by
 rcases h with h | ⟨rfl, r, rfl⟩
 ·exact h.frz
 ·rfl
theorem isQ.cells (h : isQ s v xs) : v.cells = [v] := by
 rcases h with h | ⟨rfl, r, rfl⟩
 ·exact h.cells
 ·rfl
theorem isQ.one (h : isQ s v xs) : v.one = true := by
 rcases h with h | ⟨rfl, r, rfl⟩
 ·exact h.one
 ·rfl
end
structure Nx (nv : V) (nx : Nat → List Nat) (n : Nat) : Prop where
 el : ∃ xs, isQ 1 nv xs ∧ xs.length = n ∧ ∀ i (h : i < xs.length), isS 1 xs[i] (natsV (nx i))
 lt : ∀ i, i < n → ∀ k ∈ nx i, k < n
 sm : ∀ i, i < n → (nx i).length < 2 ^ 40
theorem Nx.at {nv : V} {nx : Nat → List Nat} {n i : Nat} (h : Nx nv nx n) (hi : i < n) : ∃ xs x, isQ 1 nv xs ∧ xs[i]? = some x ∧ isS 1 x (natsV (nx i)) := by
 obtain ⟨xs, h1, h2, h3⟩ := h.el
 exact ⟨xs, xs[i]'(by omega), h1, gEg _, h3 i (by omega)⟩
theorem Nx.cells {nv : V} {nx : Nat → List Nat} {n : Nat} (h : Nx nv nx n) : nv.cells = [nv] ∧ nv.one = true := by
 obtain ⟨xs, h1, _⟩ := h.el
 exact ⟨h1.cells, h1.one⟩
theorem from1_go (hP : PE E) {W : AW} {n lo rs rn : Nat} {nv hw ht he : V} {gs : List (Nat × List Nat)} {nx : Nat → List Nat} {s : TS} {p : List Nat} {i : Nat} (h : Sw n lo nv rs rn hw ht he gs s W) (hB : TB nx n s) (hN : Nx nv nx n) (hwy : s.way = p ++ [i]) (hn : n < 2 ^ 30) {A : AFr} {Q : Exit → AFr → AW → Prop}
  (a0 : A 0 = some (.ptr rs 0)) (a4 : A 4 = some (.int .i64 (i : Int))) (a5 : A 5 = some (.vptr rn (i * 4)))
  (hmeet : ∀ A' W' hw' ht' s', A' 0 = some (.ptr rs 0) → Sw n lo nv rs rn hw' ht' he gs s' W' → TB nx n s' → s'.way.length = s.way.length + 1 → s'.cnt = s.cnt + 1 → gapS nx s' n + 1 ≤ gapS nx s n → (∀ j, 0 < s.met j → 0 < s'.met j) → W.nx ≤ W'.nx → (∀ x, x < lo → W'.get x = W.get x) → Q (.exit 1) A' W')
  (hend : ∀ A' W' s', A' 0 = some (.ptr rs 0) → Sw n lo nv rs rn hw ht he gs s' W' → TB nx n s' → s'.way = s.way → s'.met = s.met → s'.cnt = s.cnt → s'.gone i = (nx i).length → gapS nx s' n ≤ gapS nx s n → W.nx ≤ W'.nx → (∀ x, x < lo → W'.get x = W.get x) → Q (.exit 2) A' W') : ALoop (awp E c_fromS_1) Q A W := by
 have hiw : i ∈ s.way := by rw [hwy]; simp
 have hin : i < n := hB.wal i hiw
 obtain ⟨xs, x, n1, n2, n3⟩ := hN.at hin
 have hsm := hN.sm i hin
 refine alp (fun (s1 : TS) A1 W1 => A1 0 = some (.ptr rs 0) ∧ A1 4 = some (.int .i64 (i : Int)) ∧ A1 5 = some (.vptr rn (i * 4)) ∧ Sw n lo nv rs rn hw ht he gs s1 W1 ∧ TB nx n s1 ∧ s1.way = s.way ∧ s1.met = s.met ∧ s1.cnt = s.cnt ∧ gapS nx s1 n ≤ gapS nx s n ∧ W.nx ≤ W1.nx ∧ ∀ x, x < lo → W1.get x = W.get x) (fun s1 => (nx i).length - s1.gone i) s
  ⟨a0, a4, a5, h, hB, rfl, rfl, rfl, lr _, lr _, fun _ _ => rfl⟩ ?_
 rintro s1 A1 W1 ⟨g0, g4, g5, gS, gB, gw, gm, gc, gg, gn, gf⟩ _
 have l1 := gS.rsl
 have l2 := gS.rnl
 have hne := gS.ne
 by_cases hk : s1.gone i < (nx i).length
 ·obtain ⟨k, hkk⟩ : ∃ k, k = (nx i)[s1.gone i] := ⟨_, rfl⟩
  have hk? : (nx i)[s1.gone i]? = some k := by rw [hkk]; exact gEg hk
  have hat : (natsV (nx i))[s1.gone i]? = some (.int .i64 (k : Int)) := by rw [hkk]; exact D4 hk
  have hkn : k < n := hN.lt i hin k (by rw [hkk]; exact gmm _)
  have hk2 : decide (((s1.gone i : Nat) : Int) < (((natsV (nx i)).length : Nat) : Int)) = true := by rw [An]; simp; omega
  have hgap := Vp (nx := nx) (s := s1) hk n
  rw [if_pos hin] at hgap
  have hwy1 : s1.way = p ++ [i] := by rw [gw]; exact hwy
  have hiw1 : i ∈ s1.way := by rw [gw]; exact hiw
  have hp1 := gS.putn (s' := s1.go i) rfl rfl rfl rfl
  by_cases hmk : s1.met k = 0
  ·have hb : (((s1.go i).met k : Int) == 0) = true := by rw [show (s1.go i).met k = s1.met k from rfl, hmk]; rfl
   simp (disch:=omega) only [BX, ↓reduceIte, nE, reduceCtorEq, BM, BD, c_fromS_1, g0, g4, g5, gS.row, gS.nod, put_at, put_ne, C0, Es, vl3, vl0, n1.idx n2, n3.loadf, n3.len, n3.idx hat, hk2, ix4, H8, Ah, vsG, hb]
   have hcn := gB.cn
   have hwl := gB.wl
   have htl := gB.tl
   refine (Xbi hP _ hp1 hkn hn hcn hwl htl hN.cells.1).mono ?_
   rintro Y W2 ⟨m1, m2, hw', ht', m3⟩
   simp (disch:=omega) only [BS, ↓reduceIte, nE]
   have hTB := gB.new hwy1 hk? hmk hkn
   have m1' : W1.nx ≤ W2.nx := m1
   refine hmeet _ W2 hw' ht' _ g0 m3 hTB ?_ ?_ ?_ ?_ (by omega) fun x hx => ?_
   ·show (s1.way ++ [k]).length = _; rw [gw]; simp
   ·show s1.cnt + 1 = _; rw [gc]
   ·rw [Ka (s := s1.go i) (s' := (s1.go i).meet k) rfl]; omega
   ·intro j hj
    show 0 < fset s1.met k _ j
    by_cases e : j = k
    ·rw [e, Ch]; omega
    ·rw [Cn e, gm]; exact hj
   ·rw [m2 x hx, put_ne (by omega)]; exact gf x hx
  ·have hb : (((s1.go i).met k : Int) == 0) = false := by rw [show (s1.go i).met k = s1.met k from rfl]; simp; omega
   cases hwt : s1.wt k with
   | false =>
    have hwt' : (s1.go i).wt k = false := hwt
    simp (disch:=omega) only [BX, ↓reduceIte, nE, reduceCtorEq, BM, BD, c_fromS_1, g0, g4, g5, gS.row, gS.nod, put_at, put_ne, C0, Es, vl3, vl2, vl0, n1.idx n2, n3.loadf, n3.len, n3.idx hat, hk2, ix4, H8, Ah, vsG, hb, hwt']
    have hTB := gB.old hiw1 hk? (by omega) hwt
    refine ⟨s1.go i, ⟨tt, tt, tt, hp1, hTB, gw, gm, gc, by omega, gn, fun x hx => by rw [put_ne (by omega)]; exact gf x hx⟩, ?_, gn⟩
    show (nx i).length - fset s1.gone i (s1.gone i + 1) i < _
    rw [Ch]; omega
   | true =>
    have hwt' : (s1.go i).wt k = true := hwt
    simp (disch:=omega) only [BX, ↓reduceIte, nE, reduceCtorEq, BM, BD, c_fromS_1, g0, g4, g5, gS.row, gS.nod, put_at, put_ne, C0, Es, vl3, vl2, vl1, vl0, n1.idx n2, n3.loadf, n3.len, n3.idx hat, hk2, ix4, H8, Ah, vsG, hb, hwt', minN, vsL]
    have hTB := gB.back hiw1 hk? hwt
    have hp2 := hp1.putn (s' := (s1.go i).lower i (s1.met k)) rfl rfl rfl rfl
    refine ⟨(s1.go i).lower i (s1.met k), ⟨tt, tt, tt, hp2, hTB, gw, gm, gc, ?_, gn, fun x hx => by rw [put_ne (by omega), put_ne (by omega)]; exact gf x hx⟩, ?_, gn⟩
    ·rw [Ka (s := s1.go i) (s' := (s1.go i).lower i (s1.met k)) rfl]; omega
    ·show (nx i).length - fset s1.gone i (s1.gone i + 1) i < _
     rw [Ch]; omega
 ·have hk2 : decide (((s1.gone i : Nat) : Int) < (((natsV (nx i)).length : Nat) : Int)) = false := by rw [An]; simp; omega
  simp (disch:=omega) only [BX, ↓reduceIte, nE, reduceCtorEq, BM, BD, c_fromS_1, g0, g4, g5, gS.row, gS.nod, C0, vl3, n1.idx n2, n3.loadf, n3.len, H8, hk2]
  exact hend _ _ s1 g0 gS gB gw gm gc (by have := gB.ti.gle i; omega) gg gn gf
theorem from_c (hP : PE E) (W : AW) {n lo rs rn : Nat} {nv hw ht he : V} {gs : List (Nat × List Nat)} {nx : Nat → List Nat} {s : TS} {i0 : Nat} (h : Sw n lo nv rs rn hw ht he gs s W) (hB : TB nx n s) (hN : Nx nv nx n) (hwy : s.way = []) (hn : n < 2 ^ 30) (hi0 : i0 < n) (hm0 : s.met i0 = 0) (hgs : gs.length ≤ s.cnt) :
  ACalls E 139 [.ptr rs 0, .int .i64 (i0 : Int)] W fun _ W' => W.nx ≤ W'.nx ∧ (∀ x, x < lo → W'.get x = W.get x) ∧ ∃ hw' ht' he' gs' s', Sw n lo nv rs rn hw' ht' he' gs' s' W' ∧ TB nx n s' ∧ s'.way = [] ∧ gs'.length ≤ s'.cnt ∧ 0 < s'.met i0 ∧ ∀ j, 0 < s.met j → 0 < s'.met j := by
 refine ACalls.of hP Tryz.func139 Xy (by simp) fun _ hok => ?_
 have hcn := hB.cn
 have hwl := hB.wl
 have htl := hB.tl
 simp (disch:=omega) only [BZ, ↓reduceIte, nE, c_fromS]
 refine (Xbi hP _ h hi0 hn hcn hwl htl hN.cells.1).mono ?_
 rintro Y W1 ⟨m1, m2, hw1, ht1, m3⟩
 have hTB := hB.meet hi0 hm0 (.inl (hB.ti.fin hwy))
 simp (disch:=omega) only [BS, Am, ]
 rw [Ai]
 refine alp (fun (σ : V × V × V × List (Nat × List Nat) × TS) A1 W2 => A1 0 = some (.ptr rs 0) ∧ Sw n lo nv rs rn σ.1 σ.2.1 σ.2.2.1 σ.2.2.2.1 σ.2.2.2.2 W2 ∧ TB nx n σ.2.2.2.2 ∧ σ.2.2.2.1.length + σ.2.2.2.2.way.length ≤ σ.2.2.2.2.cnt ∧ (∀ j, 0 < s.met j ∨ j = i0 → 0 < σ.2.2.2.2.met j) ∧ W.nx ≤ W2.nx ∧ ∀ x, x < lo → W2.get x = W.get x) (fun σ => 2 * gapS nx σ.2.2.2.2 n + σ.2.2.2.2.way.length) (hw1, ht1, he, gs, s.meet i0)
  ⟨rfl, m3, hTB, ?_, ?_, m1, m2⟩ ?_
 ·show gs.length + (s.way ++ [i0]).length ≤ s.cnt + 1
  rw [hwy]; simp; exact hgs
 ·intro j hj
  show 0 < fset s.met i0 _ j
  by_cases e : j = i0
  ·rw [e, Ch]; omega
  ·rw [Cn e]; exact hj.resolve_right e
 rintro ⟨hw2, ht2, he2, gs2, s2⟩ A1 W2 ⟨g0, gS, gB, gc, gm, gn, gf⟩ _
 simp only at gS gB gc gm
 by_cases hp : s2.way = []
 ·have hl : decide ((((natsV s2.way).length : Nat) : Int) > 0) = false := by rw [hp]; rfl
  simp (disch:=omega) only [BX, ↓reduceIte, BM, BD, c_fromS_0, g0, gS.row, gS.way.len, hl]
  refine ⟨_, rfl, _, _, .weak Ab, gn, gn, gf, _, _, _, _, s2, gS, gB, hp, by omega, gm i0 (.inr rfl), fun j hj => gm j (.inl hj)⟩
 ·obtain ⟨p, i, hpi⟩ : ∃ p i, s2.way = p ++ [i] := ⟨s2.way.dropLast, s2.way.getLast hp, (List.dropLast_concat_getLast hp).symm⟩
  have hlen : (natsV s2.way).length = p.length + 1 := by rw [An, hpi]; simp
  have hl : decide ((((p.length + 1 : Nat)) : Int) > 0) = true := by simp
  have hwl2 := gB.wl
  have htl2 := gB.tl
  have hpl : p.length + 1 ≤ n := by rw [An] at hlen; omega
  obtain ⟨rw0, cw, hw2e, gw, w1, w2⟩ := gS.way.slr (by omega)
  rw [hlen] at hw2e
  have hat : (natsV s2.way ++ cw)[p.length]? = some (.int .i64 (i : Int)) := by
   rw [List.getElem?_append_left (by omega), hpi]; simp [natsV]
  have hpr := Y4 (k := p.length) (by omega)
  have hin := gB.wal i (by rw [hpi]; simp)
  have hrow := gS.row
  rw [hw2e] at hrow
  simp (disch:=omega) only [BX, ↓reduceIte, nE, reduceCtorEq, BM, BD, c_fromS_0, g0, hrow, hl, hpr, zx1, C0, gw, Hv hat, ix4, Ai]
  refine from1_go hP gS gB hN hpi hn tt tt tt ?_ ?_
  ·intro A' W' hw' ht' s' k0 k1 k2 k3 k4 k5 k6 k7 k8
   simp (disch:=omega) only [BS, ↓reduceIte, nE, k0]
   refine ⟨(hw', ht', he2, gs2, s'), ⟨tt, k1, k2, ?_, fun j hj => k6 j (gm j hj), by omega, fun x hx => (k8 x hx).trans (gf x hx)⟩, ?_, by omega⟩
   ·show gs2.length + s'.way.length ≤ s'.cnt; omega
   ·show 2 * gapS nx s' n + s'.way.length < 2 * gapS nx s2 n + s2.way.length; omega
  ·intro A' W' s' k0 k1 k2 k3 k4 k5 k6 k7 k8 k9
   simp (disch:=omega) only [BS, BC, ↓reduceIte, k0]
   have kw : s'.way = p ++ [i] := k3.trans hpi
   refine (leave_c hP W' k1 kw hn k2.wtl k2.ti.wsub k2.wl k2.tl (by have := k2.cn; omega) hN.cells).mono ?_
   rintro Y W3 ⟨q1, q2, hw', ht', he', gs', s3, q3, q4, q5⟩
   obtain ⟨u1, u2, u3, u4, u5, u6, u7⟩ := TS.up_way (s := s') (p := p) (i := i)
   have e3 : TB nx n s3 ∧ s3.way = p ∧ s3.cnt = s'.cnt ∧ s3.met = s'.met ∧ s3.gone = s'.gone := by
    rcases q5 with ⟨c1, rfl⟩ | ⟨c1, a, b, g, c2, c3, rfl⟩
    ·exact ⟨k2.popA kw k6 c1, rfl, u4, u3, u5⟩
    ·refine ⟨k2.popB kw k6 c1 c2 c3.length_eq (fun j => c3.mem_iff) (fun j => ?_), rfl, u4, u3, u5⟩
     show (s'.wt j && !decide (j ∈ i :: b)) = _
     rw [show decide (j ∈ g) = decide (j ∈ i :: b) from decide_eq_decide.2 c3.mem_iff]
   obtain ⟨e4, e5, e6, e7, e8⟩ := e3
   have hlw : s2.way.length = p.length + 1 := by rw [hpi]; simp
   simp (disch:=omega) only [BS, ↓reduceIte, reduceCtorEq, k0]
   refine ⟨(hw', ht', he', gs', s3), ⟨tt, q3, e4, ?_, fun j hj => ?_, by omega, fun x hx => ((q2 x hx).trans (k9 x hx)).trans (gf x hx)⟩, ?_, by omega⟩
   ·show gs'.length + s3.way.length ≤ s3.cnt
    rw [e5, e6, k5]; omega
   ·show 0 < s3.met j
    rw [e7, k4]; exact gm j hj
   ·show 2 * gapS nx s3 n + s3.way.length < 2 * gapS nx s2 n + s2.way.length
    rw [e5, Ka e8]; omega
def c_may_0 : AC := (.r [.b 8 (.bin .lss) 7 6] (.seq (.w 8 0) (.seq (.block 1 (.r [.b 9 (.idxp 1) 5 7,.u 10 (.load false 1) 9,.m 4 10] (.r [.m 11 4,.u 12 (.mkfn (.func 176) 0) 1,.b 13 (.call 175) 11 12] (.cond (.t 13) (.r [.v 2 (.bool false)] .ret) .skip)))) (.reg [.a 14 (.bin .add) 7 1,.m 7 14]))))
def c_may : AC := (.r [.u 1 .box 0,.v 2 (.bool false)] (.seq (.r [.u 5 (.load false 1) 1,.u 6 (.len 1 0) 5,.v 7 (.int .i64 0)] (.block 0 (.loop c_may_0))) (.r [.v 2 (.bool true)] .ret)))
theorem ok_maye : compF Tryz.prog Tryz.f138 ⟨false, false, []⟩ = some (c_may, [.tmp 2], 15) := by kernel_rfl
def c_may1 : AC := (.r [.v 3 (.bool false)] (.r [.m 4 0,.a 5 (.bin .lss) 4 0,.m 6 5,.M 7 0 6 false,.U 8 (.load false 1) 1 6 false,.U 9 (.len 1 0) 8 6 false,.B 10 (.bin .geq) 7 9 6 false,.p 11 .pick [.t 6,.T,.t 10],.m 3 11] .ret))
theorem Xal : compF Tryz.prog Tryz.f176 ⟨false, false, []⟩ = some (c_may1, [.tmp 3], 12) := by kernel_rfl
def c_cfI : AC := (.r [.v 4 (.bool false)] (.r [.m 5 0,.m 6 1,.b 7 (.call 228) 5 6,.a 8 (.bin .geq) 7 0,.m 4 8] .ret))
theorem ok_cfIe : compF Tryz.prog Tryz.f175 ⟨false, false, []⟩ = some (c_cfI, [.tmp 4], 9) := by kernel_rfl
def c_ifI_0 : AC := (.r [.b 9 (.bin .lss) 8 7] (.seq (.w 9 0) (.seq (.block 1 (.r [.m 10 8,.m 5 10] (.r [.m 11 1,.m 12 0,.m 13 5,.b 14 (.idxp 1) 12 13,.u 15 (.load false 1) 14,.b 16 .callv 11 15] (.cond (.t 16) (.r [.m 17 5,.m 4 17] .ret) .skip)))) (.reg [.a 18 (.bin .add) 8 1,.m 8 18]))))
def c_ifI : AC := (.r [.v 4 (.int .i64 0)] (.seq (.r [.m 6 0,.u 7 (.len 1 0) 6,.v 8 (.int .i64 0)] (.block 0 (.loop c_ifI_0))) (.r [.v 4 (.int .i64 (-1))] .ret)))
theorem ok_ifIe : compF Tryz.prog Tryz.f228 ⟨false, false, []⟩ = some (c_ifI, [.tmp 4], 19) := by kernel_rfl
def c_groups_0 : AC := (.r [.b 18 (.bin .lss) 17 16] (.seq (.w 18 0) (.seq (.block 1 (.r [.m 19 17,.m 5 19] (.r [.m 20 4,.u 21 .nilck 20,.u 22 (.fld 1) 21,.u 23 (.load false 1) 22,.m 24 5,.b 25 (.idxp 4) 23 24,.u 26 (.fld 0) 25,.u 27 (.fld 0) 26,.u 28 (.load false 1) 27,.a 29 (.bin .eql) 28 0] (.cond (.t 29) (.reg [.m 30 4,.m 31 5,.b 32 (.call 139) 30 31]) .skip)))) (.reg [.a 33 (.bin .add) 17 1,.m 17 33]))))
def c_groups : AC := (.r [.v 2 (.nilsl),.v 3 (.int .i64 0)] (.seq (.r [.m 6 0,.u 7 (.call 138) 6,.u 8 (.un .not) 7] (.cond (.t 8) (.r [.v 2 (.nilsl),.v 3 (.int .i64 2)] .ret) .skip)) (.r [.m 9 0,.m 10 0,.u 11 (.len 1 0) 10,.b 12 (.makesl 4 32 [.int .i64 0,.int .i64 0,.bool false,.int .i64 0]) 11 11,.b 13 (.build [.nilsl,.nilsl,.nilsl,.nilsl,.nilsl,.int .i64 0] [(0, 1), (1, 1)]) 9 12,.u 14 .box 13,.m 4 14] (.seq (.r [.m 15 0,.u 16 (.len 1 0) 15,.v 17 (.int .i64 0)] (.block 0 (.loop c_groups_0))) (.r [.m 34 4,.u 35 .nilck 34,.u 36 (.fld 4) 35,.u 37 (.load false 1) 36,.m 2 37,.v 3 (.int .i64 0)] .ret)))))
theorem Sk : compF Tryz.prog Tryz.f119 ⟨true, false, []⟩ = some (c_groups, [.tmp 2, .tmp 3], 38) := by kernel_rfl
theorem may1_c (hP : PE E) (W : AW) {q n k : Nat} {nv : V} {xs : List V} (hq : W.get q = some (.row [nv])) (hs : isQ 1 nv xs) (hn : xs.length = n) (hk : k < n) : ACalls E 176 [.int .i64 (k : Int), .ptr q 0] W fun Y W' => Y = .bool false ∧ W' = W := by
 refine ACalls.of hP Tryz.func176 Xal (by simp) fun _ hok => ?_
 have h1 : decide ((k : Int) < 0) = false := decide_eq_false (by omega)
 have h2 : decide ((k : Int) ≥ ((xs.length : Nat) : Int)) = false := decide_eq_false (by omega)
 simp only [c_may1, BZ, Aa, ↓reduceIte, nE, reduceCtorEq, BM, hq, h1, hs.len, h2]
 exact ⟨_, rfl, _, _, .weak Ab, lr _, rfl, rfl⟩
theorem ifI_c (hP : PE E) (W : AW) {q n : Nat} {nv v : V} {xs : List V} {l : List Nat} (hq : W.get q = some (.row [nv])) (hs : isQ 1 nv xs) (hn : xs.length = n) (hv : isS 1 v (natsV l)) (hl : ∀ k ∈ l, k < n) (hll : l.length < 2 ^ 40) : ACalls E 228 [v, .fn (.func 176) [] [.ptr q 0]] W fun Y W' => Y = .int .i64 (-1) ∧ W' = W := by
 refine ACalls.of hP Tryz.func228 ok_ifIe (by simp) fun _ hok => ?_
 simp (disch:=omega) only [BZ, ↓reduceIte, reduceCtorEq, c_ifI, hv.len, An]
 rw [Ai]
 refine alp (fun (k : Nat) A1 W1 => A1 0 = some v ∧ A1 1 = some (.fn (.func 176) [] [.ptr q 0]) ∧ A1 7 = some (.int .i64 l.length) ∧ A1 8 = some (.int .i64 k) ∧ k ≤ l.length ∧ W1 = W) (fun k => l.length - k) 0
  ⟨rfl, rfl, rfl, rfl, Nat.zero_le _, rfl⟩ ?_
 rintro k A1 W1 ⟨g0, g1, g7, g8, gk, rfl⟩ _
 by_cases hk : k < l.length
 ·have hat : (natsV l)[k]? = some (.int .i64 (l[k] : Nat)) := D4 hk
  have hln := hl _ (gmm hk)
  generalize l[k] = j at hat hln
  simp (disch:=omega) only [BX, ↓reduceIte, nE, reduceCtorEq, BM, BD, c_ifI_0, g0, g1, g7, g8, clt, hk, dT, hv.idx hat]
  refine pc (may1_c hP _ hq hs hn hln) ?_
  simp (disch:=omega) only [BS, BC, Ac, ↓reduceIte, nE, reduceCtorEq, g0, g1, g7, g8, Ah]
  exact ⟨k + 1, ⟨tt, tt, tt, tt, hk, tt⟩, by omega, lr _⟩
 ·obtain rfl : k = l.length := by omega
  simp (disch:=omega) only [BX, ↓reduceIte, c_ifI_0, g7, g8, clt, hk, dF]
  exact ⟨_, rfl, _, _, .weak Ab, lr _, rfl, rfl⟩
theorem cfI_c (hP : PE E) (W : AW) {q n : Nat} {nv v : V} {xs : List V} {l : List Nat} (hq : W.get q = some (.row [nv])) (hs : isQ 1 nv xs) (hn : xs.length = n) (hv : isS 1 v (natsV l)) (hl : ∀ k ∈ l, k < n) (hll : l.length < 2 ^ 40) : ACalls E 175 [v, .fn (.func 176) [] [.ptr q 0]] W fun Y W' => Y = .bool false ∧ W' = W := by
 refine ACalls.of hP Tryz.func175 ok_cfIe (by simp) fun _ hok => ?_
 simp only [BZ, ↓reduceIte, nE, reduceCtorEq, c_cfI, hv.frz]
 refine pc (ifI_c hP W hq hs hn hv hl hll) ?_
 have h1 : decide ((-1 : Int) ≥ 0) = false := by decide
 simp only [BS, BC, ↓reduceIte, h1]
 exact ⟨_, rfl, _, _, .weak Ab, lr _, rfl, rfl⟩
theorem may_c (hP : PE E) (W : AW) {nv : V} {nx : Nat → List Nat} {n : Nat} (hN : Nx nv nx n) (hn : n < 2 ^ 30) : ACalls E 138 [nv] W fun Y W' => Y = .bool true ∧ W' = W := by
 obtain ⟨xs, s1, s2, s3⟩ := hN.el
 refine ACalls.of hP Tryz.func138 ok_maye (by simp) fun _ hok => ?_
 refine Ae hok ?_
 have f1 := hN.cells
 simp (disch:=omega) only [BZ, ↓reduceIte, nE, BM, BD, c_may, f1.1, s1.len, s2]
 rw [Ai]
 refine alp (fun (k : Nat) A1 W1 => A1 1 = some (.ptr (rf W.nx 0) 0) ∧ A1 5 = some nv ∧ A1 6 = some (.int .i64 n) ∧ A1 7 = some (.int .i64 k) ∧ k ≤ n ∧ W1 = X W W.nx [.row [nv]]) (fun k => n - k) 0
  ⟨rfl, rfl, rfl, rfl, Nat.zero_le _, rfl⟩ ?_
 rintro k A1 W1 ⟨g1, g5, g6, g7, gk, rfl⟩ _
 by_cases hk : k < n
 ·have hat : xs[k]? = some (xs[k]'(by omega)) := gEg _
  have hx := s3 k (by omega)
  generalize xs[k]'(by omega) = x at hat hx
  have hrow : (X W W.nx [.row [nv]]).get (rf W.nx 0) = some (.row [nv]) := by rw [Ap]; rfl
  simp (disch:=omega) only [BX, ↓reduceIte, nE, BM, BD, c_may_0, g1, g5, g6, g7, clt, hk, dT, s1.idx hat, hx.loadf, hx.frz]
  refine pc (cfI_c hP _ hrow s1 s2 hx (hN.lt k hk) (by have := hN.sm k hk; omega)) ?_
  simp (disch:=omega) only [BS, BC, Ac, ↓reduceIte, nE, BM, BD, g1, g5, g6, g7, Ah]
  exact ⟨k + 1, ⟨tt, tt, tt, tt, hk, tt⟩, by omega, lr _⟩
 ·obtain rfl : k = n := by omega
  simp (disch:=omega) only [BX, ↓reduceIte, BM, BD, c_may_0, g6, g7, clt, hk, dF]
  exact ⟨_, rfl, _, W, Aw hok rfl, lr _, rfl, rfl⟩
theorem Rw (n : Nat) : zerosV [.int .i64 0, .int .i64 0, .bool false, .int .i64 0] n = nodeC TS.init n := by
 induction n with
 | zero => rfl
 | succ n ih =>
  rw [nodeC, ← ih]
  simp only [zerosV, List.replicate_succ', List.flatten_append, List.flatten_cons, List.flatten_nil, apn]
  rfl
theorem mkN {W : AW} {K : V → AW → Prop} {n : Nat} (h : n < 2 ^ 30) : sem E (.makesl 4 32 [.int .i64 0, .int .i64 0, .bool false, .int .i64 0]) [.int .i64 (n : Int), .int .i64 (n : Int)] W K = K (.slr W.nx 0 n 4) (W.alloc (.vec 4 (nodeC TS.init n))) := by
 simp only [sem, Int.toNat_natCast, Rw]
 exact propext ⟨fun h => h.2.2.2.2, fun h => ⟨by omega, tt, by omega, by omega, h⟩⟩
theorem groups_c (hP : PE E) (W : AW) {nv : V} {nx : Nat → List Nat} {n : Nat} (hN : Nx nv nx n) (hn : n < 2 ^ 30) :
  ACalls E 119 [nv] W fun Y W' => W.nx ≤ W'.nx ∧ (∀ x, x < W.nx → W'.get x = W.get x) ∧ ∃ rs rn hw ht he gs s, Y = .tuple [he, .int .i64 0] ∧ Sw n W.nx nv rs rn hw ht he gs s W' ∧ TB nx n s ∧ s.way = [] ∧ gs.length ≤ n ∧ ∀ i, i < n → 0 < s.met i := by
 obtain ⟨xs, s1, s2, s3⟩ := hN.el
 refine ACalls.of hP Tryz.func119 Sk (by simp) fun _ hok => ?_
 refine Ae hok ?_
 have f1 := hN.cells
 simp (disch:=omega) only [BZ, ↓reduceIte, reduceCtorEq, c_groups, s1.frz]
 refine pc (may_c hP _ hN hn) ?_
 simp (disch:=omega) only [BX, ↓reduceIte, nE, reduceCtorEq, BM, BD, nA, nL, s1.len, s2, mkN, f1.1, Hn]
 obtain ⟨W1, hW1⟩ : ∃ W1, W1 = X W W.nx [.vec 4 (nodeC TS.init n), .row [nv, .slr (rf W.nx 0) 0 n 4, .nilsl, .nilsl, .nilsl, .int .i64 0]] := ⟨_, rfl⟩
 rw [← hW1]
 have r0 : rf W.nx 0 = W.nx := rfl
 have r1 : rf W.nx 1 = W.nx + 1 := rfl
 have hn1 : W1.nx = W.nx + 2 := by rw [hW1]; rfl
 have h1 : Sw n W.nx nv (rf W.nx 1) (rf W.nx 0) .nilsl .nilsl .nilsl [] TS.init W1 :=
  ⟨by rw [hW1, Ap]; rfl, by rw [hW1, Ap]; rfl, .inl ⟨rfl, rfl⟩, .inl ⟨rfl, rfl⟩, .inl ⟨rfl, rfl⟩, fun g hg => (by cases hg), rfl, by omega, by omega, fun r hr => (by cases hr), fun r hr => (by cases hr), fun g hg => (by cases hg), by rw [hW1]; exact Cl.X⟩
 have hf1 : ∀ x, x < W.nx → W1.get x = W.get x := fun x hx => by rw [hW1]; exact Ag hx
 clear hW1
 rw [Ai]
 refine alp (fun (σ : Nat × V × V × V × List (Nat × List Nat) × TS) A1 W2 => A1 4 = some (.ptr (rf W.nx 1) 0) ∧ A1 16 = some (.int .i64 n) ∧ A1 17 = some (.int .i64 σ.1) ∧ σ.1 ≤ n ∧ Sw n W.nx nv (rf W.nx 1) (rf W.nx 0) σ.2.1 σ.2.2.1 σ.2.2.2.1 σ.2.2.2.2.1 σ.2.2.2.2.2 W2 ∧ TB nx n σ.2.2.2.2.2 ∧ σ.2.2.2.2.2.way = [] ∧ σ.2.2.2.2.1.length ≤ σ.2.2.2.2.2.cnt ∧ (∀ j, j < σ.1 → 0 < σ.2.2.2.2.2.met j) ∧ W.nx ≤ W2.nx ∧ ∀ x, x < W.nx → W2.get x = W.get x) (fun σ => n - σ.1) (0, .nilsl, .nilsl, .nilsl, [], TS.init)
  ⟨rfl, rfl, rfl, Nat.zero_le _, h1, TB.init nx n, rfl, lr _, fun j hj => by simp at hj, by omega, hf1⟩ ?_
 rintro ⟨i, hw, ht, he, gs, s⟩ A1 W2 ⟨g4, g16, g17, gi, gS, gB, gw, gl, gm, gn, gf⟩ _
 simp only at g17 gi gS gB gw gl gm
 by_cases hi : i < n
 ·by_cases hm : s.met i = 0
  ·have hb : ((s.met i : Int) == 0) = true := by rw [hm]; rfl
   simp (disch:=omega) only [BX, ↓reduceIte, nE, BM, BD, c_groups_0, g4, g16, g17, clt, hi, dT, gS.row, gS.nod, ix4, C0, vl0, hb]
   refine (from_c hP W2 gS gB hN gw hn hi hm gl).mono ?_
   rintro Y W3 ⟨q1, q2, hw', ht', he', gs', s', q3, q4, q5, q6, q7, q8⟩
   simp (disch:=omega) only [BS, ↓reduceIte, nE, g4, g16, g17, Ah]
   refine ⟨(i + 1, hw', ht', he', gs', s'), ⟨tt, tt, tt, hi, q3, q4, q5, q6, fun j hj => ?_, by omega, fun x hx => (q2 x hx).trans (gf x hx)⟩, by show n - (i + 1) < n - i; omega, by omega⟩
   by_cases e : j = i
   ·rw [e]; exact q7
   ·exact q8 j (gm j (by have : j < i + 1 := hj; omega))
  ·have hb : ((s.met i : Int) == 0) = false := by simp; omega
   simp (disch:=omega) only [BX, ↓reduceIte, nE, BM, BD, c_groups_0, g4, g16, g17, clt, hi, dT, gS.row, gS.nod, ix4, C0, vl0, hb, Ah]
   refine ⟨(i + 1, hw, ht, he, gs, s), ⟨tt, tt, tt, hi, gS, gB, gw, gl, fun j hj => ?_, by omega, gf⟩, by show n - (i + 1) < n - i; omega, by omega⟩
   by_cases e : j = i
   ·rw [e]; show 0 < s.met i; omega
   ·exact gm j (by have : j < i + 1 := hj; omega)
 ·obtain rfl : i = n := by omega
  have hfz := gS.eds.frz (W1 := W2)
  have hcn := gB.cn
  simp (disch:=omega) only [BX, ↓reduceIte, nE, BM, BD, c_groups_0, g4, g16, g17, clt, hi, dF, gS.row, hfz]
  exact ⟨_, rfl, _, _, .weak Ab, gn, gn, gf, _, _, _, _, _, _, _, rfl, gS, gB, gw, by omega, gm⟩
open Go Go.AL Go.Proofs Go.Shelf
def c_number_1 : AC := (.r [.b 22 (.bin .lss) 21 20] (.seq (.w 22 2) (.seq (.block 3 (.r [.b 23 (.idxp 1) 19 21,.u 24 (.load false 1) 23,.m 9 24] (.reg [.m 25 5,.m 26 9,.m 27 6,.b 28 (.idxp 1) 25 26,⟨none,.store 1, [.t 28,.t 27], none⟩]))) (.reg [.a 29 (.bin .add) 21 1,.m 21 29]))))
def c_number_0 : AC := (.r [.b 15 (.bin .lss) 14 13] (.seq (.w 15 0) (.seq (.block 1 (.r [.m 16 14,.b 17 (.idxp 1) 12 14,.u 18 (.load false 1) 17,.m 6 16,.m 7 18] (.r [.m 19 7,.u 20 (.len 1 0) 19,.v 21 (.int .i64 0)] (.block 2 (.loop c_number_1))))) (.reg [.a 30 (.bin .add) 14 1,.m 14 30]))))
def c_number : AC := (.r [.v 4 (.nilsl)] (.r [.m 10 0,.b 11 (.makesl 1 8 [.int .i64 0]) 10 10,.m 5 11] (.seq (.r [.m 12 1,.u 13 (.len 1 0) 12,.v 14 (.int .i64 0)] (.block 0 (.loop c_number_0))) (.r [.m 31 5,.m 4 31] .ret))))
theorem K4 : compF Tryz.prog Tryz.f94 ⟨true, false, []⟩ = some (c_number, [.tmp 4], 32) := by kernel_rfl
def c_groupsS : AC := (.r [.v 2 (.nilsl),.v 3 (.int .i64 0)] (.r [.m 7 0,.u 8 (.call 119) 7,.m 6 8,.u 9 (.ext 0) 6,.u 10 (.ext 1) 6,.m 4 9,.m 5 10] (.r [.m 11 4,.p 12 (.call 120) [.t 11,.f 121]] (.r [.m 13 4,.m 14 5,.m 2 13,.m 3 14] .ret))))
theorem Qk : compF Tryz.prog Tryz.f93 ⟨true, false, []⟩ = some (c_groupsS, [.tmp 2, .tmp 3], 15) := by kernel_rfl
def c_comp : AC := (.r [.v 2 (.nilsl),.v 3 (.int .i64 0)] (.r [.m 7 0,.u 8 (.call 93) 7,.m 6 8,.u 9 (.ext 0) 6,.u 10 (.ext 1) 6,.m 4 9,.m 5 10] (.seq (.r [.m 11 5,.a 12 (.bin .neq) 11 0] (.cond (.t 12) (.r [.m 13 5,.v 2 (.nilsl),.m 3 13] .ret) .skip)) (.r [.m 14 0,.u 15 (.len 1 0) 14,.m 16 4,.b 17 (.call 94) 15 16,.m 2 17,.v 3 (.int .i64 0)] .ret))))
theorem Ql : compF Tryz.prog Tryz.f63 ⟨true, false, []⟩ = some (c_comp, [.tmp 2, .tmp 3], 18) := by kernel_rfl
theorem Wv (hP : PE E) (W : AW) {he : V} {lo : Nat} (h : slH W he [] lo) : ACalls E 120 [he, .fn (.func 121) [] []] W fun Y W' => Y = .tuple [] ∧ W' = W := by
 refine ⟨⟨_, _, by rw [hP]; exact Tryz.func120, rfl, by decide⟩, fun _ γ w ws hW hr => ?_⟩
 obtain ⟨v, _, rfl, hv, v2, _, rfl, ⟨fs, cs2, rfl, hf1, hf2⟩, rfl⟩ := hr
 cases hf1; cases hf2
 obtain ⟨p, cap, rfl⟩ : ∃ p cap, v = .slice p 0 cap := by
  rcases h with ⟨rfl, _⟩ | ⟨r, cs, _, _, rfl, _⟩
  ·exact ⟨none, 0, hv⟩
  ·obtain ⟨b, a, _, rfl, _⟩ := hv
   exact ⟨some a, _, rfl⟩
 have L := Xbx
 have hk := AnyF.slices_SortFunc_none (P := Tryz.prog) (ρ := laysLL_ren) { L with } p cap (.func (.func 121) #[] #[]) w
 rw [hP]
 refine Calls.mono hk ?_
 rintro en w' ⟨rfl, rfl⟩
 exact ⟨_, γ, .tuple [], W, rfl, G.le.refl _ _, lr _, hW, ⟨[], rfl, rfl⟩, rfl, rfl⟩
theorem Rl (l : List Nat) (n : Nat) : V.belL n (natsV l) = true := by
 induction l with
 | nil => rfl
 | cons x l ih => simp only [natsV, mcs, V.belL, Bool.and_eq_true] at ih ⊢; exact ⟨rfl, ih⟩
def NumI (gs : List (List Nat)) (k : Nat) (out : List Nat) : Prop := ∀ i (h : i < out.length), (∀ m, m < k → i ∉ gs.getD m []) ∨ ∃ m, m < k ∧ i ∈ gs.getD m [] ∧ out[i] = m ∧ ∀ m', m < m' → m' < k → i ∉ gs.getD m' []
theorem NumI.zero (gs : List (List Nat)) (out : List Nat) : NumI gs 0 out := fun i h => .inl fun m hm => by omega
theorem NumI.step {gs : List (List Nat)} {k : Nat} {out out' : List Nat} (h : NumI gs k out) (hl : out'.length = out.length) (h' : ∀ i (h1 : i < out'.length) (h2 : i < out.length), (i ∈ gs.getD k [] → out'[i] = k) ∧ (i ∉ gs.getD k [] → out'[i] = out[i])) : NumI gs (k + 1) out' := by
 intro i hi
 have hi2 : i < out.length := by omega
 obtain ⟨a, b⟩ := h' i hi hi2
 by_cases hm : i ∈ gs.getD k []
 ·exact .inr ⟨k, by omega, hm, a hm, fun m' h1 h2 => by omega⟩
 ·rcases h i hi2 with c | ⟨m, m1, m2, m3, m4⟩
  ·exact .inl fun m hmk => by
    by_cases e : m = k
    ·rw [e]; exact hm
    ·exact c m (by omega)
  ·exact .inr ⟨m, by omega, m2, by rw [b hm]; exact m3, fun m' h1 h2 => by
    by_cases e : m' = k
    ·rw [e]; exact hm
    ·exact m4 m' h1 (by omega)⟩
theorem NumI.same {gs : List (List Nat)} {out : List Nat} (h : NumI gs gs.length out) (hall : ∀ i, i < out.length → ∃ g ∈ gs, i ∈ g) (hone : ∀ g ∈ gs, ∀ g' ∈ gs, ∀ i, i ∈ g → i ∈ g' → ∀ j, j ∈ g ↔ j ∈ g') {i j : Nat} (hi : i < out.length) (hj : j < out.length) : out[i] = out[j] ↔ ∃ g ∈ gs, i ∈ g ∧ j ∈ g := by
 have hmem : ∀ m, m < gs.length → gs.getD m [] ∈ gs := fun m hm => by rw [List.getD_eq_getElem?_getD, gEg hm]; exact gmm _
 have hex : ∀ i (hi : i < out.length), ∃ m, m < gs.length ∧ i ∈ gs.getD m [] ∧ out[i] = m ∧ ∀ m', m < m' → m' < gs.length → i ∉ gs.getD m' [] := fun i hi => by
  rcases h i hi with c | c
  ·obtain ⟨g, hg, hig⟩ := hall i hi
   obtain ⟨m, hm, rfl⟩ := List.getElem_of_mem hg
   refine absurd ?_ (c m hm)
   rw [List.getD_eq_getElem?_getD, gEg hm]; exact hig
  ·exact c
 obtain ⟨a, a1, a2, a3, a4⟩ := hex i hi
 obtain ⟨b, b1, b2, b3, b4⟩ := hex j hj
 rw [a3, b3]
 constructor
 ·rintro rfl; exact ⟨_, hmem _ a1, a2, b2⟩
 ·rintro ⟨g, hg, h1, h2⟩
  have e1 : j ∈ gs.getD a [] := (hone _ (hmem _ a1) g hg i a2 h1 j).2 h2
  have e2 : i ∈ gs.getD b [] := (hone _ (hmem _ b1) g hg j b2 h2 i).2 h1
  have c1 : ¬ b < a := fun hlt => b4 a hlt a1 e1
  have c2 : ¬ a < b := fun hlt => a4 b hlt b1 e2
  omega
theorem mk8 {W : AW} {K : V → AW → Prop} {n : Nat} (h : n < 2 ^ 30) : sem E (.makesl 1 8 [.int .i64 0]) [.int .i64 (n : Int), .int .i64 (n : Int)] W K = K (.slr W.nx 0 n 1) (W.alloc (.vec 1 (natsV (List.replicate n 0)))) := by
 have hz : ∀ k, zerosV [V.int .i64 0] k = natsV (List.replicate k 0) := fun k => by
  induction k with
  | zero => rfl
  | succ k ih => simp only [zerosV, List.replicate_succ, List.flatten_cons, natsV, mcs] at ih ⊢; rw [ih]; rfl
 simp only [sem, Int.toNat_natCast, hz]
 exact propext ⟨fun h => h.2.2.2.2, fun h => ⟨by omega, tt, by omega, by omega, h⟩⟩
theorem vs_nat {l : List Nat} {i a : Nat} {k : AObj → Prop} (h : i < l.length) : vstoreK (some (.vec 1 (natsV l))) i 1 (.int .i64 (a : Int)) k = k (.vec 1 (natsV (l.set i a))) := by
 have e : (natsV l).take i ++ (V.int .i64 (a : Int)).cells ++ (natsV l).drop (i + 1) = natsV (l.set i a) := by
  have : natsV (l.set i a) = (natsV l).set i (.int .i64 (a : Int)) := by simp [natsV, List.map_set]
  rw [this, List.set_eq_take_append_cons_drop, if_pos (by rw [An]; exact h)]
  simp [V.cells]
 simp only [vstoreK, e]
 exact propext ⟨fun h => h.2.2.2, fun h' => ⟨rfl, rfl, by rw [An]; omega, h'⟩⟩
theorem num1_go (_ : E.P = Tryz.prog) {W : AW} {ro n z k : Nat} {out g : List Nat} {v12 v13 : V} (ho : W.get ro = some (.vec 1 (natsV out))) (hol : out.length = n) (hz : W.get z = some (.vec 1 (natsV g))) (hzo : z ≠ ro) (hrl : ro < W.nx) (hC : Cl W) (hgn : ∀ i ∈ g, i < n) (hgl : g.length < 2 ^ 40) {A : AFr} {Q : Exit → AFr → AW → Prop}
  (a5 : A 5 = some (.slr ro 0 n 1)) (a6 : A 6 = some (.int .i64 (k : Int))) (a12 : A 12 = some v12) (a13 : A 13 = some v13) (a14 : A 14 = some (.int .i64 (k : Int))) (a19 : A 19 = some (.slr z 0 g.length 1)) (a20 : A 20 = some (.int .i64 g.length)) (a21 : A 21 = some (.int .i64 0))
  (hQ : ∀ A' W' out', A' 5 = some (.slr ro 0 n 1) → A' 12 = some v12 → A' 13 = some v13 → A' 14 = some (.int .i64 (k : Int)) → out'.length = n → W'.get ro = some (.vec 1 (natsV out')) → (∀ i (h1 : i < out'.length) (h2 : i < out.length), (i ∈ g → out'[i] = k) ∧ (i ∉ g → out'[i] = out[i])) → W'.nx = W.nx → Cl W' → (∀ x, x ≠ ro → W'.get x = W.get x) → Q (.exit 2) A' W') : ALoop (awp E c_number_1) Q A W := by
 refine alp (fun (σ : Nat × List Nat) A1 W1 => A1 5 = some (.slr ro 0 n 1) ∧ A1 6 = some (.int .i64 (k : Int)) ∧ A1 12 = some v12 ∧ A1 13 = some v13 ∧ A1 14 = some (.int .i64 (k : Int)) ∧ A1 19 = some (.slr z 0 g.length 1) ∧ A1 20 = some (.int .i64 g.length) ∧ A1 21 = some (.int .i64 σ.1) ∧ σ.1 ≤ g.length ∧ σ.2.length = n ∧ W1.get ro = some (.vec 1 (natsV σ.2)) ∧ (∀ i (h1 : i < σ.2.length) (h2 : i < out.length), (i ∈ g.take σ.1 → σ.2[i] = k) ∧ (i ∉ g.take σ.1 → σ.2[i] = out[i])) ∧ W1.nx = W.nx ∧ Cl W1 ∧ ∀ x, x ≠ ro → W1.get x = W.get x) (fun σ => g.length - σ.1) (0, out)
  ⟨a5, a6, a12, a13, a14, a19, a20, a21, Nat.zero_le _, hol, ho, fun i h1 h2 => ⟨fun h => by simp at h, fun _ => rfl⟩, rfl, hC, fun _ _ => rfl⟩ ?_
 rintro ⟨j, o⟩ A1 W1 ⟨g5, g6, g12, g13, g14, g19, g20, g21, gj, gl, go, gp, gn, gC, gf⟩ _
 simp only at g21 gj gl go gp
 by_cases hj : j < g.length
 ·have hat : (natsV g)[j]? = some (.int .i64 (g[j] : Nat)) := D4 hj
  have htk : g.take (j + 1) = g.take j ++ [g[j]] := by rw [tao, gEg hj]; rfl
  have hin := hgn _ (gmm hj)
  generalize g[j] = i at hat htk hin
  have gz := (gf z hzo).trans hz
  have hio : i < o.length := by omega
  simp (disch:=omega) only [BS, Am, Ac, ↓reduceIte, nE, BM, c_number_1, g5, g6, g12, g13, g14, g19, g20, g21, clt, hj, dT, zx1, C0, gz, Hv hat, Es, go, vs_nat hio, Ah]
  refine ⟨(j + 1, o.set i k), ⟨tt, tt, tt, tt, tt, tt, tt, tt, hj, by simpa using gl, put_at, fun x h1 h2 => ?_, gn, gC.put (by omega), fun x hx => by rw [put_ne hx]; exact gf x hx⟩, by show g.length - (j + 1) < g.length - j; omega, by rw [Af]; omega⟩
  have h1' : x < o.length := by simpa using h1
  obtain ⟨p1, p2⟩ := gp x h1' h2
  show (x ∈ g.take (j + 1) → (o.set i k)[x] = k) ∧ (x ∉ g.take (j + 1) → (o.set i k)[x] = out[x])
  rw [htk, List.getElem_set]
  by_cases e : i = x
  ·rw [if_pos e]
   exact ⟨fun _ => rfl, fun hn => absurd (List.mem_append_right _ (by rw [e]; simp)) hn⟩
  ·rw [if_neg e]
   refine ⟨fun hm => p1 ((List.mem_append.1 hm).resolve_right fun h => e (List.mem_singleton.1 h).symm), fun hn => p2 fun hm => hn (List.mem_append_left _ hm)⟩
 ·obtain rfl : j = g.length := by omega
  rw [tkl] at gp
  simp (disch:=omega) only [BX, ↓reduceIte, c_number_1, g20, g21, clt, hj, dF]
  exact hQ _ _ o g5 g12 g13 g14 gl go gp gn gC gf
theorem Xay (hP : PE E) (W : AW) {re n : Nat} {gs : List (Nat × List Nat)} (hg : W.get re = some (.vec 1 (gs.map egV))) (hre : re < W.nx) (hgr : ∀ g ∈ gs, g.1 < W.nx ∧ W.get g.1 = some (.vec 1 (natsV g.2)) ∧ (∀ i ∈ g.2, i < n) ∧ g.2.length ≤ n) (hn : n < 2 ^ 30) (hn0 : 0 < n) (hm : gs.length ≤ 2 ^ 30) :
  ACalls E 94 [.int .i64 (n : Int), .slr re 0 gs.length 1] W fun Y W' => ∃ out : List Nat, Y = .sl 1 false (natsV out) ∧ W' = W ∧ out.length = n ∧ NumI (gs.map (·.2)) gs.length out := by
 refine ACalls.of hP Tryz.func94 K4 (by simp) fun _ hok => ?_
 have hC0 := H6 hok
 simp (disch:=omega) only [BZ, ↓reduceIte, nE, reduceCtorEq, c_number, mk8]
 obtain ⟨W1, hW1⟩ : ∃ W1, W1 = W.alloc (.vec 1 (natsV (List.replicate n 0))) := ⟨_, rfl⟩
 rw [← hW1]
 have k1 : W1.nx = W.nx + 1 := by rw [hW1]; rfl
 have k2 : W1.get W.nx = some (.vec 1 (natsV (List.replicate n 0))) := by rw [hW1]; exact Ay
 have k3 : ∀ x, x < W.nx → W1.get x = W.get x := fun x hx => by rw [hW1]; exact Ak hx
 have k4 : Cl W1 := fun r hr => by rw [k1] at hr; rw [hW1, Ci, if_neg (by omega)]; exact hC0 r (by omega)
 clear hW1
 rw [Ai]
 refine alp (fun (σ : Nat × List Nat) A1 W2 => A1 5 = some (.slr W.nx 0 n 1) ∧ A1 12 = some (.slr re 0 gs.length 1) ∧ A1 13 = some (.int .i64 gs.length) ∧ A1 14 = some (.int .i64 σ.1) ∧ σ.1 ≤ gs.length ∧ σ.2.length = n ∧ W2.get W.nx = some (.vec 1 (natsV σ.2)) ∧ NumI (gs.map (·.2)) σ.1 σ.2 ∧ W2.nx = W1.nx ∧ Cl W2 ∧ ∀ x, x ≠ W.nx → W2.get x = W1.get x) (fun σ => gs.length - σ.1) (0, List.replicate n 0)
  ⟨rfl, rfl, rfl, rfl, Nat.zero_le _, by simp, k2, NumI.zero _ _, rfl, k4, fun _ _ => rfl⟩ ?_
 rintro ⟨k, out⟩ A1 W2 ⟨g5, g12, g13, g14, gk, gl, go, gI, gn, gC, gf⟩ _
 simp only at g14 gk gl go gI
 by_cases hk : k < gs.length
 ·have hat : (gs.map egV)[k]? = some (.slr gs[k].1 0 gs[k].2.length 1) := by simp [hk, egV]
  have hgd : (gs.map (·.2)).getD k [] = gs[k].2 := by simp [hk]
  obtain ⟨q1, q2, q3, q4⟩ := hgr _ (gmm hk)
  generalize gs[k] = g at hat hgd q1 q2 q3 q4
  have hre2 : W2.get re = some (.vec 1 (gs.map egV)) := by rw [gf re (by omega), k3 re hre]; exact hg
  have hz2 : W2.get g.1 = some (.vec 1 (natsV g.2)) := by rw [gf g.1 (by omega), k3 g.1 q1]; exact q2
  simp (disch:=omega) only [BS, Am, Ac, ↓reduceIte, nE, c_number_0, g12, g13, g14, clt, hk, dT, zx1, C0, hre2, Hv hat, Ai]
  refine num1_go hP (ro := W.nx) (n := n) (z := g.1) (k := k) go gl hz2 (by omega) (by omega) gC q3 (by omega) tt tt tt tt tt tt tt tt ?_
  intro A' W3 out' b5 b12 b13 b14 bl bo bp bn bC bf
  simp (disch:=omega) only [BS, ↓reduceIte, nE, b5, b12, b13, b14, Ah]
  refine ⟨(k + 1, out'), ⟨tt, tt, tt, tt, hk, bl, bo, gI.step (by show out'.length = out.length; omega) ?_, by omega, bC, fun x hx => (bf x hx).trans (gf x hx)⟩, by show gs.length - (k + 1) < gs.length - k; omega, by omega⟩
  intro i h1 h2
  rw [hgd]; exact bp i h1 h2
 ·obtain rfl : k = gs.length := by omega
  simp (disch:=omega) only [BX, ↓reduceIte, nE, c_number_0, g5, g13, g14, clt, hk, dF]
  have hch : chunks 1 n (natsV out) = natsV out := by
   have := Hm (natsV out) []
   rwa [apn, An, gl] at this
  refine ⟨_, rfl, .sl 1 false (natsV out), W, ?_, lr _, out, rfl, rfl, gl, gI⟩
  rw [← hch]
  refine .frz go (by rw [An]; omega) hn0 (by decide) (K7 _) ?_
  refine Aj hok (by rw [hch]; exact Rl _ _) ?_
  intro x hx
  have : x ≠ W.nx := by omega
  simp only [AW.drop, this, ↓reduceIte]
  rw [gf x this, k3 x hx]
end Go.AL.S
namespace Go.AL.S
open Go Go.AL Go.Proofs
variable {E : Env}
theorem Tq {nx : Nat → List Nat} {n : Nat} {s : TS} {gs' gs : List (Nat × List Nat)} {out : List Nat} (hB : TB nx n s) (hw : s.way = []) (hall : ∀ i, i < n → 0 < s.met i) (he : s.ended = gs.map (·.2)) (hp : gs'.Perm gs) (hl : out.length = n) (hI : NumI (gs'.map (·.2)) gs'.length out) :
  ∀ i j (hi : i < out.length) (hj : j < out.length), out[i] = out[j] ↔ Rch nx i j ∧ Rch nx j i := by
 intro i j hi hj
 have hm : ∀ g, g ∈ gs'.map (·.2) ↔ g ∈ s.ended := fun g => by rw [he]; exact (hp.map _).mem_iff
 have hI' : NumI (gs'.map (·.2)) (gs'.map (·.2)).length out := by rw [lmp]; exact hI
 rw [hI'.same (fun i hi => ?_) (fun g hg g' hg' i h1 h2 => hB.ti.once ((hm g).1 hg) ((hm g').1 hg') h1 h2) hi hj]
 ·rw [← hB.ti.classes hw (hall i (by omega))]
  exact ⟨fun ⟨g, h1, h2⟩ => ⟨g, (hm g).1 h1, h2⟩, fun ⟨g, h1, h2⟩ => ⟨g, (hm g).2 h1, h2⟩⟩
 ·have hf := hB.ti.fin hw
  obtain ⟨g, hg, hig⟩ := (hB.ti.all i).1 ⟨hall i (by omega), by rw [hf]; exact List.not_mem_nil⟩
  exact ⟨g, (hm g).2 hg, hig⟩
theorem M7 (hP : PE E) (W : AW) {nv : V} {nx : Nat → List Nat} {n : Nat} (hN : Nx nv nx n) (hn : n < 2 ^ 30) :
  ACalls E 93 [nv] W fun Y W' => W.nx ≤ W'.nx ∧ (∀ x, x < W.nx → W'.get x = W.get x) ∧ ∃ (he : V) (gs' gs : List (Nat × List Nat)) (s : TS), Y = .tuple [he, .int .i64 0] ∧ TB nx n s ∧ s.way = [] ∧ (∀ i, i < n → 0 < s.met i) ∧ s.ended = gs.map (·.2) ∧ gs'.Perm gs ∧ gs.length ≤ n ∧
   ((gs = [] ∧ slH W' he [] W.nx) ∨ gs ≠ [] ∧ ∃ re, he = .slr re 0 gs'.length 1 ∧ re < W'.nx ∧ W'.get re = some (.vec 1 (gs'.map egV)) ∧ ∀ g ∈ gs', g.1 < W'.nx ∧ W'.get g.1 = some (.vec 1 (natsV g.2)) ∧ (∀ i ∈ g.2, i < n) ∧ g.2.length ≤ n) := by
 refine ACalls.of hP Tryz.func93 Qk (by simp) fun _ hok => ?_
 obtain ⟨xs, s1, s2, s3⟩ := hN.el
 simp only [BZ, ↓reduceIte, reduceCtorEq, c_groupsS, s1.frz]
 refine (groups_c hP W hN hn).mono ?_
 rintro _ W1 ⟨k1, k2, rs, rn, hw, ht, he, gs, s, rfl, hS, hB, hwy, hgl, hall⟩
 have hfz := hS.eds.frz (W1 := W1)
 have hfz1 : W1.frz (.fn (.func 121) [] []) = .fn (.func 121) [] [] := rfl
 simp only [BZ, ↓reduceIte, nE, hfz, hfz1]
 by_cases hge : gs = []
 ·have hse := hS.eds
  rw [hge] at hse
  refine pc (Wv hP W1 hse) ?_
  simp only [BS, Am, ↓reduceIte, nE, hfz]
  exact ⟨_, rfl, _, _, .weak Ab, k1, k1, k2, he, gs, gs, s, rfl, hB, hwy, hall, hS.eg, .refl _, hgl, .inl ⟨hge, hse⟩⟩
 ·have hpos : 0 < gs.length := List.length_pos_iff.2 hge
  obtain ⟨re, ce, rfl, ge, e1, e2⟩ := hS.eds.slr (by rw [lmp]; exact hpos)
  rw [lmp] at hS hfz ⊢
  have hgr : ∀ g ∈ gs, 0 < g.2.length ∧ W1.get g.1 = some (.vec 1 (natsV g.2)) ∧ g.1 ≠ re ∧ (∀ i ∈ g.2, i < n) ∧ g.2.length ≤ n := fun g hg => by
   obtain ⟨a1, a2, a3⟩ := hS.grp g hg
   have hge : g.2 ∈ s.ended := by rw [hS.eg]; exact List.mem_map.2 ⟨g, hg, rfl⟩
   obtain ⟨b1, b2⟩ := hB.ti.grp _ hge
   refine ⟨List.length_pos_iff.2 b1, a3, fun e => (hS.d3 g hg).2.2 (by rw [e]; rfl), fun i hi => ?_, hB.gl _ hge⟩
   exact hB.lt i ((hB.ti.all i).2 ⟨g.2, hge, hi⟩).1
  refine (Zl hP W1 ge hpos (by omega) fun g hg => ⟨(hgr g hg).1, (hgr g hg).2.1, (hgr g hg).2.2.1, fun i hi => by have := (hgr g hg).2.2.2.1 i hi; omega⟩).mono ?_
  rintro _ W2 ⟨rfl, gs', hp, rfl⟩
  simp only [BS, Am, ↓reduceIte, nE]
  refine ⟨_, rfl, _, _, .weak Ab, k1, k1, fun x hx => by rw [put_ne (by omega)]; exact k2 x hx, _, gs', gs, s, rfl, hB, hwy, hall, hS.eg, hp, hgl, .inr ⟨hge, re, by rw [hp.length_eq], e2, put_at, fun g hg => ?_⟩⟩
  obtain ⟨c1, c2, c3, c4, c5⟩ := hgr g (hp.mem_iff.1 hg)
  exact ⟨(hS.grp g (hp.mem_iff.1 hg)).2.1, by rw [put_ne c3]; exact c2, c4, c5⟩
theorem comp_c (hP : PE E) (W : AW) {nv : V} {nx : Nat → List Nat} {n : Nat} (hN : Nx nv nx n) (hn : n < 2 ^ 30) (hn0 : 0 < n) :
  ACalls E 63 [nv] W fun Y W' => W' = W ∧ ∃ out : List Nat, Y = .tuple [.sl 1 false (natsV out), .int .i64 0] ∧ out.length = n ∧ ∀ i j (hi : i < out.length) (hj : j < out.length), out[i] = out[j] ↔ Rch nx i j ∧ Rch nx j i := by
 refine ACalls.of hP Tryz.func63 Ql (by simp) fun _ hok => ?_
 obtain ⟨xs, s1, s2, s3⟩ := hN.el
 simp only [BZ, ↓reduceIte, reduceCtorEq, c_comp, s1.frz]
 refine (M7 hP W hN hn).mono ?_
 rintro _ W1 ⟨k1, k2, he, gs', gs, s, rfl, hB, hwy, hall, hse, hp, hgl, hd⟩
 have hb : ((0 : Int) != 0) = false := by decide
 have hgne : gs ≠ [] := fun e => by
  have hf := hB.ti.fin hwy
  obtain ⟨g, hg, _⟩ := (hB.ti.all 0).1 ⟨hall 0 hn0, by rw [hf]; exact List.not_mem_nil⟩
  rw [hse, e] at hg; cases hg
 obtain ⟨_, re, rfl, hre, hrg, hgr⟩ := hd.resolve_left fun h => hgne h.1
 simp only [BX, ↓reduceIte, nE, reduceCtorEq, hb, s1.len, s2]
 refine (Xay hP W1 hrg hre hgr hn hn0 (by rw [hp.length_eq]; omega)).mono ?_
 rintro _ W2 ⟨out, rfl, rfl, o1, o2⟩
 simp only [BS, ↓reduceIte, nE]
 exact ⟨_, rfl, _, W, .weak (Aj hok (by simp only [V.bel, V.belL, Rl, Bool.and_true]) k2), lr _, rfl, out, rfl, o1, Tq hB hwy hall hse hp o1 o2⟩
theorem X7 (hP : PE E) (W : AW) {he : V} {lo : Nat} (h : slH W he [] lo) : ACalls E 94 [.int .i64 0, he] W fun Y W' => Y = .slr W.nx 0 0 1 ∧ Ex W W' := by
 refine ACalls.of hP Tryz.func94 K4 (by simp) fun _ hok => ?_
 have hC0 := H6 hok
 have hmk : ∀ (W : AW) K, sem E (.makesl 1 8 [.int .i64 0]) [.int .i64 0, .int .i64 0] W K = K (.slr W.nx 0 0 1) (W.alloc (.vec 1 [])) := fun W K => mk8 (n := 0) (by decide)
 have hln : ∀ (W : AW) K n, sem E (.len 1 n) [he] W K = K (.int .i64 0) W := fun W K n => h.len
 have h0 : decide ((0 : Int) < 0) = false := by decide
 simp only [BZ, ↓reduceIte, nE, reduceCtorEq, c_number, hmk, hln]
 rw [Ai]
 refine alp (fun (_ : Unit) A1 W2 => A1 5 = some (.slr W.nx 0 0 1) ∧ A1 13 = some (.int .i64 0) ∧ A1 14 = some (.int .i64 0) ∧ W2 = W.alloc (.vec 1 [])) (fun _ => 0) ()
  ⟨rfl, rfl, rfl, rfl⟩ ?_
 rintro _ A1 W2 ⟨g5, g13, g14, rfl⟩ _
 simp only [BX, ↓reduceIte, nE, nT, c_number_0, g5, g13, g14, h0]
 refine ⟨_, rfl, _, _, .weak Ab, by rw [Ad]; omega, rfl, fun r hr => ?_, by rw [Ad]; omega, fun x hx => Ak hx⟩
 rw [Ad] at hr
 rw [Ci, if_neg (by omega)]; exact hC0 r (by omega)
theorem comp0_c (hP : PE E) (W : AW) {nv : V} {nx : Nat → List Nat} (hN : Nx nv nx 0) : ACalls E 63 [nv] W fun Y W' => Ex W W' ∧ ∃ r, Y = .tuple [.slr r 0 0 1, .int .i64 0] := by
 refine ACalls.of hP Tryz.func63 Ql (by simp) fun _ hok => ?_
 obtain ⟨xs, s1, s2, s3⟩ := hN.el
 simp only [BZ, ↓reduceIte, reduceCtorEq, c_comp, s1.frz]
 refine (M7 hP W hN (by decide)).mono ?_
 rintro _ W1 ⟨k1, k2, he, gs', gs, s, rfl, hB, hwy, hall, hse, hp, hgl, hd⟩
 have hb : ((0 : Int) != 0) = false := by decide
 have hge : gs = [] := List.eq_nil_of_length_eq_zero (by omega)
 have hx0 : ((xs.length : Nat) : Int) = 0 := by rw [s2]; rfl
 have hn1 : slH W1 he [] W.nx := by
  rcases hd with ⟨_, h⟩ | ⟨h, _⟩
  ·exact h
  ·exact absurd hge h
 have hfz := hn1.frz (W1 := W1)
 simp only [BX, ↓reduceIte, nE, reduceCtorEq, hb, s1.len, hx0, hfz]
 refine (X7 hP W1 hn1).mono ?_
 rintro _ W2 ⟨rfl, hE⟩
 simp only [BS, ↓reduceIte, nE]
 exact ⟨_, rfl, _, _, .weak Ab, by have := hE.nx; omega, ⟨hE.cl, by have := hE.nx; omega, fun x hx => by rw [hE.get x (by omega)]; exact k2 x hx⟩, _, rfl⟩
set_option maxHeartbeats 2000000
open Go Go.AL Go.AL.SE Go.Proofs
def c_next_B1 : AC := (.block 1 (.seq (.par (.step 4 (.u 27 (.fld 0) 6) (.step 0 (.u 23 (.load false 1) 2) (.step 1 (.u 24 .nilck 23) (.step 2 (.u 25 (.fld 0) 24) (.step 3 (.u 26 (.load false 1) 25) (.step 5 (.u 28 (.load false 1) 27) (.step 6 (.b 29 (.call 88) 26 28) (.step 7 (.m 22 29) (.step 8 (.u 30 (.ext 0) 22) (.step 9 (.u 31 (.ext 1) 22) (.step 10 (.m 7 30) (.step 11 (.m 8 31) .done))))))))))))) (.seq (.par (.step 4 (.u 37 (.fld 1) 6) (.step 0 (.u 33 (.load false 1) 2) (.step 1 (.u 34 .nilck 33) (.step 2 (.u 35 (.fld 0) 34) (.step 3 (.u 36 (.load false 1) 35) (.step 5 (.u 38 (.load false 1) 37) (.step 6 (.b 39 (.call 88) 36 38) (.step 7 (.m 32 39) (.step 8 (.u 40 (.ext 0) 32) (.step 9 (.u 41 (.ext 1) 32) (.step 10 (.m 9 40) (.step 11 (.m 10 41) .done))))))))))))) (.r [.u 42 (.load false 1) 3,.u 43 (.fld 2) 6,.u 44 (.load false 1) 43,.b 45 (.call 48) 42 44,.m 46 45,.U 47 (.load false 1) 5 46 true,.M 48 7 46 true,.B 49 (.idxp 1) 47 48 46 true,.U 50 (.load false 1) 49 46 true,.M 51 9 46 true,.B 52 (.call 89) 50 51 46 true,.U 53 (.un .not) 52 46 true,.p 54 .pick [.t 46,.t 53,.F]] (.cond (.t 54) (.par (.step 1 (.m 56 7) (.step 3 (.m 58 7) (.step 6 (.m 61 9) (.step 7 (.u 62 (.bslice 1 1 (.int .i64 0) [0]) 61) (.step 2 (.u 57 (.load false 1) 5) (.step 4 (.b 59 (.idxp 1) 57 58) (.step 5 (.u 60 (.load false 1) 59) (.alt (.step 0 (.u 55 (.load false 1) 5) (.step 8 (.b 63 (.append 1 8) 60 62) (.step 9 (.b 64 (.idxp 1) 55 56) (.step 10 ⟨none,.store 1, [.t 64,.t 63], none⟩ .done)))) (.step 8 (.b 63 (.append 1 8) 60 62) (.step 0 (.u 55 (.load false 1) 5) (.step 9 (.b 64 (.idxp 1) 55 56) (.step 10 ⟨none,.store 1, [.t 64,.t 63], none⟩ .done))))))))))))) .skip)))))
def c_next : AC := (.r [.u 2 .box 0,.u 3 .box 1,.v 4 (.nilsl)] (.seq (.r [.u 11 (.load false 1) 2,.p 12 (.eqn false 0) [.t 11,.c (.nilptr)]] (.cond (.t 12) (.r [.v 4 (.nilsl)] .ret) .skip)) (.r [.u 13 (.load false 1) 2,.u 14 .nilck 13,.u 15 (.fld 0) 14,.u 16 (.load false 1) 15,.u 17 (.len 1 0) 16,.b 18 (.makesl 1 24 [.nilsl]) 17 17,.p 5 (.alloc [.nilsl]) [],⟨none,.store 1, [.t 5,.t 18], none⟩] (.seq (.r [.u 19 (.load false 1) 2,.u 20 (.call 39) 19] (.block 0 (.rangef (.t 20) [21] (.reg [.p 6 (.alloc [.int .u16 0,.int .u16 0,.int .u8 0]) [],⟨none,.store 3, [.t 6,.t 21], none⟩]) c_next_B1))) (.r [.u 65 (.load false 1) 5,.m 4 65] .ret)))))
theorem Qg : compF Tryz.prog Tryz.f56 ⟨false, false, []⟩ = some (c_next, [.tmp 4], 66) := by kernel_rfl
theorem Il {W : AW} {K : V → AW → Prop} {h x : V} {xs : List V} {s lo by' : Nat} (hn : nowG W h xs s lo) (hC : Cl W) (hlo : lo ≤ W.nx) (hs : 0 < s) (hx : x.cells.all V.one = true) (hb : (xs.length + 1) * by' ≤ 2 ^ 46)
  (hK : ∀ r W', nowG W' (.buf true r s (xs.length + 1)) (xs ++ [x]) s lo → Cl W' → W.nx ≤ W'.nx → (r = W.nx ∨ h = .buf true r s xs.length) → (∀ y, y < W.nx → y ≠ r → W'.get y = W.get y) → K (.buf true r s (xs.length + 1)) W') : sem E (.append s by') [h, .sl s true [x]] W K := by
 rcases hn with ⟨rfl, rfl⟩ | ⟨r, h1, h2, rfl, h4, h5⟩
 ·have e : sem E (.append s by') [.nilsl, .sl s true [x]] W K = K (.buf true W.nx s 1) (W.alloc (.buf true s [x])) := by
   simp [sem, elemsV, hs]
   intro; simp at hb; omega
  rw [e]
  refine hK _ _ (.inr ⟨W.nx, hlo, by rw [Ad]; omega, rfl, by simp, Ay⟩) ?_ (by rw [Ad]; omega) (.inl rfl) (fun y hy _ => Ak hy)
  intro y hy
  rw [Ad] at hy
  rw [Ci, if_neg (by omega)]
  exact hC y (by omega)
 ·have e : sem E (.append s by') [.buf true r s xs.length, .sl s true [x]] W K = K (.buf true r s (xs.length + 1)) (W.put r (.buf true s (xs ++ [x]))) := by
   simp only [sem, elemsV, if_true, h5, lcs, List.length_nil, Nat.zero_add, List.all_cons, List.all_nil, Bool.and_true, hx]
   exact propext ⟨fun h => h.2.2.2.2.2.2.2, fun h => ⟨hs, tt, tt, tt, tt, hb, tt, h⟩⟩
  rw [e]
  exact hK _ _ (.inr ⟨r, h1, by rw [Af]; exact h2, by simp, by simp, put_at⟩) (hC.put h2) (by rw [Af]; omega) (.inr rfl) (fun y _ hne => put_ne hne)
structure Gc (W : AW) (cs : List V) (out : List (List Int)) (lo : Nat) : Prop where
 len : cs.length = out.length
 now : ∀ i (h : i < cs.length) (h' : i < out.length), nowG W cs[i] (i64s out[i]) 1 lo
 ne : ∀ i j (h : i < cs.length) (h' : j < cs.length), i ≠ j → ∀ r n m, cs[i] = .buf true r 1 n → cs[j] ≠ .buf true r 1 m
theorem Gc.start (W : AW) (n lo : Nat) : Gc W (List.replicate n .nilsl) (List.replicate n []) lo where
 len := by simp
 now := fun i h h' => .inl ⟨by simp, by simp [i64s]⟩
 ne := fun i j h h' _ r n m e => by simp at e
theorem Gc.to {W W' : AW} {cs : List V} {out : List (List Int)} {lo : Nat} (h : Gc W cs out lo) (hx : W.nx ≤ W'.nx) (hg : ∀ r, lo ≤ r → r < W.nx → (∃ ys, W.get r = some (.buf true 1 ys)) → W'.get r = W.get r) : Gc W' cs out lo :=
 ⟨h.len, fun i h1 h2 => (h.now i h1 h2).to hx hg, h.ne⟩
theorem Gc.app {W W' : AW} {cs : List V} {out : List (List Int)} {lo f r : Nat} {x : Int} (h : Gc W cs out lo) (hf : f < cs.length) (hf' : f < out.length) (hn : nowG W' (.buf true r 1 ((i64s out[f]).length + 1)) (i64s out[f] ++ [.int .i64 x]) 1 lo) (hx : W.nx ≤ W'.nx) (hr : r = W.nx ∨ cs[f] = .buf true r 1 (i64s out[f]).length) (hg : ∀ y, y < W.nx → y ≠ r → W'.get y = W.get y) :
  Gc W' (cs.set f (.buf true r 1 ((i64s out[f]).length + 1))) (out.set f (out[f] ++ [x])) lo := by
 have hlen := h.len
 have hne : ∀ j (hj : j < cs.length), j ≠ f → ∀ m, cs[j] ≠ .buf true r 1 m := by
  intro j hj hjf m e
  rcases hr with rfl | hr
  ·rcases h.now j hj (by omega) with ⟨e1, _⟩ | ⟨r', h1, h2, h3, _⟩
   ·rw [e] at e1; cases e1
   ·rw [e] at h3; cases h3; omega
  ·exact h.ne f j hf hj (fun e => hjf e.symm) r _ m hr e
 refine ⟨by simp [hlen], fun i h1 h2 => ?_, fun i j h1 h2 hij r' n m e1 e2 => ?_⟩
 ·have h1' : i < cs.length := by simpa using h1
  have h2' : i < out.length := by simpa using h2
  by_cases e : i = f
  ·subst e
   rw [List.getElem_set_self, List.getElem_set_self, show i64s (out[i] ++ [x]) = i64s out[i] ++ [.int .i64 x] by simp [i64s]]
   exact hn
  ·rw [List.getElem_set_ne (by omega), List.getElem_set_ne (by omega)]
   rcases h.now i h1' h2' with g | ⟨r', g1, g2, g3, g4, g5⟩
   ·exact .inl g
   ·refine .inr ⟨r', g1, by omega, g3, g4, ?_⟩
    rw [hg r' g2 (by rintro rfl; exact hne i h1' e _ g3)]; exact g5
 ·have h1' : i < cs.length := by simpa using h1
  have h2' : j < cs.length := by simpa using h2
  rw [List.getElem_set] at e1 e2
  by_cases ei : f = i
  ·rw [if_pos ei] at e1
   rw [if_neg (by omega)] at e2
   have : r = r' := by injection e1
   subst this
   exact hne j h2' (by omega) _ e2
  ·rw [if_neg ei] at e1
   by_cases ej : f = j
   ·rw [if_pos ej] at e2
    have : r = r' := by injection e2
    subst this
    exact hne i h1' (by omega) _ e1
   ·rw [if_neg ej] at e2
    exact h.ne i j h1' h2' hij r' n m e1 e2
theorem Gc.frz {W : AW} {cs : List V} {out : List (List Int)} {lo : Nat} (h : Gc W cs out lo) : cs.map W.frz = out.map fun l => nowGS 1 (i64s l) := by
 refine List.ext_getElem (by simp [h.len]) fun i h1 h2 => ?_
 rw [List.getElem_map, List.getElem_map]
 exact (h.now i (by simpa using h1) (by simpa using h2)).frz
def nextStep (N kinds : List Int) (out : List (List Int)) (x : Ed) : List (List Int) :=
 if (kinds.any fun k => decide (x.kd = k)) = true ∧ ((out.getD (lowB N x.fr) []).any fun t => decide ((lowB N x.to : Int) = t)) = false then out.set (lowB N x.fr) (out.getD (lowB N x.fr) [] ++ [(lowB N x.to : Int)]) else out
def nextR (P : List Ek) (N kinds : List Int) : List (List Int) := (edL P).foldl (nextStep N kinds) (List.replicate N.length [])
theorem Fq (N kinds : List Int) (out : List (List Int)) (x : Ed) : (nextStep N kinds out x).length = out.length := by
 unfold nextStep; split <;> simp
theorem U4 {l : List Int} {x : Int} (h : x ∈ l) : lowB l x < l.length := by
 induction l with
 | nil => simp at h
 | cons a l ih =>
  simp only [lowB, List.takeWhile_cons]
  split
  ·rename_i hd
   rcases List.mem_cons.1 h with rfl | h
   ·simp at hd
   ·have := ih h; simp only [lowB] at this; simp; omega
  ·simp
theorem ix1 {W : AW} {K : V → AW → Prop} {r n i : Nat} {kk : IntKind} (h : i < n) : sem E (.idxp 1) [.slr r 0 n 1, .int kk (i : Int)] W K = K (.vptr r i) W := by
 rw [Ea (by omega) (by omega)]; simp
theorem ldv {W : AW} {K : V → AW → Prop} {r i : Nat} {cs : List V} {c : V} (h : W.get r = some (.vec 1 cs)) (hc : cs[i]? = some c) : sem E (.load false 1) [.vptr r i] W K = K c W := by
 have hp : partV cs i 1 false = some c := by simp [partV, hc]
 exact D9 (g := false) h hp
theorem stv {W : AW} {K : V → AW → Prop} {r i : Nat} {cs : List V} {c : V} (h : W.get r = some (.vec 1 cs)) (hi : i < cs.length) (h1 : c.cells = [c]) (h2 : c.one = true) : sem E (.store 1) [.vptr r i, c] W K = K .undef (W.put r (.vec 1 (cs.set i c))) := by
 rw [E0 (s := 1) (x := c) h (by rw [h1]; rfl) (by rw [h1]; simp [h2]) (by omega), h1, List.set_eq_take_append_cons_drop, if_pos hi]
 simp
theorem bsI {W : AW} {K : V → AW → Prop} {a : Int} : sem E (.bslice 1 1 (.int .i64 0) [0]) [.int .i64 a] W K = K (.sl 1 true [.int .i64 a]) W := by
 simp [sem, rsem, tsem, fillE, V.cells]
theorem Xbc (hP : PE E) {W1 : AW} {g m lo0 b2 b3 b5 b6 rv lo : Nat} {h kv : V} {P : List Ek} {N kinds : List Int} (hC : Cl W1) (hG : Gr W1 g m h P N lo0) (hNs : N.Pairwise fun a b => a < b) (hkv : isS 1 kv (u8s kinds)) (hkl : kinds.length < 2 ^ 40) {x : Ed} (hx1 : x.fr ∈ N) (hx2 : x.to ∈ N) {cs : List V} {out : List (List Int)} (hcs : Gc W1 cs out lo) (hrv : W1.get rv = some (.vec 1 cs)) (hout : out.length = N.length) (hol : ∀ l ∈ out, l.length < 2 ^ 40) (hlo : lo ≤ W1.nx)
  {A : AFr} {Q : Exit → AFr → AW → Prop} (a2 : A 2 = some (.ptr b2 0)) (a3 : A 3 = some (.ptr b3 0)) (a5 : A 5 = some (.ptr b5 0)) (a6 : A 6 = some (.ptr b6 0))
  (g2 : W1.get b2 = some (.row [.ptr g 0])) (g3 : W1.get b3 = some (.row [kv])) (g5 : W1.get b5 = some (.row [.slr rv 0 N.length 1])) (g6 : W1.get b6 = some (.row [.int .u16 x.fr, .int .u16 x.to, .int .u8 x.kd])) (l5 : b5 < W1.nx) (lrv : rv < W1.nx)
  (hQ : ∀ A' W' cs', Cl W' → W1.nx ≤ W'.nx → Gc W' cs' (nextStep N kinds out x) lo → W'.get rv = some (.vec 1 cs') → (∀ y, y < W1.nx → y ≠ rv → (∀ ys, W1.get y ≠ some (.buf true 1 ys)) → W'.get y = W1.get y) → (∀ y, y < lo → y ≠ rv → W'.get y = W1.get y) → Q .normal A' W') : awp E c_next_B1 Q A W1 := by
 have hf := U4 hx1
 have ht := U4 hx2
 have hN := hG.nl
 have hns := Dz 1 (intsV N)
 have hcl := hcs.len
 have hfc : lowB N x.fr < cs.length := by omega
 have hfo : lowB N x.fr < out.length := by omega
 have hnow := hcs.now _ hfc hfo
 have hat : cs[lowB N x.fr]? = some cs[lowB N x.fr] := gEg _
 have hgd : out.getD (lowB N x.fr) [] = out[lowB N x.fr] := by rw [List.getD_eq_getElem?_getD, gEg hfo]; rfl
 have hos := Dz 1 (i64s out[lowB N x.fr])
 have holf := hol _ (gmm hfo)
 simp only [BZ, ↓reduceIte, nE, BM, BD, c_next_B1, a2, a6, g2, g6, hG.hg, hG.now.frz]
 refine pc (bs16_c hP _ hns hNs (by omega) x.fr) ?_
 simp only [BZ, ↓reduceIte, nE, BM, BD, a2, a6, g2, g6, hG.hg, hG.now.frz]
 refine pc (bs16_c hP _ hns hNs (by omega) x.to) ?_
 simp only [BZ, ↓reduceIte, nE, BM, BD, a3, a6, g3, g6, hkv.frz]
 refine pc (has8_c hP _ hkv hkl x.kd) ?_
 cases hk : kinds.any fun k => decide (x.kd = k) with
 | false =>
  have hst : nextStep N kinds out x = out := by simp [nextStep, hk]
  rw [hst] at hQ
  simp only [BS, ↓reduceIte]
  repeat (rw [Aa]; simp only [BS, BC, Ac, ↓reduceIte, nE, BM])
  exact hQ _ _ cs hC (lr _) hcs hrv (fun _ _ _ _ => rfl) (fun _ _ _ => rfl)
 | true =>
  simp only [BS, ↓reduceIte]
  repeat (rw [Aa]; simp only [BS, BC, ↓reduceIte, nE, BM, a5, g5, ix1 hf, ldv hrv hat, hnow.frz])
  refine pc (hasI_c hP _ hos holf _) ?_
  cases hi : out[lowB N x.fr].any fun t => decide ((lowB N x.to : Int) = t) with
  | true =>
   have hst : nextStep N kinds out x = out := by simp only [nextStep, hk, hgd, hi]; simp
   rw [hst] at hQ
   simp only [BS]
   repeat (rw [Aa]; simp only [BS, BC, Ac, ↓reduceIte, nE, BD])
   exact hQ _ _ cs hC (lr _) hcs hrv (fun _ _ _ _ => rfl) (fun _ _ _ => rfl)
  | false =>
   have hst : nextStep N kinds out x = out.set (lowB N x.fr) (out[lowB N x.fr] ++ [(lowB N x.to : Int)]) := by simp only [nextStep, hk, hgd, hi]; simp
   rw [hst] at hQ
   simp only [BS]
   repeat (rw [Aa]; simp only [BS, BC, Ac, ↓reduceIte, nE, BM, BD, a5, g5, ix1 hf, ldv hrv hat, bsI])
   have hnr : ∀ r, (r = W1.nx ∨ cs[lowB N x.fr] = .buf true r 1 (i64s out[lowB N x.fr]).length) → b5 ≠ r ∧ rv ≠ r ∧ b2 ≠ r := by
    have l2 : b2 < W1.nx := Classical.byContradiction fun hn => by rw [hC b2 (by omega)] at g2; cases g2
    intro r hr
    rcases hr with rfl | hr
    ·omega
    ·rcases hnow with ⟨e1, _⟩ | ⟨r', c1, c2, c3, c4, c5⟩
     ·rw [hr] at e1; cases e1
     ·rw [hr] at c3; cases c3
      refine ⟨?_, ?_, ?_⟩ <;> rintro rfl
      ·rw [g5] at c5; cases c5
      ·rw [hrv] at c5; cases c5
      ·rw [g2] at c5; cases c5
   have hap : ∀ (r : Nat) (W' : AW), nowG W' (.buf true r 1 ((i64s out[lowB N x.fr]).length + 1)) (i64s out[lowB N x.fr] ++ [.int .i64 (lowB N x.to)]) 1 lo → Cl W' → W1.nx ≤ W'.nx → (r = W1.nx ∨ cs[lowB N x.fr] = .buf true r 1 (i64s out[lowB N x.fr]).length) → (∀ y, y < W1.nx → y ≠ r → W'.get y = W1.get y) → ∀ A', Q .normal A' (W'.put rv (.vec 1 (cs.set (lowB N x.fr) (.buf true r 1 ((i64s out[lowB N x.fr]).length + 1))))) := by
    intro r W' gN gC gn hr gg A'
    obtain ⟨n5, nv, _⟩ := hnr r hr
    have hrv' : W'.get rv = some (.vec 1 cs) := by rw [gg rv lrv nv]; exact hrv
    have hg1 := hcs.app (f := lowB N x.fr) (r := r) (x := (lowB N x.to : Int)) hfc hfo gN gn hr gg
    refine hQ A' _ _ (gC.put (by omega)) (by rw [Af]; exact gn) (hg1.to (by rw [Af]; exact lr _) fun y _ _ ⟨ys, hy⟩ => put_ne (by rintro rfl; rw [hrv'] at hy; cases hy)) put_at (fun y hy hyr hyb => ?_) (fun y hy hyr => ?_)
    ·rw [put_ne hyr, gg y hy]
     rintro rfl
     rcases hr with e | hr
     ·omega
     ·rcases hnow with ⟨e1, _⟩ | ⟨r', c1, c2, c3, c4, c5⟩
      ·rw [hr] at e1; cases e1
      ·rw [hr] at c3; cases c3; exact hyb _ c5
    ·rw [put_ne hyr, gg y (by omega)]
     rintro rfl
     rcases hr with e | hr
     ·omega
     ·rcases hnow with ⟨e1, _⟩ | ⟨r', c1, c2, c3, c4, c5⟩
      ·rw [hr] at e1; cases e1
      ·rw [hr] at c3; cases c3; omega
   have hbl : ((i64s out[lowB N x.fr]).length + 1) * 8 ≤ 2 ^ 46 := by rw [Qv]; omega
   constructor
   ·refine Il (lo := lo) hnow hC hlo (by decide) rfl hbl ?_
    intro r W' gN gC gn hr gg
    obtain ⟨n5, nv, _⟩ := hnr r hr
    have hrv' : W'.get rv = some (.vec 1 cs) := by rw [gg rv lrv nv]; exact hrv
    simp only [BS, ↓reduceIte, nE, BM, ix1 hf, stv hrv' hfc (c := .buf true r 1 ((i64s out[lowB N x.fr]).length + 1)) rfl rfl]
    exact hap r W' gN gC gn hr gg _
   ·refine Il (lo := lo) hnow hC hlo (by decide) rfl hbl ?_
    intro r W' gN gC gn hr gg
    obtain ⟨n5, nv, _⟩ := hnr r hr
    have hrv' : W'.get rv = some (.vec 1 cs) := by rw [gg rv lrv nv]; exact hrv
    have g5' : W'.get b5 = some (.row [.slr rv 0 N.length 1]) := by rw [gg b5 l5 n5]; exact g5
    simp only [BS, BC, ↓reduceIte, nE, BM, a5, g5', ix1 hf, stv hrv' hfc (c := .buf true r 1 ((i64s out[lowB N x.fr]).length + 1)) rfl rfl]
    exact hap r W' gN gC gn hr gg _
def llV (out : List (List Int)) : V := .sl 1 false (out.map fun l => nowGS 1 (i64s l))
theorem mk24 {W : AW} {K : V → AW → Prop} {n : Nat} (h : n < 2 ^ 40) : sem E (.makesl 1 24 [.nilsl]) [.int .i64 (n : Int), .int .i64 (n : Int)] W K = K (.slr W.nx 0 n 1) (W.alloc (.vec 1 (List.replicate n .nilsl))) := by
 have hz : ∀ k, zerosV [V.nilsl] k = List.replicate k .nilsl := fun k => by
  induction k with
  | zero => rfl
  | succ k ih => simp only [zerosV, List.replicate_succ, List.flatten_cons] at ih ⊢; rw [ih]; rfl
 simp only [sem, Int.toNat_natCast, hz]
 exact propext ⟨fun h => h.2.2.2.2, fun h => ⟨by omega, tt, by omega, by omega, h⟩⟩
theorem Lu : ∀ (l : List V), chunks 1 l.length l = l
 | [] => rfl
 | x :: l => by
  have := Lu l
  simp only [lcs, chunks, if_true, List.headD_cons, List.drop_succ_cons, List.drop_zero, this]
theorem Js {N kinds : List Int} {out : List (List Int)} {x : Ed} {i : Nat} (h : ∀ l ∈ out, l.length ≤ i) : ∀ l ∈ nextStep N kinds out x, l.length ≤ i + 1 := by
 intro l hl
 unfold nextStep at hl
 split at hl
 ·rcases List.mem_or_eq_of_mem_set hl with hl | rfl
  ·have := h l hl; omega
  ·rw [lap]
   by_cases hk : lowB N x.fr < out.length
   ·rw [List.getD_eq_getElem?_getD, gEg hk]
    have := h _ (gmm hk)
    simp; omega
   ·rw [List.getD_eq_getElem?_getD, List.getElem?_eq_none (by omega)]; simp
 ·have := h l hl; omega
theorem ll_ones (out : List (List Int)) : (out.map fun l => nowGS 1 (i64s l)).all V.one = true := by
 rw [List.all_map, List.all_eq_true]
 intro l _
 exact (Dz 1 (i64s l)).one
theorem ll_bel (out : List (List Int)) (n : Nat) : V.belL n (out.map fun l => nowGS 1 (i64s l)) = true := by
 have hb : ∀ l : List Int, V.belL n (i64s l) = true := by
  intro l
  induction l with
  | nil => rfl
  | cons x l ih => simp only [i64s, mcs, V.belL, Bool.and_eq_true] at ih ⊢; exact ⟨rfl, ih⟩
 induction out with
 | nil => rfl
 | cons x l ih =>
  simp only [mcs, V.belL, Bool.and_eq_true]
  exact ⟨(Dz 1 (i64s x)).lens (hb x), ih⟩
theorem Oc (hP : PE E) (W : AW) {g m lo : Nat} {h kv : V} {P : List Ek} {N kinds : List Int} (hG : Gr W g m h P N lo) (hNs : N.Pairwise fun a b => a < b) (hPN : ∀ x ∈ P, x.1 ∈ N ∧ x.2.1 ∈ N) (hkv : isS 1 kv (u8s kinds)) (hkl : kinds.length < 2 ^ 40) (hne : N ≠ []) :
  ACalls E 56 [.ptr g 0, kv] W fun Y W' => Y = llV (nextR P N kinds) ∧ W' = W := by
 refine ACalls.of hP Tryz.func56 Qg (by simp) fun _ hok => ?_
 refine Ae hok ?_
 have hlg := hG.lg
 have hN := hG.nl
 simp (disch:=omega) only [BX, ↓reduceIte, nE, BM, BD, nA, nL, nT, c_next, hkv.cells, hG.hg, hG.now.len, Al, mk24]
 refine (O3 hP _ g).mono ?_
 rintro _ W0 ⟨qe, rfl, hqe, hqn, hE⟩
 have hE0 : Ex W W0 := Ex.x0.trans hE
 have hn0 := hE.nx
 simp only [Ar, rf, lcs, List.length_nil] at hn0
 have w2 : W0.get (rf W.nx 0) = some (.row [.ptr g 0]) := by rw [hE.get _ (by simp [Ar, rf]), Ap]; rfl
 have w3 : W0.get (rf W.nx 1) = some (.row [kv]) := by rw [hE.get _ (by simp [Ar, rf]), Ap]; rfl
 have w4 : W0.get (rf W.nx 2) = some (.vec 1 (List.replicate N.length .nilsl)) := by rw [hE.get _ (by simp [Ar, rf]), Ap]; rfl
 have w5 : W0.get (rf W.nx 3) = some (.row [.slr (rf W.nx 2) 0 N.length 1]) := by rw [hE.get _ (by simp [Ar, rf]), Ap]; rfl
 have r0 : rf W.nx 0 = W.nx := rfl
 have r1 : rf W.nx 1 = W.nx + 1 := rfl
 have r2 : rf W.nx 2 = W.nx + 2 := rfl
 have r3 : rf W.nx 3 = W.nx + 3 := rfl
 have hG0 := hG.ex hE0
 have hl := Lo hG
 simp (disch:=omega) only [BS, ]
 refine F6 hP (q := qe) (P := P) (N := N) (by simp only [Tj]; exact if_pos rfl) hqe hqn hE0.cl hG0 (fun i W1 => Cl W1 ∧ W0.nx < W1.nx ∧ (∀ x, x < W0.nx → x ≠ rf W.nx 2 → W1.get x = W0.get x) ∧ ∃ cs, Gc W1 cs (((edL P).take i).foldl (nextStep N kinds) (List.replicate N.length [])) W0.nx ∧ W1.get (rf W.nx 2) = some (.vec 1 cs) ∧ (((edL P).take i).foldl (nextStep N kinds) (List.replicate N.length [])).length = N.length ∧ ∀ l ∈ ((edL P).take i).foldl (nextStep N kinds) (List.replicate N.length []), l.length ≤ i) ?_ ?_ ?_ ?_
 ·intro W1 hE1 hn1
  refine ⟨hE1.cl, hn1, fun x hx _ => hE1.get x hx, List.replicate N.length .nilsl, Gc.start _ _ _, by rw [hE1.get _ (by omega)]; exact w4, by simp, by simp⟩
 ·exact fun i W1 h => ⟨h.1, h.2.1⟩
 ·rintro i hi W1 W1' ⟨j0, j1, j2, cs, j3, j4, j5, j6⟩ hE1 hlp
  have hst : ((edL P).take (i + 1)).foldl (nextStep N kinds) (List.replicate N.length []) = nextStep N kinds (((edL P).take i).foldl (nextStep N kinds) (List.replicate N.length [])) (edL P)[i] := by
   rw [tao, gEg hi, List.foldl_append]; rfl
  have hxN := hPN _ (edL_mem.1 (gmm hi))
  generalize (edL P)[i] = x at hst hxN
  rw [hst]
  generalize ((edL P).take i).foldl (nextStep N kinds) (List.replicate N.length []) = out at j3 j5 j6
  have hn1 := hE1.nx
  refine Au hE1.cl ?_
  simp (disch:=omega) only [BS, BC, ↓reduceIte, nE, BM, BD, nA, nL, nT, Ed.V, hlp]
  refine ⟨tt, ?_⟩
  have hxg : ∀ y, y < W0.nx → y ≠ rf W.nx 2 → (X (W1'.put W0.nx (.loop .busy none)) W1'.nx [.row [.int .u16 x.fr, .int .u16 x.to, .int .u8 x.kd]]).get y = W0.get y := fun y hy hyr => by
   rw [Ag (by omega), put_ne (by omega), hE1.get y (by omega)]; exact j2 y hy hyr
  have hG1 := hG.ex (W1 := X (W1'.put W0.nx (.loop .busy none)) W1'.nx [.row [.int .u16 x.fr, .int .u16 x.to, .int .u8 x.kd]]) ⟨Cl.X, by simp only [Ar, rf]; omega, fun y hy => by rw [hxg y (by omega) (by omega)]; exact hE0.get y hy⟩
  have hrv : (X (W1'.put W0.nx (.loop .busy none)) W1'.nx [.row [.int .u16 x.fr, .int .u16 x.to, .int .u8 x.kd]]).get (rf W.nx 2) = some (.vec 1 cs) := by
   rw [Ag (by omega), put_ne (by omega), hE1.get _ (by omega)]; exact j4
  have hcs := (j3.to hE1.nx fun r _ hr _ => hE1.get r hr).to (W' := X (W1'.put W0.nx (.loop .busy none)) W1'.nx [.row [.int .u16 x.fr, .int .u16 x.to, .int .u8 x.kd]]) (by simp only [Ar, rf]; omega) fun r _ h2 ⟨ys, hy⟩ => by rw [Ag h2, put_ne (by rintro rfl; rw [hlp] at hy; cases hy)]
  refine Xbc hP (lo := W0.nx) (b2 := rf W.nx 0) (b3 := rf W.nx 1) (b5 := rf W.nx 3) (b6 := rf W1'.nx 0) (rv := rf W.nx 2) Cl.X hG1 hNs hkv hkl hxN.1 hxN.2 hcs hrv j5 (fun l hl' => by have := j6 l hl'; omega) (by simp only [Ar, rf]; omega) rfl rfl rfl rfl (by rw [hxg _ (by omega) (by omega)]; exact w2) (by rw [hxg _ (by omega) (by omega)]; exact w3) (by rw [hxg _ (by omega) (by omega)]; exact w5) (by rw [Ap]; rfl) (by simp only [Ar]; simp only [rf]; omega) (by simp only [Ar]; simp only [rf]; omega) ?_
  intro A'' W'' cs' fC fn fG frv ff1 ff2
  simp only [Ar, rf, lcs, List.length_nil] at fn
  have hloop : W''.get W0.nx = some (.loop .busy none) := by
   rw [ff1 W0.nx (by simp only [Ar, rf]; omega) (by omega) (fun ys => by rw [Ag (by omega), put_at]; simp), Ag (by omega), put_at]
  refine ⟨rfl, hloop, fC.put (by omega), by rw [Af]; omega, fun y hy hyr => ?_, cs', ?_, ?_, by rw [Fq]; exact j5, Js j6⟩
  ·rw [put_ne (by omega), ff2 y hy hyr]; exact hxg y hy hyr
  ·exact fG.to (by rw [Af]; exact lr _) fun r _ _ ⟨ys, hy⟩ => put_ne (by rintro rfl; rw [hloop] at hy; cases hy)
  ·rw [put_ne (by omega)]; exact frv
 ·rintro W1 ⟨j0, j1, j2, cs, j3, j4, j5, j6⟩ hlp
  rw [tkl] at j3 j5
  have k5 : (W1.put W0.nx (.loop .exhausted none)).get (rf W.nx 3) = some (.row [.slr (rf W.nx 2) 0 N.length 1]) := by rw [put_ne (by omega), j2 _ (by omega) (by omega)]; exact w5
  simp (disch:=omega) only [BZ, ↓reduceIte, nE, BM, k5]
  have hcs := j3.to (W' := W1.put W0.nx (.loop .exhausted none)) (by rw [Af]; exact lr _) fun r _ _ ⟨ys, hy⟩ => put_ne (by rintro rfl; rw [hlp] at hy; cases hy)
  have hfz := hcs.frz
  have hcl := hcs.len
  have hlen : 0 < N.length := List.length_pos_iff.2 hne
  have hnr : nextR P N kinds = (edL P).foldl (nextStep N kinds) (List.replicate N.length []) := rfl
  rw [← hnr] at hfz hcl j5
  have hch : chunks 1 N.length (cs.map (W1.put W0.nx (.loop .exhausted none)).frz) = (nextR P N kinds).map fun l => nowGS 1 (i64s l) := by
   rw [hfz]
   have := Lu ((nextR P N kinds).map fun l => nowGS 1 (i64s l))
   rw [lmp, j5] at this
   exact this
  refine ⟨_, rfl, .sl 1 false (chunks 1 N.length (cs.map (W1.put W0.nx (.loop .exhausted none)).frz)), W, ?_, lr _, by rw [hch]; rfl, rfl⟩
  refine .frzd (by rw [put_ne (by omega)]; exact j4) (by omega) hlen (by decide) (by rw [hfz]; exact ll_ones _) ?_
  rw [hch]
  refine Aj hok (ll_bel _ _) fun y hy => ?_
  have hy' : y < W.nx := hy
  have hyr : y ≠ rf W.nx 2 := by omega
  simp only [AW.drop, hyr, ↓reduceIte]
  rw [put_ne (by omega), j2 y (by omega) hyr]
  exact hE0.get y hy'
end Go.AL.S
namespace Go.AL.S
section
variable {α : Type} [DecidableEq α]
def outE (E : List (α × α)) (a : α) : List α := (E.filter fun e => decide (e.1 = a)).map (·.2)
theorem Ec {E : List (α × α)} {a b : α} : b ∈ outE E a ↔ (a, b) ∈ E := by
 unfold outE
 rw [mmp]
 constructor
 ·rintro ⟨⟨x, y⟩, h, rfl⟩
  obtain ⟨h1, h2⟩ := List.mem_filter.1 h
  have : x = a := of_decide_eq_true h2
  subst this; exact h1
 ·intro h; exact ⟨(a, b), List.mem_filter.2 ⟨h, by simp⟩, rfl⟩
end
open Go Go.AL Go.AL.SE Go.Proofs
variable {E : Env}
def isLL (Y : V) (W W' : AW) (out : List (List Int)) : Prop := (out ≠ [] ∧ Y = llV out ∧ W' = W) ∨ (out = [] ∧ ∃ r, Y = .slr r 0 0 1 ∧ Ex W W')
theorem Xbb (hP : PE E) (W : AW) {g m lo : Nat} {h kv : V} {ks : List V} (hG : Gr W g m h [] [] lo) (hkv : isS 1 kv ks) :
  ACalls E 56 [.ptr g 0, kv] W fun Y W' => ∃ r, Y = .slr r 0 0 1 ∧ Ex W W' := by
 refine ACalls.of hP Tryz.func56 Qg (by simp) fun _ hok => ?_
 refine Ae hok ?_
 have hlg := hG.lg
 have hmk : ∀ (W : AW) K, sem E (.makesl 1 24 [.nilsl]) [.int .i64 0, .int .i64 0] W K = K (.slr W.nx 0 0 1) (W.alloc (.vec 1 [])) := fun W K => mk24 (n := 0) (by decide)
 have hln : ∀ (W : AW) K n, sem E (.len 1 n) [h] W K = K (.int .i64 0) W := fun W K n => hG.now.len
 simp (disch:=omega) only [BX, ↓reduceIte, nE, BM, BD, nA, nL, nT, c_next, hkv.cells, hG.hg, hln, hmk]
 refine (O3 hP _ g).mono ?_
 rintro _ W0 ⟨qe, rfl, hqe, hqn, hE⟩
 have hE0 : Ex W W0 := Ex.x0.trans hE
 have hn0 := hE.nx
 simp only [Ar, rf, lcs, List.length_nil] at hn0
 have r3 : rf W.nx 3 = W.nx + 3 := rfl
 have w5 : W0.get (rf W.nx 3) = some (.row [.slr (rf W.nx 2) 0 0 1]) := by rw [hE.get _ (by simp [Ar, rf]), Ap]; rfl
 have hG0 := hG.ex hE0
 have hel : (edL []).length = 0 := Nat.le_zero.1 (O4 [])
 simp (disch:=omega) only [BS, ]
 refine F6 hP (q := qe) (P := []) (N := []) (by simp only [Tj]; exact if_pos rfl) hqe hqn hE0.cl hG0 (fun i W1 => Cl W1 ∧ W0.nx < W1.nx ∧ Ex W0 W1) ?_ ?_ ?_ ?_
 ·exact fun W1 hE1 hn1 => ⟨hE1.cl, hn1, hE1⟩
 ·exact fun i W1 h => ⟨h.1, h.2.1⟩
 ·intro i hi; omega
 ·rintro W1 ⟨j0, j1, j2⟩ hlp
  have k5 : (W1.put W0.nx (.loop .exhausted none)).get (rf W.nx 3) = some (.row [.slr (rf W.nx 2) 0 0 1]) := by rw [put_ne (by omega), j2.get _ (by omega)]; exact w5
  simp (disch:=omega) only [BZ, ↓reduceIte, nE, BM, k5]
  refine ⟨_, rfl, _, _, .weak Ab, by rw [Af]; omega, rf W.nx 2, rfl, j2.cl.put (by omega), by rw [Af]; omega, fun y hy => ?_⟩
  rw [put_ne (by omega), j2.get _ (by omega)]
  exact hE0.get y hy
theorem Uy (hP : PE E) (W : AW) {g m lo : Nat} {h kv : V} {P : List Ek} {N kinds : List Int} (hG : Gr W g m h P N lo) (hNs : N.Pairwise fun a b => a < b) (hPN : ∀ x ∈ P, x.1 ∈ N ∧ x.2.1 ∈ N) (hkv : isS 1 kv (u8s kinds)) (hkl : kinds.length < 2 ^ 40) :
  ACalls E 56 [.ptr g 0, kv] W fun Y W' => isLL Y W W' (nextR P N kinds) := by
 by_cases hN : N = []
 ·subst hN
  obtain rfl : P = [] := List.eq_nil_iff_forall_not_mem.2 fun x hx => by have := (hPN x hx).1; cases this
  have hel : edL [] = [] := List.eq_nil_of_length_eq_zero (Nat.le_zero.1 (O4 []))
  refine (Xbb hP W hG hkv).mono ?_
  rintro Y W' h
  exact .inr ⟨by rw [nextR, hel]; rfl, h⟩
 ·refine (Oc hP W hG hNs hPN hkv hkl hN).mono ?_
  rintro Y W' ⟨h1, h2⟩
  refine .inl ⟨?_, h1, h2⟩
  have hl : ∀ (l : List Ed) o, (l.foldl (nextStep N kinds) o).length = o.length := by
   intro l
   induction l with
   | nil => intro o; rfl
   | cons x l ih => intro o; rw [List.foldl_cons, ih, Fq]
  rw [ne_eq, ← List.length_eq_zero_iff, nextR, hl, lrp, List.length_eq_zero_iff]
  exact hN
theorem Ib {N : List Int} (hN : N.Pairwise fun a b => a < b) {j : Nat} (hj : j < N.length) : lowB N N[j] = j := by
 have h := List.pairwise_iff_getElem.1 hN
 exact U3 (by omega) (fun i hi hij => h i j hi hj hij) (fun h => by omega)
theorem Pg {N : List Int} (hN : N.Pairwise fun a b => a < b) {x : Int} (hx : x ∈ N) : ∃ j, ∃ h : j < N.length, N[j] = x ∧ lowB N x = j := by
 obtain ⟨j, hj, rfl⟩ := List.getElem_of_mem hx
 exact ⟨j, hj, rfl, Ib hN hj⟩
def kin (kinds : List Int) (k : Int) : Bool := kinds.any fun x => decide (k = x)
theorem Zh {N kinds : List Int} (hN : N.Pairwise fun a b => a < b) {out : List (List Int)} (ho : out.length = N.length) {x : Ed} (hx : x.fr ∈ N) {i : Nat} (hi : i < N.length) {t : Int} : t ∈ (nextStep N kinds out x).getD i [] ↔ t ∈ out.getD i [] ∨ (x.fr = N[i] ∧ kin kinds x.kd = true ∧ t = (lowB N x.to : Int)) := by
 obtain ⟨f, hf, f1, f2⟩ := Pg hN hx
 have hne : x.fr = N[i] → i = f := fun e => by rw [← Ib hN hi, ← e, f2]
 have hfi : i = f → x.fr = N[i] := fun e => by subst e; exact f1.symm
 unfold nextStep
 rw [f2]
 by_cases hk : (kinds.any fun k => decide (x.kd = k)) = true
 ·have hk' : kin kinds x.kd = true := hk
  cases hc : (out.getD f []).any fun t => decide ((lowB N x.to : Int) = t) with
  | true =>
   rw [if_neg (by simp)]
   refine ⟨.inl, fun h => h.elim id ?_⟩
   rintro ⟨e, _, rfl⟩
   obtain ⟨t', ht, h2⟩ := List.any_eq_true.1 hc
   rw [decide_eq_true_eq] at h2
   rw [h2, hne e]; exact ht
  | false =>
   rw [if_pos ⟨hk, rfl⟩, List.getD_eq_getElem?_getD, List.getElem?_set]
   by_cases e : f = i
   ·rw [if_pos e, if_pos (by omega)]
    subst e
    simp only [Option.getD_some, map', msg]
    exact ⟨fun h => h.elim .inl fun h => .inr ⟨f1.symm, hk', h⟩, fun h => h.elim .inl fun h => .inr h.2.2⟩
   ·rw [if_neg e, ← List.getD_eq_getElem?_getD]
    exact ⟨.inl, fun h => h.elim id fun h => absurd (hne h.1).symm e⟩
 ·rw [if_neg (fun h => hk h.1)]
  exact ⟨.inl, fun h => h.elim id fun h => absurd h.2.1 hk⟩
theorem F9 {N kinds : List Int} (hN : N.Pairwise fun a b => a < b) : ∀ (l : List Ed) (out : List (List Int)), out.length = N.length → (∀ e ∈ l, e.fr ∈ N) → (l.foldl (nextStep N kinds) out).length = N.length ∧ ∀ i (hi : i < N.length) (t : Int), t ∈ (l.foldl (nextStep N kinds) out).getD i [] ↔ t ∈ out.getD i [] ∨ ∃ e ∈ l, e.fr = N[i] ∧ kin kinds e.kd = true ∧ t = (lowB N e.to : Int)
 | [], out, ho, _ => ⟨ho, fun i hi t => by simp⟩
 | x :: l, out, ho, hm => by
  obtain ⟨h1, h2⟩ := F9 hN (kinds := kinds) l (nextStep N kinds out x) (by rw [Fq]; exact ho) fun e he => hm e (by simp [he])
  refine ⟨h1, fun i hi t => ?_⟩
  rw [List.foldl_cons, h2 i hi t, Zh hN ho (hm x (by simp)) hi]
  constructor
  ·rintro ((h | h) | ⟨e, he, h⟩)
   ·exact .inl h
   ·exact .inr ⟨x, by simp, h⟩
   ·exact .inr ⟨e, by simp [he], h⟩
  ·rintro (h | ⟨e, he, h⟩)
   ·exact .inl (.inl h)
   ·rcases List.mem_cons.1 he with rfl | he
    ·exact .inl (.inr h)
    ·exact .inr ⟨e, he, h⟩
theorem K5 {N kinds : List Int} : ∀ (l : List Ed) (out : List (List Int)) (m : Nat), (∀ x ∈ out, x.length ≤ m) → ∀ x ∈ l.foldl (nextStep N kinds) out, x.length ≤ m + l.length
 | [], out, m, h => by simpa using h
 | x :: l, out, m, h => by
  have := K5 (N := N) (kinds := kinds) l (nextStep N kinds out x) (m + 1) (Js h)
  intro y hy
  have := this y hy
  simp only [lcs]; omega
def prs (P : List Ed) (ks : Int → Bool) : List (Int × Int) := (P.filter fun e => ks e.kd).map fun e => (e.fr, e.to)
theorem Eb {P : List Ed} {ks : Int → Bool} {a b : Int} : (a, b) ∈ prs P ks ↔ ∃ e ∈ P, e.fr = a ∧ e.to = b ∧ ks e.kd = true := by
 rw [prs, mmp]
 constructor
 ·rintro ⟨e, he, h⟩
  obtain ⟨h1, h2⟩ := List.mem_filter.1 he
  cases h
  exact ⟨e, h1, rfl, rfl, h2⟩
 ·rintro ⟨e, he, rfl, rfl, h⟩
  exact ⟨e, List.mem_filter.2 ⟨he, h⟩, rfl⟩
def nxN (P : List Ek) (N kinds : List Int) (i : Nat) : List Nat := ((nextR P N kinds).getD i []).map Int.toNat
theorem Gn {P : List Ek} {N kinds : List Int} (hN : N.Pairwise fun a b => a < b) (hm : ∀ e ∈ edL P, e.fr ∈ N ∧ e.to ∈ N) {i j : Nat} (hi : i < N.length) : j ∈ nxN P N kinds i ↔ ∃ h : j < N.length, N[j] ∈ outE (prs (edL P) (kin kinds)) N[i] := by
 have h2 := (F9 (kinds := kinds) hN (edL P) (List.replicate N.length []) (by simp) fun e he => (hm e he).1).2 i hi
 rw [nxN, mmp]
 constructor
 ·rintro ⟨t, ht, rfl⟩
  rcases (h2 t).1 ht with h | ⟨e, he, e1, e2, rfl⟩
  ·rw [List.getD_eq_getElem?_getD, List.getElem?_replicate, if_pos hi] at h; cases h
  ·obtain ⟨k, hk, k1, k2⟩ := Pg hN (hm e he).2
   rw [k2]
   refine ⟨by simpa using hk, Ec.2 (Eb.2 ⟨e, he, e1, ?_, e2⟩)⟩
   simp [k1]
 ·rintro ⟨h, ho⟩
  obtain ⟨e, he, e1, e2, e3⟩ := Eb.1 (Ec.1 ho)
  exact ⟨(j : Int), (h2 j).2 (.inr ⟨e, he, e1, e3, by rw [e2, Ib hN h]⟩), by simp⟩
theorem Yb {P : List Ek} {N kinds : List Int} (hN : N.Pairwise fun a b => a < b) (hm : ∀ e ∈ edL P, e.fr ∈ N ∧ e.to ∈ N) {i : Nat} (hi : i < N.length) : i64s ((nextR P N kinds).getD i []) = natsV (nxN P N kinds i) := by
 have h2 := (F9 (kinds := kinds) hN (edL P) (List.replicate N.length []) (by simp) fun e he => (hm e he).1).2 i hi
 rw [natsV, nxN, i64s, List.map_map]
 refine List.map_congr_left fun t ht => ?_
 rcases (h2 t).1 ht with h | ⟨e, _, _, _, rfl⟩
 ·rw [List.getD_eq_getElem?_getD, List.getElem?_replicate, if_pos hi] at h; cases h
 ·simp
theorem Xax {P : List Ek} {N kinds : List Int} (hN : N.Pairwise fun a b => a < b) (hm : ∀ e ∈ edL P, e.fr ∈ N ∧ e.to ∈ N) {i j : Nat} (hi : i < N.length) (hj : j < N.length) : Rch (nxN P N kinds) i j ↔ Rch (outE (prs (edL P) (kin kinds))) N[i] N[j] := by
 constructor
 ·intro h
  induction h with
  | refl => exact .refl _
  | step e _ ih =>
   obtain ⟨h1, h2⟩ := (Gn hN hm hi).1 e
   exact .step h2 (ih h1 hj)
 ·intro h
  have key : ∀ a b, Rch (outE (prs (edL P) (kin kinds))) a b → ∀ i (hi : i < N.length), N[i] = a → ∀ j (hj : j < N.length), N[j] = b → Rch (nxN P N kinds) i j := by
   intro a b h
   induction h with
   | refl =>
    intro i hi e1 j hj e2
    have : i = j := by rw [← Ib hN hi, ← Ib hN hj, e1, e2]
    rw [this]; exact .refl _
   | @step a b c e _ ih =>
    intro i hi e1 j hj e2
    subst e1
    have hbn : b ∈ N := by
     obtain ⟨x, hx, _, h2, _⟩ := Eb.1 (Ec.1 e)
     rw [← h2]; exact (hm x hx).2
    obtain ⟨k, hk, hkb⟩ := List.getElem_of_mem hbn
    exact .step ((Gn hN hm hi).2 ⟨hk, by rw [hkb]; exact e⟩) (ih k hk hkb j hj e2)
  exact key _ _ h i hi rfl j hj rfl
theorem nx_Nx {P : List Ek} {N kinds : List Int} (hN : N.Pairwise fun a b => a < b) (hm : ∀ e ∈ edL P, e.fr ∈ N ∧ e.to ∈ N) (hl : (edL P).length < 2 ^ 32) : Nx (llV (nextR P N kinds)) (nxN P N kinds) N.length := by
 have hlen := (F9 (kinds := kinds) hN (edL P) (List.replicate N.length []) (by simp) fun e he => (hm e he).1).1
 have hsh := K5 (N := N) (kinds := kinds) (edL P) (List.replicate N.length []) 0 fun x hx => by rw [List.eq_of_mem_replicate hx]; exact lr _
 refine ⟨⟨_, .inl .mk, by rw [lmp]; exact hlen, fun i h => ?_⟩, fun i hi k hk => ?_, fun i hi => ?_⟩
 ·have hi : i < (nextR P N kinds).length := by simpa using h
  rw [List.getElem_map]
  have := Yb (kinds := kinds) hN hm (show i < N.length by rw [← hlen]; exact hi)
  rw [List.getD_eq_getElem?_getD, gEg hi, Option.getD_some] at this
  rw [this]; exact Dz 1 _
 ·exact ((Gn hN hm hi).1 hk).1
 ·rw [nxN, lmp, List.getD_eq_getElem?_getD, gEg (show i < (nextR P N kinds).length by rw [nextR, hlen]; exact hi), Option.getD_some]
  have := hsh _ (gmm (show i < (nextR P N kinds).length by rw [nextR, hlen]; exact hi))
  omega
abbrev Sp := Int × Bool
def ownE (own : Int) (e : Ed) : Bool := e.kd == own
def outL (es : List Ed) (own x : Int) : List Ed := es.filter fun e => decide (e.kd ≤ own) && decide (e.fr = x)
def inL (es : List Ed) (own x : Int) : List Ed := es.filter fun e => decide (e.kd ≤ own) && decide (e.to = x)
def behE (own : Int) (b : Bool) (e : Ed) : List Sp := ([false, true].filter fun o => b == (o || ownE own e)).map fun o => (e.fr, o)
def behR (es : List Ed) (own : Int) (x : Sp) : List Sp := (inL es own x.1).flatMap (behE own x.2)
abbrev Fl := List (Sp × Nat)
def putF (d : Nat) (L : Fl) (y : Sp) : Fl := if y ∈ L.map (·.1) then L else L ++ [(y, d + 1)]
def stepF (es : List Ed) (own : Int) (L : Fl) (x : Sp × Nat) : Fl := (behR es own x.1).foldl (putF x.2) L
def farGo (es : List Ed) (own : Int) : Nat → Nat → Fl → Fl
 | 0, _, L => L
 | n + 1, i, L => match L[i]? with
  | none => L
  | some x => farGo es own n (i + 1) (stepF es own L x)
def farR (es : List Ed) (own : Int) (to : Sp) : Fl := farGo es own (2 * es.length + 2) 0 [(to, 0)]
def lookF (L : Fl) (x : Sp) : Option Nat := (L.find? fun y => y.1 == x).map (·.2)
def ahStep (own : Int) (far : Fl) (left : Nat) (b : Bool) (best : List Sp) (e : Ed) : List Sp :=
 match lookF far (e.to, b || ownE own e) with
 | none => best
 | some d => if d ≠ left then best else match best with
  | [] => [(e.to, b || ownE own e)]
  | h :: t => if e.to > h.1 then best else if (e.to, b || ownE own e) ∈ best then best else if e.to = h.1 then h :: t ++ [(e.to, b || ownE own e)] else [(e.to, b || ownE own e)]
def ahSpot (es : List Ed) (own : Int) (far : Fl) (left : Nat) (best : List Sp) (x : Sp) : List Sp := (outL es own x.1).foldl (ahStep own far left x.2) best
def aheadR (es : List Ed) (own : Int) (at' : List Sp) (far : Fl) (left : Nat) : List Sp := at'.foldl (ahSpot es own far left) []
def idsGo (es : List Ed) (own : Int) (far : Fl) : Nat → List Sp → List Int → List Int
 | 0, _, l => l
 | k + 1, at', l => idsGo es own far k (aheadR es own at' far (k + 1)) (l ++ [((aheadR es own at' far (k + 1)).headD (0, false)).1])
def idsR (es : List Ed) (own first : Int) (far : Fl) (n : Nat) : List Int := idsGo es own far (n - 1) [(first, false)] [first]
def kindE (own to : Int) (p : Int × Bool) (e : Ed) : Int × Bool := if e.to = to then (min p.1 e.kd, p.2 || ownE own e) else p
def kindAt (es : List Ed) (own : Int) (l : List Int) (i : Nat) : Int × Bool := (outL es own (l.getD i 0)).foldl (kindE own (l.getD ((i + 1) % l.length) 0)) (own, false)
def leastR (es : List Ed) (own : Int) (l : List Int) : List Int := (List.range l.length).map fun i => (kindAt es own l i).1
def lateR (es : List Ed) (own : Int) (l : List Int) : Option Nat := (List.range l.length).foldl (fun o i => if (kindAt es own l i).2 = true then some i else o) none
def kindsR (es : List Ed) (own : Int) (l : List Int) : List Int := if own ∈ leastR es own l then leastR es own l else match lateR es own l with
 | none => leastR es own l
 | some i => (leastR es own l).set i own
def shStep (es : List Ed) (own : Int) (best : List Int) (first : Int) : List Int :=
 match lookF (farR es own (first, true)) (first, false) with
 | none => best
 | some n => if best = [] ∨ n < best.length then idsR es own first (farR es own (first, true)) n else best
def bestR (es : List Ed) (N : List Int) (own : Int) : List Int := N.foldl (shStep es own) []
def ownR (k : Int) : Option Int := if k = 1 then some 0 else if k = 8 then some 1 else if k = 16 then some 2 else none
def shortR (es : List Ed) (N : List Int) (k : Int) : Option (List Int × List Int) := match ownR k with
 | none => none
 | some own => if bestR es N own = [] then none else some (bestR es N own, kindsR es own (bestR es N own))
def Lds (es : List Ed) (own : Int) (x y : Sp) : Prop := ∃ e ∈ es, e.kd ≤ own ∧ e.fr = x.1 ∧ e.to = y.1 ∧ y.2 = (x.2 || ownE own e)
theorem Og {es : List Ed} {own : Int} {x y : Sp} : x ∈ behR es own y ↔ Lds es own x y := by
 unfold behR inL behE Lds
 simp only [List.mem_flatMap, mfl, Bool.and_eq_true, decide_eq_true_eq, mmp, List.mem_cons, List.not_mem_nil, or_false, beq_iff_eq]
 constructor
 ·rintro ⟨e, ⟨h1, h2, h3⟩, o, ⟨h4, h5⟩, rfl⟩
  exact ⟨e, h1, h2, rfl, h3, h5⟩
 ·rintro ⟨e, h1, h2, h3, h4, h5⟩
  exact ⟨e, ⟨h1, h2, h4⟩, x.2, ⟨by cases x.2 <;> simp, h5⟩, by rw [h3]⟩
theorem C5 {L : Fl} (hn : (L.map (·.1)).Nodup) {x : Sp} {d : Nat} : lookF L x = some d ↔ (x, d) ∈ L := by
 unfold lookF
 induction L with
 | nil => simp
 | cons y L ih =>
  rw [mcs, List.nodup_cons] at hn
  rw [List.find?_cons]
  by_cases h : y.1 = x
  ·subst h
   simp only [beq_self_eq_true, Option.map_some, Option.some.injEq, List.mem_cons]
   constructor
   ·rintro rfl; exact .inl rfl
   ·rintro (h | h)
    ·rw [← h]
    ·exact absurd (List.mem_map.2 ⟨_, h, rfl⟩) hn.1
  ·have : (y.1 == x) = false := beq_eq_false_iff_ne.2 h
   rw [this]
   simp only [List.mem_cons, ih hn.2]
   constructor
   ·exact .inr
   ·rintro (h' | h')
    ·rw [← h'] at h; exact absurd rfl h
    ·exact h'
theorem Mx {L : Fl} {x : Sp} : lookF L x = none ↔ x ∉ L.map (·.1) := by
 unfold lookF
 rw [Option.map_eq_none_iff, List.find?_eq_none]
 simp only [beq_iff_eq, mmp, not_exists, not_and]
theorem Jt {α : Type} {enc : α → V} {p : α → Prop} {es : List En} (hk : ∀ e ∈ es, ∃ a, e.1 = enc a ∧ p a) {a : α} (ha : p a) {v : V} {c : Nat} : ∀ e ∈ (mset (enc a) v es c).1, ∃ a, e.1 = enc a ∧ p a := by
 have hu : ∀ l : List En, (∀ e ∈ l, ∃ a, e.1 = enc a ∧ p a) → ∀ e ∈ updK (enc a) v l, ∃ a, e.1 = enc a ∧ p a := by
  intro l
  induction l with
  | nil => intro _ e he; simp [updK] at he
  | cons x l ih =>
   intro hl e he
   simp only [updK] at he
   split at he
   ·rcases List.mem_cons.1 he with rfl | he
    ·exact ⟨a, rfl, ha⟩
    ·exact hl e (by simp [he])
   ·rcases List.mem_cons.1 he with rfl | he
    ·exact hl _ (by simp)
    ·exact ih (fun e he => hl e (by simp [he])) e he
 unfold mset
 split
 ·exact hu es hk
 ·intro e he
  rcases List.mem_append.1 he with he | he
  ·exact hk e he
  ·rw [List.mem_singleton.1 he]; exact ⟨a, rfl, ha⟩
theorem He {α : Type} [DecidableEq α] {enc : α → V} (he : ∀ a b, (enc a).keq (enc b) = decide (a = b)) {es : List En} (hk : ∀ e ∈ es, ∃ a, e.1 = enc a) (a b : α) {v : V} {c : Nat} : (findK (enc b) (mset (enc a) v es c).1).map (·.2.1) = if b = a then some v else (findK (enc b) es).map (·.2.1) := by
 have hu : ∀ l : List En, (∀ e ∈ l, ∃ a, e.1 = enc a) → (findK (enc a) l).isSome → (findK (enc b) (updK (enc a) v l)).map (·.2.1) = if b = a then some v else (findK (enc b) l).map (·.2.1) := by
  intro l
  induction l with
  | nil => intro _ h; cases h
  | cons y l ih =>
   intro hl hs
   obtain ⟨k, e1⟩ := hl y (by simp)
   simp only [updK, findK, e1, he] at hs ⊢
   by_cases hy : a = k
   ·subst hy
    simp only [dT, if_true, findK, he]
    by_cases hb : b = a
    ·simp [hb]
    ·simp [hb]
   ·simp only [decide_eq_false hy, Bool.false_eq_true, if_false, findK, e1, he] at hs ⊢
    by_cases hb : b = k
    ·subst hb
     have : ¬ b = a := fun h => hy h.symm
     simp [this]
    ·simp only [decide_eq_false hb, Bool.false_eq_true, if_false]
     exact ih (fun e he => hl e (by simp [he])) hs
 unfold mset
 cases hf : findK (enc a) es with
 | some e => exact hu es hk (by rw [hf]; rfl)
 | none =>
  simp only
  rw [Nd]
  by_cases hb : b = a
  ·subst hb
   simp [hf, findK, he]
  ·rw [if_neg hb]
   cases findK (enc b) es with
   | some e => rfl
   | none => simp [findK, he, hb]
def k16 (x : Int) : V := .int .u16 x
theorem k16_eq (a b : Int) : (k16 a).keq (k16 b) = decide (a = b) := Oq
def spV (x : Sp) : V := .agg [.int .u16 x.1, .bool x.2]
theorem Zi (a b : Sp) : (spV a).keq (spV b) = decide (a = b) := by
 obtain ⟨a1, a2⟩ := a
 obtain ⟨b1, b2⟩ := b
 have : (spV (a1, a2)).keq (spV (b1, b2)) = (decide (a1 = b1) && (decide (a2 = b2) && true)) := by
  simp [spV, V.keq, V.cells, V.eqs, V.eq1]
  rfl
 rw [this, Bool.and_true]
 by_cases h1 : a1 = b1 <;> by_cases h2 : a2 = b2 <;> simp [h1, h2]
theorem J4 {x : Sp} (h : 0 ≤ x.1 ∧ x.1 < 65536) : (spV x).has (true, [.i .u16, .b]) = true := by
 have := Hx h.1 h.2
 simp only [V.has, V.isAgg, V.cells, V.hasKs, Bool.and_true] at this
 simp only [spV, V.has, V.isAgg, V.cells, V.hasKs, V.hasK, Bool.and_true]
 simp only [V.hasK] at this
 simpa using this
def hdM (es : List En) (x : Int) : V := ((findK (k16 x) es).map (·.2.1)).getD .nilsl
structure Mg (W : AW) (m : Nat) (f : Int → List Ed) (lo : Nat) (es : List En) (c : Nat) : Prop where
 hm : W.get m = some (.map es c)
 lm : m < W.nx
 ky : ∀ e ∈ es, ∃ x, e.1 = k16 x ∧ 0 ≤ x ∧ x < 65536
 vl : ∀ x, nowG W (hdM es x) ((f x).map Ed.V) 3 lo
 ne : ∀ x y, x ≠ y → ∀ r n n', hdM es x = .buf true r 3 n → hdM es y ≠ .buf true r 3 n'
theorem Mg.ok {W : AW} {m lo c : Nat} {f : Int → List Ed} {es : List En} (h : Mg W m f lo es c) {x : Int} (h0 : 0 ≤ x) (h1 : x < 65536) : keysOk (false, [.i .u16]) (.int .u16 x) es := by
 refine ⟨Hx h0 h1, fun e he => ?_⟩
 obtain ⟨n, e1, a, b⟩ := h.ky e he
 rw [e1]; exact Hx a b
theorem Mg.look {W : AW} {m lo c : Nat} {f : Int → List Ed} {es : List En} (h : Mg W m f lo es c) {x : Int} (h0 : 0 ≤ x) (h1 : x < 65536) {K : V → AW → Prop} : sem E (.lookup (false, [.i .u16]) .nilsl false) [.map m, .int .u16 x] W K = K (hdM es x) W := by
 rw [Cw h.hm (h.ok h0 h1)]
 show lookK _ _ _ (k16 x) _ _ = _
 unfold lookK hdM
 cases (findK (k16 x) es).map (·.2.1) <;> rfl
theorem Mg.to {W W' : AW} {m lo c : Nat} {f : Int → List Ed} {es : List En} (h : Mg W m f lo es c) (hx : W.nx ≤ W'.nx) (hm : W'.get m = W.get m) (hg : ∀ r, lo ≤ r → r < W.nx → (∃ ys, W.get r = some (.buf true 3 ys)) → W'.get r = W.get r) : Mg W' m f lo es c :=
 ⟨hm.trans h.hm, by have := h.lm; omega, h.ky, fun x => (h.vl x).to hx hg, h.ne⟩
theorem Mg.ex {W W' : AW} {m lo c : Nat} {f : Int → List Ed} {es : List En} (h : Mg W m f lo es c) (hE : Ex W W') : Mg W' m f lo es c := h.to hE.nx (hE.get _ h.lm) fun r _ hr _ => hE.get r hr
theorem nowG.idx' {W : AW} {K : V → AW → Prop} {h : V} {xs : List V} {s lo k : Nat} {kk : IntKind} {x : V} (hn : nowG W h xs s lo) (hx : xs[k]? = some x) : sem E (.idxp s) [h, .int kk (k : Int)] W K = K (.cptr x.cells) W := by
 have hk : k < xs.length := by
  by_cases h : k < xs.length
  ·exact h
  ·rw [List.getElem?_eq_none (by omega)] at hx; cases hx
 rw [gEg hk] at hx
 cases hx
 rcases hn with ⟨_, rfl⟩ | ⟨r, _, _, rfl, _, hg⟩
 ·simp at hk
 ·simp [sem, rsem, hg, hk]
theorem nowG.keep {W W' : AW} {h : V} {xs : List V} {s lo : Nat} (hn : nowG W h xs s lo) (hx : W.nx ≤ W'.nx) (hg : ∀ r, h = .buf true r s xs.length → r < W.nx → W'.get r = W.get r) : nowG W' h xs s lo := by
 rcases hn with ⟨rfl, rfl⟩ | ⟨r, h1, h2, h3, h4, h5⟩
 ·exact .inl ⟨rfl, rfl⟩
 ·exact .inr ⟨r, h1, by omega, h3, h4, by rw [hg r h3 h2]; exact h5⟩
theorem nowG.low {W : AW} {h : V} {xs : List V} {s lo lo' : Nat} (hn : nowG W h xs s lo) (hl : lo' ≤ lo) : nowG W h xs s lo' := by
 rcases hn with h | ⟨r, h1, h2⟩
 ·exact .inl h
 ·exact .inr ⟨r, by omega, h2⟩
theorem nowG.ref {W : AW} {h : V} {xs : List V} {s lo r n : Nat} (hn : nowG W h xs s lo) (e : h = .buf true r s n) : r < W.nx ∧ lo ≤ r ∧ n = xs.length := by
 rcases hn with ⟨rfl, _⟩ | ⟨r', h1, h2, h3, _⟩
 ·cases e
 ·rw [e] at h3; cases h3; exact ⟨h2, h1, rfl⟩
theorem nowG.at {W : AW} {h : V} {xs : List V} {s lo r n : Nat} (hn : nowG W h xs s lo) (e : h = .buf true r s n) : W.get r = some (.buf true s xs) := by
 rcases hn with ⟨rfl, _⟩ | ⟨r', _, _, h3, _, h5⟩
 ·cases e
 ·rw [e] at h3; cases h3; exact h5
def addE (f : Int → List Ed) (x : Int) (e : Ed) : Int → List Ed := fun y => if y = x then f y ++ [e] else f y
theorem Mg.app {W W2 : AW} {m lo c r : Nat} {f : Int → List Ed} {es : List En} {x : Int} {e : Ed} (h : Mg W m f lo es c) (h0 : 0 ≤ x) (h1 : x < 65536)
  (hn : nowG W2 (.buf true r 3 (((f x).map Ed.V).length + 1)) ((f x).map Ed.V ++ [e.V]) 3 lo) (hx : W.nx ≤ W2.nx) (hr : r = W.nx ∨ hdM es x = .buf true r 3 ((f x).map Ed.V).length) (hg : ∀ y, y < W.nx → y ≠ r → W2.get y = W.get y) :
  W2.get m = some (.map es c) ∧ Mg (W2.put m (.map (mset (.int .u16 x) (.buf true r 3 (((f x).map Ed.V).length + 1)) es c).1 (mset (.int .u16 x) (.buf true r 3 (((f x).map Ed.V).length + 1)) es c).2)) m (addE f x e) lo (mset (.int .u16 x) (.buf true r 3 (((f x).map Ed.V).length + 1)) es c).1 (mset (.int .u16 x) (.buf true r 3 (((f x).map Ed.V).length + 1)) es c).2 := by
 have rm : m ≠ r := fun e => by
  rcases hr with e2 | hr
  ·have := h.lm; omega
  ·have := (h.vl x).at hr
   rw [← e, h.hm] at this; cases this
 have gm := (hg m h.lm rm).trans h.hm
 have rc : ∀ y, y ≠ x → ∀ n, hdM es y ≠ .buf true r 3 n := fun y hy n e2 => by
  rcases hr with rfl | hr
  ·have := ((h.vl y).ref e2).1; omega
  ·exact h.ne x y (fun e => hy e.symm) r _ n hr e2
 have nb : ∀ {h' : V} {xs : List V} {n : Nat}, nowG W h' xs 3 lo → h' = .buf true m 3 n → False := fun {h' xs n} hN e => by
  have := hN.at e
  rw [h.hm] at this; cases this
 have hv : ∀ y, hdM (mset (.int .u16 x) (.buf true r 3 (((f x).map Ed.V).length + 1)) es c).1 y = if y = x then .buf true r 3 (((f x).map Ed.V).length + 1) else hdM es y := fun y => by
  unfold hdM
  rw [show V.int .u16 x = k16 x from rfl, He k16_eq (fun e he => by obtain ⟨a, h1, _⟩ := h.ky e he; exact ⟨a, h1⟩)]
  split <;> rfl
 refine ⟨gm, put_at, by rw [Af]; have := h.lm; omega, Jt (enc := k16) (p := fun x => 0 ≤ x ∧ x < 65536) h.ky ⟨h0, h1⟩, fun y => ?_, fun y z hyz r' n n' e1 e2 => ?_⟩
 ·rw [hv]
  by_cases hy : y = x
  ·subst hy
   rw [if_pos rfl, addE, if_pos rfl, mpp]
   exact hn.keep (by rw [Af]; exact lr _) fun r' e' _ => put_ne (by
    simp only [V.buf.injEq, true_and] at e'
    have : r = r' := e'.1
    rw [← this]; exact fun e => rm e.symm)
  ·rw [if_neg hy, addE, if_neg hy]
   exact (h.vl y).keep (by rw [Af]; exact hx) fun r' e' hr' => by
    rw [put_ne (fun e => nb (h.vl y) (e ▸ e')), hg r' hr' (fun e => rc y hy _ (e ▸ e'))]
 ·rw [hv] at e1 e2
  by_cases hy : y = x
  ·rw [if_pos hy] at e1
   rw [if_neg (fun e => hyz (hy.trans e.symm))] at e2
   cases e1
   exact rc z (fun e => hyz (hy.trans e.symm)) _ e2
  ·rw [if_neg hy] at e1
   by_cases hz : z = x
   ·rw [if_pos hz] at e2
    cases e2
    exact rc y hy _ e1
   ·rw [if_neg hz] at e2
    exact h.ne y z hyz r' n n' e1 e2
set_option maxHeartbeats 8000000
def c_cNew_B1 : AC := (.block 1 (.r [.u 15 (.fld 2) 6,.u 16 (.load false 1) 15,.u 17 (.fld 0) 3,.u 18 (.load false 1) 17,.b 19 (.bin .leq) 16 18] (.cond (.t 19) (.seq (.par (.step 4 (.u 24 (.fld 0) 6) (.step 10 (.u 30 (.fld 0) 6) (.step 6 (.u 26 (.load false 1) 5) (.step 7 (.u 27 .nilck 26) (.step 8 (.u 28 (.fld 1) 27) (.step 9 (.u 29 (.load false 1) 28) (.step 11 (.u 31 (.load false 1) 30) (.step 12 (.b 32 (.lookup (false, [.i .u16]) (.nilsl) false) 29 31) (.step 13 (.u 33 (.load true 3) 6) (.step 14 (.u 34 (.bslice 3 1 (.agg [.int .u16 0,.int .u16 0,.int .u8 0]) [0]) 33) (.alt (.step 0 (.u 20 (.load false 1) 5) (.step 1 (.u 21 .nilck 20) (.step 2 (.u 22 (.fld 1) 21) (.alt (.step 3 (.u 23 (.load false 1) 22) (.alt (.step 5 (.u 25 (.load false 1) 24) (.step 15 (.b 35 (.append 3 6) 32 34) (.step 16 ⟨none,.mupd (false, [.i .u16]), [.t 23,.t 25,.t 35], none⟩ .done))) (.step 15 (.b 35 (.append 3 6) 32 34) (.step 5 (.u 25 (.load false 1) 24) (.step 16 ⟨none,.mupd (false, [.i .u16]), [.t 23,.t 25,.t 35], none⟩ .done))))) (.alt (.step 5 (.u 25 (.load false 1) 24) (.alt (.step 3 (.u 23 (.load false 1) 22) (.step 15 (.b 35 (.append 3 6) 32 34) (.step 16 ⟨none,.mupd (false, [.i .u16]), [.t 23,.t 25,.t 35], none⟩ .done))) (.step 15 (.b 35 (.append 3 6) 32 34) (.step 3 (.u 23 (.load false 1) 22) (.step 16 ⟨none,.mupd (false, [.i .u16]), [.t 23,.t 25,.t 35], none⟩ .done))))) (.step 15 (.b 35 (.append 3 6) 32 34) (.step 3 (.u 23 (.load false 1) 22) (.step 5 (.u 25 (.load false 1) 24) (.step 16 ⟨none,.mupd (false, [.i .u16]), [.t 23,.t 25,.t 35], none⟩ .done))))))))) (.alt (.step 5 (.u 25 (.load false 1) 24) (.alt (.step 0 (.u 20 (.load false 1) 5) (.step 1 (.u 21 .nilck 20) (.step 2 (.u 22 (.fld 1) 21) (.alt (.step 3 (.u 23 (.load false 1) 22) (.step 15 (.b 35 (.append 3 6) 32 34) (.step 16 ⟨none,.mupd (false, [.i .u16]), [.t 23,.t 25,.t 35], none⟩ .done))) (.step 15 (.b 35 (.append 3 6) 32 34) (.step 3 (.u 23 (.load false 1) 22) (.step 16 ⟨none,.mupd (false, [.i .u16]), [.t 23,.t 25,.t 35], none⟩ .done))))))) (.step 15 (.b 35 (.append 3 6) 32 34) (.step 0 (.u 20 (.load false 1) 5) (.step 1 (.u 21 .nilck 20) (.step 2 (.u 22 (.fld 1) 21) (.step 3 (.u 23 (.load false 1) 22) (.step 16 ⟨none,.mupd (false, [.i .u16]), [.t 23,.t 25,.t 35], none⟩ .done)))))))) (.step 15 (.b 35 (.append 3 6) 32 34) (.step 0 (.u 20 (.load false 1) 5) (.step 1 (.u 21 .nilck 20) (.step 2 (.u 22 (.fld 1) 21) (.step 3 (.u 23 (.load false 1) 22) (.step 5 (.u 25 (.load false 1) 24) (.step 16 ⟨none,.mupd (false, [.i .u16]), [.t 23,.t 25,.t 35], none⟩ .done)))))))))))))))))))) (.par (.step 4 (.u 40 (.fld 1) 6) (.step 10 (.u 46 (.fld 1) 6) (.step 6 (.u 42 (.load false 1) 5) (.step 7 (.u 43 .nilck 42) (.step 8 (.u 44 (.fld 2) 43) (.step 9 (.u 45 (.load false 1) 44) (.step 11 (.u 47 (.load false 1) 46) (.step 12 (.b 48 (.lookup (false, [.i .u16]) (.nilsl) false) 45 47) (.step 13 (.u 49 (.load true 3) 6) (.step 14 (.u 50 (.bslice 3 1 (.agg [.int .u16 0,.int .u16 0,.int .u8 0]) [0]) 49) (.alt (.step 0 (.u 36 (.load false 1) 5) (.step 1 (.u 37 .nilck 36) (.step 2 (.u 38 (.fld 2) 37) (.alt (.step 3 (.u 39 (.load false 1) 38) (.alt (.step 5 (.u 41 (.load false 1) 40) (.step 15 (.b 51 (.append 3 6) 48 50) (.step 16 ⟨none,.mupd (false, [.i .u16]), [.t 39,.t 41,.t 51], none⟩ .done))) (.step 15 (.b 51 (.append 3 6) 48 50) (.step 5 (.u 41 (.load false 1) 40) (.step 16 ⟨none,.mupd (false, [.i .u16]), [.t 39,.t 41,.t 51], none⟩ .done))))) (.alt (.step 5 (.u 41 (.load false 1) 40) (.alt (.step 3 (.u 39 (.load false 1) 38) (.step 15 (.b 51 (.append 3 6) 48 50) (.step 16 ⟨none,.mupd (false, [.i .u16]), [.t 39,.t 41,.t 51], none⟩ .done))) (.step 15 (.b 51 (.append 3 6) 48 50) (.step 3 (.u 39 (.load false 1) 38) (.step 16 ⟨none,.mupd (false, [.i .u16]), [.t 39,.t 41,.t 51], none⟩ .done))))) (.step 15 (.b 51 (.append 3 6) 48 50) (.step 3 (.u 39 (.load false 1) 38) (.step 5 (.u 41 (.load false 1) 40) (.step 16 ⟨none,.mupd (false, [.i .u16]), [.t 39,.t 41,.t 51], none⟩ .done))))))))) (.alt (.step 5 (.u 41 (.load false 1) 40) (.alt (.step 0 (.u 36 (.load false 1) 5) (.step 1 (.u 37 .nilck 36) (.step 2 (.u 38 (.fld 2) 37) (.alt (.step 3 (.u 39 (.load false 1) 38) (.step 15 (.b 51 (.append 3 6) 48 50) (.step 16 ⟨none,.mupd (false, [.i .u16]), [.t 39,.t 41,.t 51], none⟩ .done))) (.step 15 (.b 51 (.append 3 6) 48 50) (.step 3 (.u 39 (.load false 1) 38) (.step 16 ⟨none,.mupd (false, [.i .u16]), [.t 39,.t 41,.t 51], none⟩ .done))))))) (.step 15 (.b 51 (.append 3 6) 48 50) (.step 0 (.u 36 (.load false 1) 5) (.step 1 (.u 37 .nilck 36) (.step 2 (.u 38 (.fld 2) 37) (.step 3 (.u 39 (.load false 1) 38) (.step 16 ⟨none,.mupd (false, [.i .u16]), [.t 39,.t 41,.t 51], none⟩ .done)))))))) (.step 15 (.b 51 (.append 3 6) 48 50) (.step 0 (.u 36 (.load false 1) 5) (.step 1 (.u 37 .nilck 36) (.step 2 (.u 38 (.fld 2) 37) (.step 3 (.u 39 (.load false 1) 38) (.step 5 (.u 41 (.load false 1) 40) (.step 16 ⟨none,.mupd (false, [.i .u16]), [.t 39,.t 41,.t 51], none⟩ .done))))))))))))))))))))) .skip)))
def c_cNew : AC := (.r [.u 3 .box 1,.v 4 (.nilptr)] (.r [.u 7 (.load true 1) 3,.p 8 .mkmap [],.p 9 .mkmap [],.p 10 (.build [.int .u8 0,.nilmap,.nilmap] [(0, 1), (1, 1), (2, 1)]) [.t 7,.t 8,.t 9],.u 11 .box 10,.p 5 (.alloc [.nilptr]) [],⟨none,.store 1, [.t 5,.t 11], none⟩] (.seq (.r [.m 12 0,.u 13 (.call 39) 12] (.block 0 (.rangef (.t 13) [14] (.reg [.p 6 (.alloc [.int .u16 0,.int .u16 0,.int .u8 0]) [],⟨none,.store 3, [.t 6,.t 14], none⟩]) c_cNew_B1))) (.r [.u 52 (.load false 1) 5,.m 4 52] .ret))))
theorem Xas : compF Tryz.prog Tryz.f41 ⟨false, false, []⟩ = some (c_cNew, [.tmp 4], 53) := by kernel_rfl
structure Mg2 (W : AW) (mo mi : Nat) (f g : Int → List Ed) (lo : Nat) (eo ei : List En) (co ci : Nat) : Prop where
 o : Mg W mo f lo eo co
 i : Mg W mi g lo ei ci
 ne : mo ≠ mi
 ap : ∀ x y r n n', hdM eo x = .buf true r 3 n → hdM ei y ≠ .buf true r 3 n'
theorem Mg2.swap {W : AW} {mo mi lo co ci : Nat} {f g : Int → List Ed} {eo ei : List En} (h : Mg2 W mo mi f g lo eo ei co ci) : Mg2 W mi mo g f lo ei eo ci co := ⟨h.i, h.o, h.ne.symm, fun x y r n n' e1 e2 => h.ap y x r n' n e2 e1⟩
theorem Mg2.ex {W W' : AW} {mo mi lo co ci : Nat} {f g : Int → List Ed} {eo ei : List En} (h : Mg2 W mo mi f g lo eo ei co ci) (hE : Ex W W') : Mg2 W' mo mi f g lo eo ei co ci := ⟨h.o.ex hE, h.i.ex hE, h.ne, h.ap⟩
theorem Mg2.to {W W' : AW} {mo mi lo co ci : Nat} {f g : Int → List Ed} {eo ei : List En} (h : Mg2 W mo mi f g lo eo ei co ci) (hx : W.nx ≤ W'.nx) (h1 : W'.get mo = W.get mo) (h2 : W'.get mi = W.get mi) (hg : ∀ r, lo ≤ r → r < W.nx → (∃ ys, W.get r = some (.buf true 3 ys)) → W'.get r = W.get r) : Mg2 W' mo mi f g lo eo ei co ci := ⟨h.o.to hx h1 hg, h.i.to hx h2 hg, h.ne, h.ap⟩
theorem hdM_set {es : List En} {c : Nat} (hk : ∀ e ∈ es, ∃ x, e.1 = k16 x ∧ 0 ≤ x ∧ x < 65536) (x : Int) (v : V) (y : Int) : hdM (mset (.int .u16 x) v es c).1 y = if y = x then v else hdM es y := by
 unfold hdM
 rw [show V.int .u16 x = k16 x from rfl, He k16_eq (fun e he => by obtain ⟨a, h1, _⟩ := hk e he; exact ⟨a, h1⟩)]
 split <;> rfl
theorem Mg2.appO {W W2 : AW} {mo mi lo co ci r : Nat} {f g : Int → List Ed} {eo ei : List En} {x : Int} {e : Ed} (h : Mg2 W mo mi f g lo eo ei co ci) (h0 : 0 ≤ x) (h1 : x < 65536)
  (hn : nowG W2 (.buf true r 3 (((f x).map Ed.V).length + 1)) ((f x).map Ed.V ++ [e.V]) 3 lo) (hx : W.nx ≤ W2.nx) (hr : r = W.nx ∨ hdM eo x = .buf true r 3 ((f x).map Ed.V).length) (hg : ∀ y, y < W.nx → y ≠ r → W2.get y = W.get y) :
  W2.get mo = some (.map eo co) ∧ Mg2 (W2.put mo (.map (mset (.int .u16 x) (.buf true r 3 (((f x).map Ed.V).length + 1)) eo co).1 (mset (.int .u16 x) (.buf true r 3 (((f x).map Ed.V).length + 1)) eo co).2)) mo mi (addE f x e) g lo (mset (.int .u16 x) (.buf true r 3 (((f x).map Ed.V).length + 1)) eo co).1 ei (mset (.int .u16 x) (.buf true r 3 (((f x).map Ed.V).length + 1)) eo co).2 ci := by
 obtain ⟨a1, a2⟩ := h.o.app h0 h1 hn hx hr hg
 have ri : ∀ y n, hdM ei y ≠ .buf true r 3 n := fun y n e2 => by
  rcases hr with rfl | hr
  ·have := ((h.i.vl y).ref e2).1; omega
  ·exact h.ap x y r _ n hr e2
 have im : mi ≠ r := fun e => by
  rcases hr with e2 | hr
  ·have := h.i.lm; omega
  ·have := (h.o.vl x).at hr
   rw [← e, h.i.hm] at this; cases this
 refine ⟨a1, a2, ⟨?_, by rw [Af]; have := h.i.lm; omega, h.i.ky, fun y => ?_, h.i.ne⟩, h.ne, fun y z r' n n' e1 e2 => ?_⟩
 ·rw [put_ne h.ne.symm, hg mi h.i.lm im]; exact h.i.hm
 ·refine (h.i.vl y).keep (by rw [Af]; exact hx) fun r' e' hr' => ?_
  rw [put_ne (fun e => ?_), hg r' hr' (fun e => ri y _ (e ▸ e'))]
  have := (h.i.vl y).at e'
  rw [e, h.o.hm] at this; cases this
 ·rw [hdM_set h.o.ky] at e1
  by_cases hy : y = x
  ·rw [if_pos hy] at e1
   cases e1
   exact ri z _ e2
  ·rw [if_neg hy] at e1
   exact h.ap y z r' n n' e1 e2
theorem Xi {es : List Ed} {own : Int} {k : Nat} (h : k < es.length) : (fun x => outL (es.take (k + 1)) own x) = if es[k].kd ≤ own then addE (fun x => outL (es.take k) own x) es[k].fr es[k] else fun x => outL (es.take k) own x := by
 funext x
 unfold outL
 rw [tao, gEg h, List.filter_append]
 by_cases h1 : es[k].kd ≤ own
 ·rw [if_pos h1, addE]
  by_cases h2 : x = es[k].fr
  ·subst h2; simp [h1]
  ·have : ¬ es[k].fr = x := fun e => h2 e.symm
   simp [h1, h2, this]
 ·rw [if_neg h1]; simp [h1]
theorem inL_take {es : List Ed} {own : Int} {k : Nat} (h : k < es.length) : (fun x => inL (es.take (k + 1)) own x) = if es[k].kd ≤ own then addE (fun x => inL (es.take k) own x) es[k].to es[k] else fun x => inL (es.take k) own x := by
 funext x
 unfold inL
 rw [tao, gEg h, List.filter_append]
 by_cases h1 : es[k].kd ≤ own
 ·rw [if_pos h1, addE]
  by_cases h2 : x = es[k].to
  ·subst h2; simp [h1]
  ·have : ¬ es[k].to = x := fun e => h2 e.symm
   simp [h1, h2, this]
 ·rw [if_neg h1]; simp [h1]
structure Se (W : AW) (sp : Nat) (own : Int) (es : List Ed) (lo : Nat) : Prop where
 is : ∃ mo mi eo ei co ci, W.get sp = some (.row [.int .u8 own, .map mo, .map mi]) ∧ Mg2 W mo mi (outL es own) (inL es own) lo eo ei co ci ∧ lo ≤ mo ∧ lo ≤ mi
 lp : sp < W.nx
 lo : lo ≤ sp
theorem Se.ex {W W' : AW} {sp lo : Nat} {own : Int} {es : List Ed} (h : Se W sp own es lo) (hE : Ex W W') : Se W' sp own es lo := by
 obtain ⟨mo, mi, eo, ei, co, ci, h1, h2, h3⟩ := h.is
 exact ⟨⟨mo, mi, eo, ei, co, ci, (hE.get _ h.lp).trans h1, h2.ex hE, h3⟩, by have := h.lp; have := hE.nx; omega, h.lo⟩
theorem bsE0 {W : AW} {K : V → AW → Prop} {a b c : Int} : sem E (.bslice 3 1 (.agg [.int .u16 0, .int .u16 0, .int .u8 0]) [0]) [.agg [.int .u16 a, .int .u16 b, .int .u8 c]] W K = K (.sl 3 true [(Ed.mk a b c).V]) W := by
 simp [sem, rsem, tsem, fillE, V.cells, Ed.V]
theorem bsE3 {W : AW} {K : V → AW → Prop} {e : Ed} : sem E (.bslice 3 1 (.agg [.int .u16 0, .int .u16 0, .int .u8 0]) [0]) [.agg [.int .u16 e.fr, .int .u16 e.to, .int .u8 e.kd]] W K = K (.sl 3 true [e.V]) W := bsE0
theorem edOk {P : List Ek} (h : ∀ x ∈ P, ekOk x) {e : Ed} (he : e ∈ edL P) : 0 ≤ e.fr ∧ e.fr < 65536 ∧ 0 ≤ e.to ∧ e.to < 65536 ∧ 0 ≤ e.kd ∧ e.kd < 256 := by
 have := h _ (edL_mem.1 he)
 exact ⟨this.a.1, this.a.2, this.b.1, this.b.2, this.c⟩
theorem newB_go (_ : E.P = Tryz.prog) {W : AW} {mo mi lo co ci b3 b5 b6 sp : Nat} {f g : Int → List Ed} {eo ei : List En} {own : Int} {e : Ed} (M : Mg2 W mo mi f g lo eo ei co ci) (hC : Cl W) (hlo : lo ≤ W.nx)
  (g3 : W.get b3 = some (.row [.int .u8 own])) (g5 : W.get b5 = some (.row [.ptr sp 0])) (g6 : W.get b6 = some (.row [.int .u16 e.fr, .int .u16 e.to, .int .u8 e.kd])) (gs : W.get sp = some (.row [.int .u8 own, .map mo, .map mi])) (_ : b3 < W.nx) (l5 : b5 < W.nx) (l6 : b6 < W.nx) (ls : sp < W.nx)
  (he : 0 ≤ e.fr ∧ e.fr < 65536 ∧ 0 ≤ e.to ∧ e.to < 65536 ∧ 0 ≤ e.kd ∧ e.kd < 256) (hf : (f e.fr).length < 2 ^ 32) (hg : (g e.to).length < 2 ^ 32) {A : AFr} {Q : Exit → AFr → AW → Prop}
  (a3 : A 3 = some (.ptr b3 0)) (a5 : A 5 = some (.ptr b5 0)) (a6 : A 6 = some (.ptr b6 0))
  (hQ : ∀ A' W' eo' ei' co' ci', A' 3 = some (.ptr b3 0) → A' 5 = some (.ptr b5 0) → Mg2 W' mo mi (if e.kd ≤ own then addE f e.fr e else f) (if e.kd ≤ own then addE g e.to e else g) lo eo' ei' co' ci' → Cl W' → W.nx ≤ W'.nx → (∀ y, y < W.nx → y ≠ mo → y ≠ mi → (y < lo ∨ ∀ ys, W.get y ≠ some (.buf true 3 ys)) → W'.get y = W.get y) → Q .normal A' W') : awp E c_cNew_B1 Q A W := by
 by_cases hk : e.kd ≤ own
 ·have hk' : decide (e.kd ≤ own) = true := decide_eq_true hk
  rw [if_pos hk, if_pos hk] at hQ
  unfold c_cNew_B1
  simp only [BS, ]
  rw [Am]
  simp only [BS, BC, Ac, ↓reduceIte, nE, BM, BD, a3, a6, g3, g6, hk']
  rw [Am]
  refine Ao (Q := fun x A' W' => x = .normal ∧ A' 3 = some (.ptr b3 0) ∧ A' 5 = some (.ptr b5 0) ∧ A' 6 = some (.ptr b6 0) ∧ ∃ eo' co', Mg2 W' mo mi (addE f e.fr e) g lo eo' ei co' ci ∧ Cl W' ∧ W.nx ≤ W'.nx ∧ ∀ y, y < W.nx → y ≠ mo → (y < lo ∨ ∀ ys, W.get y ≠ some (.buf true 3 ys)) → W'.get y = W.get y) _ ?_ ?_
  ·rintro _ A' W' ⟨rfl, b3', b5', b6', eo', co', M', hC', hn', hg'⟩
   have row' : ∀ y c, y < W.nx → W.get y = some (.row c) → W'.get y = some (.row c) := fun y c hy hc => by
    rw [hg' y hy (fun e' => by rw [e', M.o.hm] at hc; cases hc) (.inr fun ys e' => by rw [hc] at e'; cases e')]; exact hc
   have g5' := row' b5 _ l5 g5
   have g6' := row' b6 _ l6 g6
   have gs' := row' sp _ ls gs
   have hlo' : lo ≤ W'.nx := by omega
   have hE0 : ∀ (r : Nat) (W2 : AW), (r = W'.nx ∨ hdM ei e.to = .buf true r 3 ((g e.to).map Ed.V).length) → (∀ y, y < W'.nx → y ≠ r → W2.get y = W'.get y) → ∀ y c, y < W'.nx → W'.get y = some (.row c) → W2.get y = some (.row c) := fun r W2 hr hg y c hy hc => by
    rw [hg y hy (fun e' => ?_)]
    ·exact hc
    ·rcases hr with h | h
     ·omega
     ·have := (M'.i.vl e.to).at h
      rw [← e', hc] at this; cases this
   show awp E _ _ A' W'
   simp only [BS, BC, ↓reduceIte, nE, BM, BD, nA, nL, b5', b6', g5', g6', gs', M'.i.look he.2.2.1 he.2.2.2.1, bsE3]
   repeat' with_reducible refine And.intro ?_ ?_
   all_goals refine Il (M'.i.vl e.to) hC' hlo' (by decide) rfl (by rw [lmp]; omega) ?_
   all_goals
    intro r W2 hn hC2 hx2 hr hg2
    have hrow := hE0 r W2 hr hg2
    have k5 := hrow b5 _ (by omega) g5'
    have k6 := hrow b6 _ (by omega) g6'
    have ks := hrow sp _ (by omega) gs'
    obtain ⟨u1, u2⟩ := M'.swap.appO (e := e) he.2.2.1 he.2.2.2.1 hn hx2 hr hg2
    have ho := M'.i.ok he.2.2.1 he.2.2.2.1
    simp only [BS, BC, ↓reduceIte, nE, BM, BD, b5', k5, k6, ks, I7 u1 ho]
    have hm := M'.i.lm
    refine hQ _ _ _ _ _ _ (by simp only [Gh]; exact b3') (by simp only [Gh]; exact b5') u2.swap (hC2.put (by omega)) (by rw [Af]; omega) fun y hy h1 h3 h2 => ?_
    rw [put_ne h3, hg2 y (by omega) (fun e' => ?_)]
    ·exact hg' y hy h1 h2
    rcases hr with h | h
    ·omega
    ·have q1 := ((M'.i.vl e.to).ref h).2.1
     have q2 := (M'.i.vl e.to).at h
     rcases h2 with h2 | h2
     ·omega
     ·rw [← e', hg' y hy h1 (.inr h2)] at q2; exact h2 _ q2
  ·have hE0 : ∀ (r : Nat) (W2 : AW), (r = W.nx ∨ hdM eo e.fr = .buf true r 3 ((f e.fr).map Ed.V).length) → (∀ y, y < W.nx → y ≠ r → W2.get y = W.get y) → ∀ y c, y < W.nx → W.get y = some (.row c) → W2.get y = some (.row c) := fun r W2 hr hg y c hy hc => by
    rw [hg y hy (fun e' => ?_)]
    ·exact hc
    ·rcases hr with h | h
     ·omega
     ·have := (M.o.vl e.fr).at h
      rw [← e', hc] at this; cases this
   simp only [BS, BC, ↓reduceIte, nE, BM, BD, nA, nL, a5, a6, g5, g6, gs, M.o.look he.1 he.2.1, bsE3]
   repeat' with_reducible refine And.intro ?_ ?_
   all_goals refine Il (M.o.vl e.fr) hC hlo (by decide) rfl (by rw [lmp]; omega) ?_
   all_goals
    intro r W2 hn hC2 hx2 hr hg2
    have hrow := hE0 r W2 hr hg2
    have k5 := hrow b5 _ l5 g5
    have k6 := hrow b6 _ l6 g6
    have ks := hrow sp _ ls gs
    obtain ⟨u1, u2⟩ := M.appO (e := e) he.1 he.2.1 hn hx2 hr hg2
    have ho := M.o.ok he.1 he.2.1
    simp only [BS, BC, ↓reduceIte, nE, BM, BD, a3, a5, a6, k5, k6, ks, I7 u1 ho]
    have hm := M.o.lm
    refine ⟨tt, tt, tt, tt, _, _, u2, hC2.put (by omega), by rw [Af]; exact hx2, fun y hy h1 h2 => ?_⟩
    rw [put_ne h1, hg2 y hy (fun e' => ?_)]
    rcases hr with h | h
    ·omega
    ·have q1 := ((M.o.vl e.fr).ref h).2.1
     have q2 := (M.o.vl e.fr).at h
     rcases h2 with h2 | h2
     ·omega
     ·rw [← e'] at q2; exact h2 _ q2
 ·have hk' : decide (e.kd ≤ own) = false := decide_eq_false hk
  rw [if_neg hk, if_neg hk] at hQ
  simp only [BX, ↓reduceIte, nE, BM, BD, c_cNew_B1, a3, a6, g3, g6, hk']
  exact hQ _ _ _ _ _ _ a3 a5 M hC (lr _) fun _ _ _ _ _ => rfl
theorem Mg.low {W : AW} {m lo lo' c : Nat} {f : Int → List Ed} {es : List En} (h : Mg W m f lo es c) (hl : lo' ≤ lo) : Mg W m f lo' es c := ⟨h.hm, h.lm, h.ky, fun x => (h.vl x).low hl, h.ne⟩
theorem Mg2.low {W : AW} {mo mi lo lo' co ci : Nat} {f g : Int → List Ed} {eo ei : List En} (h : Mg2 W mo mi f g lo eo ei co ci) (hl : lo' ≤ lo) : Mg2 W mo mi f g lo' eo ei co ci := ⟨h.o.low hl, h.i.low hl, h.ne, h.ap⟩
theorem Mg.none {W : AW} {m lo : Nat} (hm : W.get m = some (.map [] 0)) (lm : m < W.nx) : Mg W m (fun _ => []) lo [] 0 := ⟨hm, lm, fun e he => (by cases he), fun x => .inl ⟨rfl, rfl⟩, fun x y _ r n n' e => (by cases e)⟩
theorem cnew_c (hP : PE E) (W : AW) {g m lo : Nat} {h : V} {P : List Ek} {N : List Int} (hG : Gr W g m h P N lo) {own : Int} (_ : 0 ≤ own ∧ own < 256) :
  ACalls E 41 [.ptr g 0, .agg [.int .u8 own]] W fun Y W' => ∃ sp, Y = .ptr sp 0 ∧ Se W' sp own (edL P) W.nx ∧ Ex W W' := by
 refine ACalls.of hP Tryz.func41 Xas (by simp) fun _ hok => ?_
 refine Ae hok ?_
 simp (disch:=omega) only [BZ, ↓reduceIte, nE, reduceCtorEq, BM, BD, nA, nL, nT, c_cNew]
 refine (O3 hP _ g).mono ?_
 rintro _ W0 ⟨q, rfl, hq, hqn, hE⟩
 have hEW : Ex W W0 := (Ex.x0 (W := W)).trans hE
 have hn0 := hE.nx
 have hnx : (X W W.nx [.row [.int .u8 own], .map [] 0, .map [] 0, .row [.int .u8 own, .map (rf W.nx 1), .map (rf W.nx 2)], .row [.ptr (rf W.nx 3) 0]]).nx = W.nx + 5 := rfl
 rw [hnx] at hn0
 have g3 : W0.get (rf W.nx 0) = some (.row [.int .u8 own]) := by rw [hE.get _ (by simp [Ar, rf]), Ap]; rfl
 have go : W0.get (rf W.nx 1) = some (.map [] 0) := by rw [hE.get _ (by simp [Ar, rf]), Ap]; rfl
 have gi : W0.get (rf W.nx 2) = some (.map [] 0) := by rw [hE.get _ (by simp [Ar, rf]), Ap]; rfl
 have gs : W0.get (rf W.nx 3) = some (.row [.int .u8 own, .map (rf W.nx 1), .map (rf W.nx 2)]) := by rw [hE.get _ (by simp [Ar, rf]), Ap]; rfl
 have g5 : W0.get (rf W.nx 4) = some (.row [.ptr (rf W.nx 3) 0]) := by rw [hE.get _ (by simp [Ar, rf]), Ap]; rfl
 have r0 : rf W.nx 0 = W.nx := rfl
 have r1 : rf W.nx 1 = W.nx + 1 := rfl
 have r2 : rf W.nx 2 = W.nx + 2 := rfl
 have r3 : rf W.nx 3 = W.nx + 3 := rfl
 have r4 : rf W.nx 4 = W.nx + 4 := rfl
 have hG0 := hG.ex hEW
 have hl := Lo hG
 simp (disch:=omega) only [BS, ]
 refine F6 hP (q := q) (P := P) (N := N) (by simp only [Tj]; exact if_pos rfl) hq hqn hE.cl hG0 (fun i W1 => Cl W1 ∧ W0.nx < W1.nx ∧ (∀ x, x < W0.nx → x ≠ rf W.nx 1 → x ≠ rf W.nx 2 → W1.get x = W0.get x) ∧ ∃ eo ei co ci, Mg2 W1 (rf W.nx 1) (rf W.nx 2) (fun x => outL ((edL P).take i) own x) (fun x => inL ((edL P).take i) own x) W0.nx eo ei co ci) ?_ ?_ ?_ ?_
 ·intro W1 hE1 hn1
  refine ⟨hE1.cl, hn1, fun x hx _ _ => hE1.get x hx, [], [], 0, 0, ?_, ?_, by omega, fun x y r n n' e => by cases e⟩
  ·exact Mg.none ((hE1.get _ (by omega)).trans go) (by omega)
  ·exact Mg.none ((hE1.get _ (by omega)).trans gi) (by omega)
 ·exact fun i W1 h => ⟨h.1, h.2.1⟩
 ·rintro i hi W1 W1' ⟨j0, j1, j2, eo, ei, co, ci, M⟩ hE1 hlp
  have ho := Xi (own := own) hi
  have hii := inL_take (own := own) hi
  have he := edOk hG.pk (gmm hi)
  have hlo : ∀ x, (outL ((edL P).take i) own x).length < 2 ^ 32 := fun x => by
   have h1 : (outL ((edL P).take i) own x).length ≤ ((edL P).take i).length := List.length_filter_le _ _
   rw [ltk] at h1
   omega
  have hli : ∀ x, (inL ((edL P).take i) own x).length < 2 ^ 32 := fun x => by
   have h1 : (inL ((edL P).take i) own x).length ≤ ((edL P).take i).length := List.length_filter_le _ _
   rw [ltk] at h1
   omega
  generalize (edL P)[i] = e at ho hii he
  have hn1 := hE1.nx
  refine Au hE1.cl ?_
  simp (disch:=omega) only [BS, BC, ↓reduceIte, nE, BM, BD, nA, nL, nT, Ed.V, hlp]
  refine ⟨tt, ?_⟩
  have hxg : ∀ y, y < W0.nx → y ≠ rf W.nx 1 → y ≠ rf W.nx 2 → (X (W1'.put W0.nx (.loop .busy none)) W1'.nx [.row [.int .u16 e.fr, .int .u16 e.to, .int .u8 e.kd]]).get y = W0.get y := fun y hy h1 h2 => by
   rw [Ag (by omega), put_ne (by omega), hE1.get y (by omega)]; exact j2 y hy h1 h2
  have M1 := (M.ex hE1).to (W' := X (W1'.put W0.nx (.loop .busy none)) W1'.nx [.row [.int .u16 e.fr, .int .u16 e.to, .int .u8 e.kd]]) (by simp only [Ar, rf]; omega) (by rw [Ag (by omega), put_ne (by omega)]) (by rw [Ag (by omega), put_ne (by omega)]) fun r h1 h2 ⟨ys, hy⟩ => by rw [Ag h2, put_ne (by rintro rfl; rw [hlp] at hy; cases hy)]
  refine newB_go hP (lo := W0.nx) (b3 := rf W.nx 0) (b5 := rf W.nx 4) (b6 := rf W1'.nx 0) (sp := rf W.nx 3) (e := e) M1 Cl.X (by simp only [Ar, rf]; omega) (by rw [hxg _ (by omega) (by omega) (by omega)]; exact g3) (by rw [hxg _ (by omega) (by omega) (by omega)]; exact g5) (by rw [Ap]; rfl) (by rw [hxg _ (by omega) (by omega) (by omega)]; exact gs) (by simp only [Ar, rf]; omega) (by simp only [Ar, rf]; omega) (by simp only [Ar, rf, lcs, List.length_nil]; omega) (by simp only [Ar, rf]; omega) he (hlo _) (hli _) tt tt tt ?_
  intro A' W' eo' ei' co' ci' _ _ M2 hC2 hn2 hg2
  simp only [Ar, rf, lcs, List.length_nil] at hn2
  have hloop : W'.get W0.nx = some (.loop .busy none) := by
   rw [hg2 W0.nx (by simp only [Ar, rf]; omega) (by omega) (by omega) (.inr fun ys => by rw [Ag (by omega), put_at]; simp), Ag (by omega), put_at]
  refine ⟨rfl, hloop, hC2.put (by omega), by rw [Af]; omega, fun y hy h1 h2 => ?_, eo', ei', co', ci', ?_⟩
  ·rw [put_ne (by omega), hg2 y (by simp only [Ar, rf]; omega) h1 h2 (.inl hy)]; exact hxg y hy h1 h2
  ·rw [ho, hii]
   exact M2.to (by rw [Af]; exact lr _) (put_ne (by omega)) (put_ne (by omega)) fun r _ _ ⟨ys, hy⟩ => put_ne (by rintro rfl; rw [hloop] at hy; cases hy)
 ·rintro W1 ⟨j0, j1, j2, eo, ei, co, ci, M⟩ hlp
  rw [tkl] at M
  have k5 : (W1.put W0.nx (.loop .exhausted none)).get (rf W.nx 4) = some (.row [.ptr (rf W.nx 3) 0]) := by rw [put_ne (by omega), j2 _ (by omega) (by omega) (by omega)]; exact g5
  simp (disch:=omega) only [BZ, ↓reduceIte, nE, BM, k5]
  have M1 := M.to (W' := W1.put W0.nx (.loop .exhausted none)) (by rw [Af]; omega) (put_ne (by omega)) (put_ne (by omega)) fun r h1 h2 ⟨ys, hy⟩ => put_ne (by rintro rfl; rw [hlp] at hy; cases hy)
  refine ⟨_, rfl, _, _, .weak Ab, by rw [Af]; omega, _, rfl, ⟨⟨_, _, _, _, _, _, ?_, M1.low (by omega), by omega, by omega⟩, by rw [Af]; omega, by omega⟩, ⟨j0.put (by omega), by rw [Af]; omega, fun x hx => ?_⟩⟩
  ·rw [put_ne (by omega), j2 _ (by omega) (by omega) (by omega)]; exact gs
  ·rw [put_ne (by omega), j2 x (by omega) (by omega) (by omega)]; exact hEW.get x hx
def c_cYield_1 : AC := (.r [.b 23 (.bin .lss) 22 21] (.seq (.w 23 2) (.seq (.block 3 (.r [.b 24 (.idxp 1) 20 22,.u 25 (.load false 1) 24,.m 7 25] (.seq (.par (.step 0 (.u 26 (.fld 1) 2) (.step 2 (.m 28 7) (.step 3 (.m 29 28) (.step 4 (.U 30 (.fld 2) 5 29 false) (.step 1 (.u 27 (.load false 1) 26) (.step 5 (.U 31 (.load false 1) 30 29 false) (.step 6 (.U 32 (.load false 1) 1 29 false) (.step 7 (.U 33 .nilck 32 29 false) (.step 8 (.U 34 (.fld 0) 33 29 false) (.step 9 (.U 35 (.fld 0) 34 29 false) (.step 10 (.U 36 (.load false 1) 35 29 false) (.step 11 (.B 37 (.bin .eql) 31 36 29 false) (.step 12 (.p 38 .pick [.t 29,.T,.t 37]) (.step 13 (.b 39 (.eqv false (false, [.b])) 27 38) (.step 14 (.m 40 39) (.step 15 (.M 41 0 40 true) (.step 16 (.U 42 (.fld 0) 5 40 true) (.step 18 (.M 44 7 40 true) (.step 17 (.U 43 (.load false 1) 42 40 true) (.step 19 (.B 45 (.build [.int .u16 0,.bool false] [(0, 1), (1, 1)]) 43 44 40 true) (.step 20 (.B 46 .callv 41 45 40 true) (.step 21 (.U 47 (.un .not) 46 40 true) (.step 22 (.p 48 .pick [.t 40,.t 47,.F]) .done)))))))))))))))))))))))) (.cond (.t 48) .ret .skip)))) (.reg [.a 49 (.bin .add) 22 1,.m 22 49]))))
def c_cYield_0 : AC := (.r [.b 17 (.bin .lss) 16 15] (.seq (.w 17 0) (.seq (.block 1 (.r [.b 18 (.idxp 3) 14 16,.u 19 (.load true 3) 18,.p 5 (.alloc [.int .u16 0,.int .u16 0,.int .u8 0]) [],⟨none,.store 3, [.t 5,.t 19], none⟩] (.r [.p 20 (.bslice 1 2 (.bool false) [0, 1]) [.F,.T],.u 21 (.len 1 0) 20,.v 22 (.int .i64 0)] (.block 2 (.loop c_cYield_1))))) (.reg [.a 50 (.bin .add) 16 1,.m 16 50]))))
def c_cYield : AC := (.seq (.par (.step 4 (.u 12 (.fld 0) 2) (.step 8 (.v 16 (.int .i64 0)) (.step 0 (.u 8 (.load false 1) 1) (.step 1 (.u 9 .nilck 8) (.step 2 (.u 10 (.fld 2) 9) (.step 3 (.u 11 (.load false 1) 10) (.step 5 (.u 13 (.load false 1) 12) (.step 6 (.b 14 (.lookup (false, [.i .u16]) (.nilsl) false) 11 13) (.step 7 (.u 15 (.len 1 0) 14) .done)))))))))) (.block 0 (.loop c_cYield_0)))
theorem So : compF Tryz.prog Tryz.f110 ⟨false, false, []⟩ = some (c_cYield, [], 51) := by kernel_rfl
def c_cbehA : AC := (.r [.u 2 .box 0,.u 3 .box 1,.v 4 (.nilfn)] (.r [.b 5 (.mkfn (.func 110) 0) 2 3,.m 4 5] .ret))
theorem X3 : compF Tryz.prog Tryz.f82 ⟨false, false, []⟩ = some (c_cbehA, [.tmp 4], 6) := by kernel_rfl
theorem beh_c (hP : PE E) (W : AW) (sp : Nat) (x : Sp) : ACalls E 82 [.ptr sp 0, spV x] W fun Y W' => ∃ b2 b3, Y = .fn (.func 110) [] [.ptr b2 0, .ptr b3 0] ∧ W'.get b2 = some (.row [.ptr sp 0]) ∧ W'.get b3 = some (.row [.int .u16 x.1, .bool x.2]) ∧ W.nx ≤ b2 ∧ b2 < W'.nx ∧ W.nx ≤ b3 ∧ b3 < W'.nx ∧ Ex W W' := by
 refine ACalls.of hP Tryz.func82 X3 (by simp [spV]) fun _ hok => ?_
 refine Ae hok ?_
 simp only [BZ, ↓reduceIte, nE, BM, BD, c_cbehA, spV]
 exact ⟨_, rfl, _, _, .weak Ab, by simp only [Ar, rf]; omega, rf W.nx 0, rf W.nx 1, rfl, by rw [Ap]; rfl, by rw [Ap]; rfl, by simp only [rf]; omega, by simp only [Ar, rf, lcs, List.length_nil]; omega, by simp only [rf]; omega, by simp only [Ar, rf, lcs, List.length_nil]; omega, .x0⟩
theorem eqvb {W : AW} {K : V → AW → Prop} {a b : Bool} : sem E (.eqv false (false, [.b])) [.bool a, .bool b] W K = K (.bool (a == b)) W := by
 cases a <;> cases b <;> rfl
structure Kp (C : Nat → Prop) (W W' : AW) : Prop where
 nx : W.nx ≤ W'.nx
 get : ∀ r, r < W.nx → ¬ C r → (∀ cs, W.get r ≠ some (.vec 2 cs)) → W'.get r = W.get r
theorem Kp.refl (C : Nat → Prop) (W : AW) : Kp C W W := ⟨lr _, fun _ _ _ _ => rfl⟩
theorem Kp.ex {C : Nat → Prop} {W W' : AW} (h : Ex W W') : Kp C W W' := ⟨h.nx, fun r hr _ _ => h.get r hr⟩
theorem Kp.trans {C : Nat → Prop} {W W1 W2 : AW} (a : Kp C W W1) (b : Kp C W1 W2) : Kp C W W2 := ⟨Nat.le_trans a.nx b.nx, fun r hr hc hv => by
 have e := a.get r hr hc hv
 rw [b.get r (by have := a.nx; omega) hc (by rw [e]; exact hv), e]⟩
theorem Kp.row {C : Nat → Prop} {W W' : AW} (h : Kp C W W') {r : Nat} {c : List V} (hr : r < W.nx) (hc : ¬ C r) (hg : W.get r = some (.row c)) : W'.get r = some (.row c) := by
 rw [h.get r hr hc (fun cs => by rw [hg]; simp)]; exact hg
def passB (own : Int) (b : Bool) (e : Ed) (o : Bool) : Bool := b == (o || ownE own e)
theorem Wl (own : Int) (b : Bool) (e : Ed) (j : Nat) (h : j < 2) : (([false, true].take (j + 1)).filter (passB own b e)).map (fun o => (e.fr, o)) = (([false, true].take j).filter (passB own b e)).map (fun o => (e.fr, o)) ++ if passB own b e ([false, true][j]) = true then [(e.fr, [false, true][j])] else [] := by
 rw [tao, gEg (by exact h), List.filter_append, mpp, Option.toList_some, List.filter_cons]
 split <;> rfl
theorem inner_go (_ : E.P = Tryz.prog) {W : AW} {y b2 b3 b5 sp mo mi : Nat} {own : Int} {x : Sp} {e : Ed} {v14 : V} {k n : Nat} (g2 : W.get b2 = some (.row [.ptr sp 0])) (g3 : W.get b3 = some (.row [.int .u16 x.1, .bool x.2])) (gs : W.get sp = some (.row [.int .u8 own, .map mo, .map mi])) (g5 : W.get b5 = some (.row [.int .u16 e.fr, .int .u16 e.to, .int .u8 e.kd]))
  (hmono : ∀ (vs : List V) (W1 : AW) (K K' : V → AW → Prop), (∀ v W', K v W' → K' v W') → E.yield y vs W1 K → E.yield y vs W1 K') {C : Nat → Prop} (l2 : b2 < W.nx) (l3 : b3 < W.nx) (l5 : b5 < W.nx) (ls : sp < W.nx) (c2 : ¬ C b2) (c3 : ¬ C b3) (c5 : ¬ C b5) (cs : ¬ C sp)
  (J : List Sp → AW → Prop) (hC : ∀ d W1, J d W1 → Cl W1) {d : List Sp} (h0 : J d W) 
  (hy : ∀ j (hj : j < 2), passB own x.2 e ([false, true][j]) = true → ∀ W1 l, J (d ++ (([false, true].take j).filter (passB own x.2 e)).map fun o => (e.fr, o)) W1 → E.yield y [spV (e.fr, [false, true][j])] (X W1 W1.nx l) (fun Y W2 => Y = .bool true ∧ J (d ++ (([false, true].take (j + 1)).filter (passB own x.2 e)).map fun o => (e.fr, o)) W2 ∧ Kp C (X W1 W1.nx l) W2))
  {A : AFr} {Q : Exit → AFr → AW → Prop} (a0 : A 0 = some (.yld y)) (a1 : A 1 = some (.ptr b2 0)) (a2 : A 2 = some (.ptr b3 0)) (a5 : A 5 = some (.ptr b5 0)) (a14 : A 14 = some v14) (a15 : A 15 = some (.int .i64 n)) (a16 : A 16 = some (.int .i64 k)) (a20 : A 20 = some (.sl 1 true [.bool false, .bool true])) (a21 : A 21 = some (.int .i64 2)) (a22 : A 22 = some (.int .i64 0))
  (hQ : ∀ A' W', A' 0 = some (.yld y) → A' 1 = some (.ptr b2 0) → A' 2 = some (.ptr b3 0) → A' 14 = some v14 → A' 15 = some (.int .i64 n) → A' 16 = some (.int .i64 k) → J (d ++ behE own x.2 e) W' → Kp C W W' → Q (.exit 2) A' W') : awp E (.loop c_cYield_1) Q A W := by
 rw [Ai]
 refine alp (fun (j : Nat) A1 W1 => A1 0 = some (.yld y) ∧ A1 1 = some (.ptr b2 0) ∧ A1 2 = some (.ptr b3 0) ∧ A1 5 = some (.ptr b5 0) ∧ A1 14 = some v14 ∧ A1 15 = some (.int .i64 n) ∧ A1 16 = some (.int .i64 k) ∧ A1 20 = some (.sl 1 true [.bool false, .bool true]) ∧ A1 21 = some (.int .i64 2) ∧ A1 22 = some (.int .i64 (j : Nat)) ∧ j ≤ 2 ∧ J (d ++ (([false, true].take j).filter (passB own x.2 e)).map fun o => (e.fr, o)) W1 ∧ Kp C W W1) (fun j => 2 - j) 0
  ⟨a0, a1, a2, a5, a14, a15, a16, a20, a21, a22, Nat.zero_le _, by simpa using h0, Kp.refl _ _⟩ ?_
 rintro j A1 W1 ⟨q0, q1, q2, q5, q14, q15, q16, q20, q21, q22, qj, qJ, qK⟩ _
 by_cases hj : j < 2
 ·have k2 := qK.row l2 c2 g2
  have k3 := qK.row l3 c3 g3
  have k5 := qK.row l5 c5 g5
  have ks := qK.row ls cs gs
  have hs2 : isS 1 (.sl 1 true [.bool false, .bool true]) [.bool false, .bool true] := .mk
  have hat : ([V.bool false, V.bool true] : List V)[j]? = some (.bool ([false, true][j])) := by
   have : j = 0 ∨ j = 1 := by omega
   rcases this with rfl | rfl <;> rfl
  have hone := Wl own x.2 e j hj
  have hyj := hy j hj
  generalize ([false, true][j]) = o at hat hone hyj
  have hjl : decide (((j : Nat) : Int) < 2) = true := decide_eq_true (by omega)
  rw [hone] at hyj
  by_cases hp : passB own x.2 e o = true
  ·refine Au (hC _ _ qJ) ?_
   have hyj := hyj hp
   rw [if_pos hp] at hyj hone
   cases o with
   | true =>
    have hp' : (x.2 == true) = true := by simpa [passB] using hp
    simp (disch:=omega) only [BS, Am, Ac, ↓reduceIte, nE, BM, BD, c_cYield_1, q2, q20, q21, q22, hjl, hs2.idx hat]
    repeat (rw [Aa]; simp (disch:=omega) only [BS, BC, ↓reduceIte, nE, reduceCtorEq, BM, BD, nA, nL, q0, q5, k3, k5, eqvb, hp', Dr])
    refine hmono _ _ _ _ ?_ (hyj W1 [] qJ)
    rintro Y W2 ⟨rfl, g, gk⟩
    simp (disch:=omega) only [BS, ]
    repeat (rw [Aa]; simp (disch:=omega) only [BS, BC, Ac, ↓reduceIte, nE, reduceCtorEq, BD, q0, q1, q2, q5, q14, q15, q16, q20, q21, q22, Ah])
    exact ⟨j + 1, ⟨tt, tt, tt, tt, tt, tt, tt, tt, tt, tt, hj, by rw [hone]; exact g, (qK.trans (Kp.ex .x0)).trans gk⟩, by omega, by have := gk.nx; have := (Ex.x0 (W := W1) (l := [])).nx; omega⟩
   | false =>
    have hp' : (x.2 == (e.kd == own)) = true := by simpa [passB, ownE] using hp
    simp (disch:=omega) only [BS, Am, Ac, ↓reduceIte, nE, BM, BD, c_cYield_1, q2, q20, q21, q22, hjl, hs2.idx hat]
    repeat (rw [Aa]; simp (disch:=omega) only [BS, BC, ↓reduceIte, nE, reduceCtorEq, BM, BD, nA, nL, q0, q1, q5, k2, k3, k5, ks, eqvb, hp', Dr])
    refine hmono _ _ _ _ ?_ (hyj W1 [] qJ)
    rintro Y W2 ⟨rfl, g, gk⟩
    simp (disch:=omega) only [BS, ]
    repeat (rw [Aa]; simp (disch:=omega) only [BS, BC, Ac, ↓reduceIte, nE, reduceCtorEq, BD, q0, q1, q2, q5, q14, q15, q16, q20, q21, q22, Ah])
    exact ⟨j + 1, ⟨tt, tt, tt, tt, tt, tt, tt, tt, tt, tt, hj, by rw [hone]; exact g, (qK.trans (Kp.ex .x0)).trans gk⟩, by omega, by have := gk.nx; have := (Ex.x0 (W := W1) (l := [])).nx; omega⟩
  ·rw [if_neg hp, apn] at hone
   have hpf : passB own x.2 e o = false := by simpa using hp
   cases o with
   | true =>
    have hp' : (x.2 == true) = false := by simpa [passB] using hpf
    simp (disch:=omega) only [BS, Am, Ac, ↓reduceIte, nE, BM, BD, c_cYield_1, q2, q20, q21, q22, hjl, hs2.idx hat]
    repeat (rw [Aa]; simp (disch:=omega) only [BS, BC, Ac, ↓reduceIte, nE, reduceCtorEq, BM, q0, q1, q2, q5, q14, q15, q16, q20, q21, q22, k3, eqvb, hp', Ah])
    exact ⟨j + 1, ⟨tt, tt, tt, tt, tt, tt, tt, tt, tt, tt, hj, by rw [hone]; exact qJ, qK⟩, by omega, by omega⟩
   | false =>
    have hp' : (x.2 == (e.kd == own)) = false := by simpa [passB, ownE] using hpf
    simp (disch:=omega) only [BS, Am, Ac, ↓reduceIte, nE, BM, BD, c_cYield_1, q2, q20, q21, q22, hjl, hs2.idx hat]
    repeat (rw [Aa]; simp (disch:=omega) only [BS, BC, Ac, ↓reduceIte, nE, reduceCtorEq, BM, BD, q0, q1, q2, q5, q14, q15, q16, q20, q21, q22, k2, k3, k5, ks, eqvb, hp', Ah])
    exact ⟨j + 1, ⟨tt, tt, tt, tt, tt, tt, tt, tt, tt, tt, hj, by rw [hone]; exact qJ, qK⟩, by omega, by omega⟩
 ·obtain rfl : j = 2 := by omega
  simp (disch:=omega) only [BX, ↓reduceIte, c_cYield_1, q21, q22, show decide (((2 : Nat) : Int) < 2) = false from rfl]
  exact hQ _ _ q0 q1 q2 q14 q15 q16 qJ qK
theorem beh_iter (hP : PE E) {W : AW} {y b2 b3 sp mo mi lo : Nat} {own : Int} {es : List Ed} {ei : List En} {ci : Nat} {x : Sp} (hx : 0 ≤ x.1 ∧ x.1 < 65536) (h2 : W.get b2 = some (.row [.ptr sp 0])) (h3 : W.get b3 = some (.row [.int .u16 x.1, .bool x.2])) (hs : W.get sp = some (.row [.int .u8 own, .map mo, .map mi])) (M : Mg W mi (inL es own) lo ei ci) (hl : es.length < 2 ^ 32) {C : Nat → Prop} (l2 : b2 < W.nx) (l3 : b3 < W.nx) (ls : sp < W.nx) (cl : ∀ r, C r → r < W.nx) (c2 : ¬ C b2) (c3 : ¬ C b3) (cs : ¬ C sp) (ce : ∀ r n, hdM ei x.1 = .buf true r 3 n → ¬ C r)
  (J : List Sp → AW → Prop) (h0 : J [] W) (hJ : ∀ d W1, J d W1 → Cl W1 ∧ Kp C W W1) (hmono : ∀ (vs : List V) (W1 : AW) (K K' : V → AW → Prop), (∀ v W', K v W' → K' v W') → E.yield y vs W1 K → E.yield y vs W1 K')
  (hy : ∀ d z t, behR es own x = d ++ z :: t → ∀ W1 l, J d W1 → E.yield y [spV z] (X W1 W1.nx l) (fun Y W2 => Y = .bool true ∧ J (d ++ [z]) W2 ∧ Kp C (X W1 W1.nx l) W2)) (hx0 : ∀ d W1 l, J d W1 → J d (X W1 W1.nx l)) :
  ACalls E 110 [.yld y, .ptr b2 0, .ptr b3 0] W fun Y W' => Y = .tuple [] ∧ J (behR es own x) W' := by
 refine ACalls.of hP Tryz.func110 So (by simp) fun _ hok => ?_
 have hv := M.vl x.1
 have hlen : (inL es own x.1).length ≤ es.length := List.length_filter_le _ _
 simp (disch:=omega) only [BZ, ↓reduceIte, nE, BM, BD, c_cYield, h2, h3, hs, M.look hx.1 hx.2, hv.len, lmp]
 rw [Ai]
 refine alp (fun (k : Nat) A1 W1 => A1 0 = some (.yld y) ∧ A1 1 = some (.ptr b2 0) ∧ A1 2 = some (.ptr b3 0) ∧ A1 14 = some (hdM ei x.1) ∧ A1 15 = some (.int .i64 (inL es own x.1).length) ∧ A1 16 = some (.int .i64 (k : Nat)) ∧ k ≤ (inL es own x.1).length ∧ J (((inL es own x.1).take k).flatMap (behE own x.2)) W1) (fun k => (inL es own x.1).length - k) 0
  ⟨tt, tt, tt, tt, tt, tt, Nat.zero_le _, h0⟩ ?_
 rintro k A1 W1 ⟨q0, q1, q2, q14, q15, q16, qk, qJ⟩ _
 obtain ⟨jC, jK⟩ := hJ _ _ qJ
 by_cases hk : k < (inL es own x.1).length
 ·have hv1 : nowG W1 (hdM ei x.1) ((inL es own x.1).map Ed.V) 3 lo := hv.keep jK.nx fun r e hr => jK.get r hr (ce r _ e) fun cs hc => by rw [hv.at e] at hc; cases hc
  have hat := Wc hk
  have hst : ((inL es own x.1).take (k + 1)).flatMap (behE own x.2) = ((inL es own x.1).take k).flatMap (behE own x.2) ++ behE own x.2 (inL es own x.1)[k] := by
   rw [tao, gEg hk, List.flatMap_append]; simp
  have hall : behR es own x = ((inL es own x.1).take k).flatMap (behE own x.2) ++ behE own x.2 (inL es own x.1)[k] ++ ((inL es own x.1).drop (k + 1)).flatMap (behE own x.2) := by
   rw [← hst, ← List.flatMap_append, List.take_append_drop]; rfl
  generalize (inL es own x.1)[k] = e at hat hst hall
  refine Au jC ?_
  have hE0 : ∀ l, Ex W1 (X W1 W1.nx l) := fun l => (Ex.refl jC).X
  have hvX : nowG (X W1 W1.nx []) (hdM ei x.1) ((inL es own x.1).map Ed.V) 3 lo := hv1.keep (hE0 []).nx fun r _ hr => (hE0 []).get r hr
  have hbs : ∀ W K, sem E (.bslice 1 2 (.bool false) [0, 1]) [.bool false, .bool true] W K = K (.sl 1 true [.bool false, .bool true]) W := fun W K => rfl
  simp (disch:=omega) only [BX, ↓reduceIte, nE, BM, BD, nA, nL, nT, c_cYield_0, q14, q15, q16, clt, hk, dT, hvX.idx' hat, Fe, hbs]
  have w2 := jK.row l2 c2 h2
  have w3 := jK.row l3 c3 h3
  have ws := jK.row ls cs hs
  have n1 := jK.nx
  have hne : ∀ r, W.nx ≤ r → ¬ C r := fun r hr hc => by have := cl r hc; omega
  have hfull : behE own x.2 e = ([false, true].filter (passB own x.2 e)).map fun o => (e.fr, o) := rfl
  refine inner_go hP (W := X W1 W1.nx [.row [.int .u16 e.fr, .int .u16 e.to, .int .u8 e.kd]]) (b5 := rf W1.nx 0) (e := e) (k := k) (by rw [Ag (by omega)]; exact w2) (by rw [Ag (by omega)]; exact w3) (by rw [Ag (by omega)]; exact ws) (by rw [Ap]; rfl) hmono (by simp only [Ar, rf]; omega) (by simp only [Ar, rf]; omega) (by simp only [Ar, rf, lcs, List.length_nil]; omega) (by simp only [Ar, rf]; omega) c2 c3 (hne _ (by simp only [rf]; omega)) cs J (fun d W' h => (hJ d W' h).1) (hx0 _ _ _ qJ) (fun j hj hp W' l hJ' => ?_) tt tt tt tt tt tt tt tt tt tt ?_
  ·have hone := Wl own x.2 e j hj
   rw [if_pos hp] at hone
   have h1 := hy (((inL es own x.1).take k).flatMap (behE own x.2) ++ (([false, true].take j).filter (passB own x.2 e)).map fun o => (e.fr, o)) (e.fr, [false, true][j]) ((([false, true].drop (j + 1)).filter (passB own x.2 e)).map (fun o => (e.fr, o)) ++ ((inL es own x.1).drop (k + 1)).flatMap (behE own x.2)) ?_ W' l hJ'
   ·rw [hone, ← List.append_assoc]; exact h1
   ·have hsp : behE own x.2 e = (([false, true].take (j + 1)).filter (passB own x.2 e)).map (fun o => (e.fr, o)) ++ (([false, true].drop (j + 1)).filter (passB own x.2 e)).map (fun o => (e.fr, o)) := by
     rw [← mpp, ← List.filter_append, List.take_append_drop]; rfl
    rw [hall, hsp, hone]
    simp only [List.append_assoc, List.cons_append, List.nil_append]
  ·intro A' W' z0 z1 z2 z14 z15 z16 zJ zK
   simp (disch:=omega) only [BS, ↓reduceIte, nE, reduceCtorEq, z0, z1, z2, z14, z15, z16, Ah]
   exact ⟨k + 1, ⟨tt, tt, tt, tt, tt, tt, hk, by rw [hst]; exact zJ⟩, by omega, by have := (hJ _ _ zJ).2.nx; omega⟩
 ·obtain rfl : k = (inL es own x.1).length := by omega
  rw [tkl] at qJ
  simp (disch:=omega) only [BX, ↓reduceIte, c_cYield_0, q15, q16, clt, hk, dF]
  exact ⟨_, rfl, _, _, .weak Ab, jK.nx, rfl, qJ⟩
theorem Xf (hP : PE E) {W0 : AW} {A : AFr} {pv b2 b3 sp mo mi lo : Nat} {own : Int} {es : List Ed} {ei : List En} {ci : Nat} {x : Sp} {gx : AX} {asg body : AC} {Q : Exit → AFr → AW → Prop} (hg : gx.ev E A = some (.fn (.func 110) [] [.ptr b2 0, .ptr b3 0])) (hx : 0 ≤ x.1 ∧ x.1 < 65536) (h2 : W0.get b2 = some (.row [.ptr sp 0])) (h3 : W0.get b3 = some (.row [.int .u16 x.1, .bool x.2])) (hs : W0.get sp = some (.row [.int .u8 own, .map mo, .map mi])) (M : Mg W0 mi (inL es own) lo ei ci) (hl : es.length < 2 ^ 32) (hC : Cl W0) {C : Nat → Prop} (l2 : b2 < W0.nx) (l3 : b3 < W0.nx) (ls : sp < W0.nx) (cl : ∀ r, C r → r < W0.nx) (c2 : ¬ C b2) (c3 : ¬ C b3) (cs : ¬ C sp) (ce : ∀ r n, hdM ei x.1 = .buf true r 3 n → ¬ C r)
  (J : List Sp → AW → Prop) (h0 : ∀ W1, Ex W0 W1 → W0.nx < W1.nx → J [] W1) (hJ : ∀ d W1, J d W1 → Cl W1 ∧ W0.nx < W1.nx ∧ Kp C W0 W1) (hx0 : ∀ d W1 l, J d W1 → J d (X W1 W1.nx l))
  (hb : ∀ d z t, behR es own x = d ++ z :: t → ∀ W1, J d W1 → W1.get W0.nx = some (.loop .ready none) →
   awp E asg (thenQ (fun A1 W2 => W2.get W0.nx = some (.loop .ready none) ∧ awp E body (fun e _ W3 => e = .normal ∧ W3.get W0.nx = some (.loop .busy none) ∧ J (d ++ [z]) (W3.put W0.nx (.loop .ready none)) ∧ Kp C W1 (W3.put W0.nx (.loop .ready none))) A1 (W2.put W0.nx (.loop .busy none))) (fun _ _ _ => False)) (A.put pv (spV z)) W1)
  (hQ : ∀ W1, J (behR es own x) W1 → W1.get W0.nx = some (.loop .ready none) → Q .normal A (W1.put W0.nx (.loop .exhausted none))) : awp E (.rangef gx [pv] asg body) Q A W0 := by
 rw [Dg, hg]
 intro E' eP eG ey _
 have hP' : E'.P = Tryz.prog := eP.trans hP
 have hE : Ex W0 (W0.alloc (.loop .ready none)) := ⟨fun r hr => by rw [Ad] at hr; rw [Ci, if_neg (by omega)]; exact hC r (by omega), by rw [Ad]; omega, fun x hx => Ak hx⟩
 simp only [mcs, List.map_nil, Gv]
 refine (beh_iter (E := E') hP' (y := W0.nx) (b2 := b2) (b3 := b3) hx (by rw [Ak l2]; exact h2) (by rw [Ak l3]; exact h3) (by rw [Ak ls]; exact hs) (M.ex hE) hl (C := C) (by rw [Ad]; omega) (by rw [Ad]; omega) (by rw [Ad]; omega) (fun r hr => by rw [Ad]; have := cl r hr; omega) c2 c3 cs ce (fun d W1 => J d W1 ∧ W1.get W0.nx = some (.loop .ready none)) ⟨h0 _ hE (by rw [Ad]; omega), Ay⟩ (fun d W1 g => ⟨(hJ _ _ g.1).1, ?_⟩) (fun vs W1 K K' hk hy => E'.yieldMono _ _ _ _ _ hk hy) ?_ (fun d W1 l g => ⟨hx0 _ _ _ g.1, by rw [Ag (hJ _ _ g.1).2.1]; exact g.2⟩)).mono ?_
 ·obtain ⟨g1, g2, g3⟩ := hJ _ _ g.1
  refine ⟨by rw [Ad]; exact g2, fun r hr hc hv => ?_⟩
  rw [Ad] at hr
  by_cases e : r = W0.nx
  ·rw [e, g.2, Ay]
  ·rw [Ak (by omega)] at hv ⊢
   exact g3.get r (by omega) hc hv
 ·rintro d z t hd W1 l ⟨g1, g2⟩
  have hlt := (hJ _ _ g1).2.1
  have g1' := hx0 _ _ l g1
  refine ey _ _ _ ⟨by rw [Ag hlt]; exact g2, rfl, ?_⟩
  refine Ao _ ?_ (hb d z t hd _ g1' (by rw [Ag hlt]; exact g2))
  intro e A1 W2 hh
  cases e with
  | normal =>
   refine ⟨hh.1, Ao _ ?_ hh.2⟩
   rintro e A3 W3 ⟨rfl, h2, h3, h4⟩
   exact ⟨h2, rfl, ⟨h3, put_at⟩, h4⟩
  | _ => exact hh
 ·rintro Y W1 ⟨_, g1, g2⟩
  simp only [doneQ, g2]
  exact hQ _ g1 g2
structure FI (es : List Ed) (to : Sp) (L : Fl) : Prop where
 nd : (L.map (·.1)).Nodup
 mem : ∀ y ∈ L, y.1 = to ∨ ∃ e ∈ es, y.1.1 = e.fr
 dl : ∀ y ∈ L, y.2 ≤ L.length
theorem N7 {d : Nat} {L : Fl} {z : Sp} {y : Sp × Nat} (h : y ∈ putF d L z) : y ∈ L ∨ (y = (z, d + 1) ∧ z ∉ L.map (·.1)) := by
 unfold putF at h
 split at h
 ·exact .inl h
 ·rename_i hz
  rcases List.mem_append.1 h with h | h
  ·exact .inl h
  ·exact .inr ⟨List.mem_singleton.1 h, hz⟩
theorem H4 (d : Nat) (L : Fl) (z : Sp) : L <+: putF d L z := by
 unfold putF
 split
 ·exact List.prefix_refl _
 ·exact List.prefix_append _ _
theorem FI.put {es : List Ed} {to : Sp} {L : Fl} (h : FI es to L) {z : Sp} (hz : ∃ e ∈ es, z.1 = e.fr) {d : Nat} (hd : d ≤ L.length) : FI es to (putF d L z) := by
 refine ⟨?_, fun y hy => ?_, fun y hy => ?_⟩
 ·unfold putF
  split
  ·exact h.nd
  ·rename_i hn
   rw [mpp, List.nodup_append]
   refine ⟨h.nd, by simp, fun a ha b hb e => ?_⟩
   have : b = z := by simpa using hb
   exact hn (this ▸ e ▸ ha)
 ·rcases N7 hy with hy | ⟨rfl, _⟩
  ·exact h.mem y hy
  ·exact .inr hz
 ·have hl := (H4 d L z).length_le
  rcases N7 hy with hy | ⟨rfl, hn⟩
  ·exact Nat.le_trans (h.dl y hy) hl
  ·unfold putF
   rw [if_neg hn, lap]
   simp only [lcs, List.length_nil]; omega
theorem FI.start (es : List Ed) (to : Sp) : FI es to [(to, 0)] := ⟨by simp, fun y hy => .inl (by rw [List.mem_singleton.1 hy]), fun y hy => by rw [List.mem_singleton.1 hy]; exact Nat.zero_le _⟩
theorem FI.len {es : List Ed} {to : Sp} {L : Fl} (h : FI es to L) : L.length ≤ 2 * es.length + 1 := by
 have h1 := Cc (l := L.map (·.1)) (m := to :: es.flatMap fun e => [(e.fr, false), (e.fr, true)]) h.nd fun x hx => by
  obtain ⟨y, hy, rfl⟩ := List.mem_map.1 hx
  rcases h.mem y hy with e | ⟨e, he, h2⟩
  ·rw [e]; simp
  ·refine List.mem_cons_of_mem _ (List.mem_flatMap.2 ⟨e, he, ?_⟩)
   obtain ⟨⟨a, b⟩, d⟩ := y
   simp only at h2
   subst h2
   cases b <;> simp
 have h2 : ∀ l : List Ed, (l.flatMap fun e => [((e.fr, false) : Sp), (e.fr, true)]).length = 2 * l.length := fun l => by
  induction l with
  | nil => rfl
  | cons a l ih => simp only [List.flatMap_cons, lap, ih, lcs, List.length_nil]; omega
 rw [lmp, lcs, h2] at h1
 omega
theorem Pe {es : List Ed} {own : Int} {x z : Sp} (h : z ∈ behR es own x) : ∃ e ∈ es, z.1 = e.fr := by
 obtain ⟨e, he, _, h2, _⟩ := Og.1 h
 exact ⟨e, he, h2.symm⟩
theorem Gf (d : Nat) : ∀ (l : List Sp) (L : Fl), L <+: l.foldl (putF d) L
 | [], _ => List.prefix_refl _
 | z :: l, L => (H4 d L z).trans (Gf d l _)
theorem FI.fold {es : List Ed} {to : Sp} (d : Nat) : ∀ {l : List Sp} {L : Fl}, FI es to L → d ≤ L.length → (∀ z ∈ l, ∃ e ∈ es, z.1 = e.fr) → FI es to (l.foldl (putF d) L)
 | [], _, h, _, _ => h
 | z :: l, L, h, hd, hz => FI.fold (l := l) d (h.put (hz z (by simp)) hd) (Nat.le_trans hd (H4 d L z).length_le) fun y hy => hz y (by simp [hy])
structure FarM (es : List En) (L : Fl) : Prop where
 ky : ∀ e ∈ es, ∃ z : Sp, e.1 = spV z ∧ 0 ≤ z.1 ∧ z.1 < 65536
 vl : ∀ z, (findK (spV z) es).map (·.2.1) = (lookF L z).map fun d => .int .i64 (d : Nat)
theorem FarM.ok {es : List En} {L : Fl} (h : FarM es L) {z : Sp} (hz : 0 ≤ z.1 ∧ z.1 < 65536) : keysOk (true, [.i .u16, .b]) (spV z) es := by
 refine ⟨J4 hz, fun e he => ?_⟩
 obtain ⟨y, e1, a, b⟩ := h.ky e he
 rw [e1]; exact J4 ⟨a, b⟩
theorem FarM.look {es : List En} {L : Fl} (h : FarM es L) {z : Sp} (hz : 0 ≤ z.1 ∧ z.1 < 65536) {W : AW} {m c : Nat} (hm : W.get m = some (.map es c)) {K : V → AW → Prop} : sem E (.lookup (true, [.i .u16, .b]) (.int .i64 0) true) [.map m, spV z] W K = K (.tuple [.int .i64 (((lookF L z).getD 0 : Nat)), .bool (lookF L z).isSome]) W := by
 rw [Cw hm (h.ok hz)]
 unfold lookK
 rw [h.vl z]
 cases lookF L z <;> rfl
theorem FarM.look1 {es : List En} {L : Fl} (h : FarM es L) {z : Sp} (hz : 0 ≤ z.1 ∧ z.1 < 65536) {W : AW} {m c : Nat} (hm : W.get m = some (.map es c)) {K : V → AW → Prop} : sem E (.lookup (true, [.i .u16, .b]) (.int .i64 0) false) [.map m, spV z] W K = K (.int .i64 (((lookF L z).getD 0 : Nat))) W := by
 rw [Cw hm (h.ok hz)]
 unfold lookK
 rw [h.vl z]
 cases lookF L z <;> rfl
theorem Xbq {L : Fl} {z y : Sp} {d : Nat} (hz : z ∉ L.map (·.1)) : lookF (L ++ [(z, d)]) y = if y = z then some d else lookF L y := by
 unfold lookF
 rw [List.find?_append]
 by_cases h : y = z
 ·subst h
  have : L.find? (fun x => x.1 == y) = none := by
   rw [List.find?_eq_none]
   intro x hx e
   exact hz (List.mem_map.2 ⟨x, hx, by simpa using e⟩)
  simp [this]
 ·rw [if_neg h]
  have : ([(z, d)] : Fl).find? (fun x => x.1 == y) = none := by
   have : ¬ z = y := fun e => h e.symm
   simp [this]
  rw [this, Option.or_none]
theorem FarM.put {es : List En} {L : Fl} (h : FarM es L) {z : Sp} (hz : 0 ≤ z.1 ∧ z.1 < 65536) (hn : z ∉ L.map (·.1)) (d c : Nat) : FarM (mset (spV z) (.int .i64 (d : Nat)) es c).1 (L ++ [(z, d)]) := by
 refine ⟨Jt (enc := spV) (p := fun z => 0 ≤ z.1 ∧ z.1 < 65536) h.ky hz, fun y => ?_⟩
 rw [He Zi (fun e he => by obtain ⟨a, h1, _⟩ := h.ky e he; exact ⟨a, h1⟩), Xbq hn, h.vl y]
 split <;> rfl
theorem FarM.none : FarM [] [] := ⟨fun e he => (by cases he), fun z => rfl⟩
def spC (l : List Sp) : List V := l.flatMap fun x => [.int .u16 x.1, .bool x.2]
theorem spC_len (l : List Sp) : (spC l).length = l.length * 2 := by
 induction l with
 | nil => rfl
 | cons a l ih => simp only [spC, List.flatMap_cons, lap, lcs, List.length_nil] at ih ⊢; omega
theorem spC_app (l m : List Sp) : spC (l ++ m) = spC l ++ spC m := by simp [spC]
theorem sp_flat (l : List Sp) : (l.map spV).flatMap V.cells = spC l := by
 induction l with
 | nil => rfl
 | cons a l ih => simp only [mcs, List.flatMap_cons, spC] at ih ⊢; rw [ih]; rfl
def Wq (W : AW) (h : V) (l : List Sp) (lo : Nat) : Prop := h = .sl 2 true (l.map spV) ∨ ∃ (r k : Nat) (pre : List V), lo ≤ r ∧ r < W.nx ∧ h = .slr r k l.length 2 ∧ W.get r = some (.vec 2 (pre ++ spC l)) ∧ pre.length = k * 2
theorem Wq.len {W W1 : AW} {K : V → AW → Prop} {h : V} {l : List Sp} {lo n : Nat} (hn : Wq W h l lo) : sem E (.len 1 n) [h] W1 K = K (.int .i64 l.length) W1 := by
 rcases hn with rfl | ⟨r, k, pre, _, _, rfl, _⟩
 ·simp [sem]
 ·rfl
theorem Wq.cells1 {W : AW} {h : V} {l : List Sp} {lo : Nat} (hn : Wq W h l lo) : h.cells = [h] ∧ h.one = true := by
 rcases hn with rfl | ⟨r, k, pre, _, _, rfl, _⟩ <;> exact ⟨rfl, rfl⟩
theorem Wq.head {W : AW} {h : V} {x : Sp} {l : List Sp} {lo : Nat} (hn : Wq W h (x :: l) lo) : ∃ p, (∀ {W1 : AW} {K : V → AW → Prop}, sem E (.idxp 2) [h, .int .i64 0] W1 K = K p W1) ∧ ∀ {W1 : AW} {K : V → AW → Prop}, (∀ r k, h = .slr r k (l.length + 1) 2 → W1.get r = W.get r) → sem E (.load true 2) [p] W1 K = K (spV x) W1 := by
 rcases hn with rfl | ⟨r, k, pre, h1, h2, rfl, h3, h4⟩
 ·exact ⟨.cptr (spV x).cells, fun {W1 K} => rfl, fun {W1 K} _ => rfl⟩
 ·refine ⟨.vptr r (k * 2), fun {W1 K} => by simp [sem, rsem, tsem], fun {W1 K} hg => ?_⟩
  have e := (hg r k rfl).trans h3
  have : partV (pre ++ spC (x :: l)) (k * 2) 2 true = some (spV x) := by
   rw [← h4]
   simp [partV, spC, spV]
  simp only [sem, rsem, e, this]
theorem Wq.tail {W : AW} {h : V} {x : Sp} {l : List Sp} {lo : Nat} (hn : Wq W h (x :: l) lo) : ∃ h', (∀ {W1 : AW} {K : V → AW → Prop}, sem E (.slc 2 true false false) [h, .int .i64 1] W1 K = K h' W1) ∧ Wq W h' l lo := by
 rcases hn with rfl | ⟨r, k, pre, h1, h2, rfl, h3, h4⟩
 ·refine ⟨.sl 2 true (l.map spV), fun {W1 K} => ?_, .inl rfl⟩
  simp [sem, rsem, tsem, slcOp, slcV, natV, List.take_of_length_le]
 ·refine ⟨.slr r (k + 1) l.length 2, fun {W1 K} => ?_, .inr ⟨r, k + 1, pre ++ [.int .u16 x.1, .bool x.2], h1, h2, rfl, ?_, ?_⟩⟩
  ·simp [sem, rsem, tsem, slcOp, slcV, natV]
  ·rw [h3]; simp [spC]
  ·simp [h4]; omega
theorem Wq.to {W W' : AW} {h : V} {l : List Sp} {lo : Nat} (hn : Wq W h l lo) (hx : W.nx ≤ W'.nx) (hg : ∀ r cs, lo ≤ r → r < W.nx → W.get r = some (.vec 2 cs) → W'.get r = W.get r) : Wq W' h l lo := by
 rcases hn with h | ⟨r, k, pre, h1, h2, h3, h4, h5⟩
 ·exact .inl h
 ·exact .inr ⟨r, k, pre, h1, by omega, h3, by rw [hg r _ h1 h2 h4]; exact h4, h5⟩
theorem Wq.app {W : AW} {K : V → AW → Prop} {h : V} {l : List Sp} {lo : Nat} {y : Sp} (hn : Wq W h l lo) (hC : Cl W) (hlo : lo ≤ W.nx) (hb : l.length < 2 ^ 40)
  (hk : ∀ h' W', Wq W' h' (l ++ [y]) lo → Cl W' → W.nx < W'.nx → (∀ r, r < W.nx → (r < lo ∨ ∀ cs, W.get r ≠ some (.vec 2 cs)) → W'.get r = W.get r) → K h' W') : sem E (.appendx 2 4 [.int .u16 0, .bool false]) [h, .sl 2 true [spV y]] W K := by
 rcases hn with rfl | ⟨r, k, pre, h1, h2, rfl, h3, h4⟩
 ·have hf : ((l.map spV) ++ [spV y]).flatMap V.cells = spC (l ++ [y]) := by
   rw [← sp_flat, mpp]; rfl
  simp only [sem, elemsV, if_true, hf]
  refine ⟨by decide, tt, by rw [lmp]; simp only [lcs, List.length_nil]; omega, ?_⟩
  refine hk _ _ (.inr ⟨W.nx, 0, [], hlo, by rw [Ad]; omega, by simp, by rw [Ay]; rfl, rfl⟩) ?_ (by rw [Ad]; omega) fun r hr _ => Ak hr
  exact fun x hx => by rw [Ad] at hx; rw [Ci, if_neg (by omega)]; exact hC x (by omega)
 ·have hL := spC_len l
  have htk : ((pre ++ spC l).take ((k + l.length) * 2)).drop (k * 2) = spC l := by
   rw [List.take_of_length_le (by rw [lap]; omega), ← h4, List.drop_left]
  simp only [sem, elemsV, if_true, h3]
  refine ⟨by decide, tt, tt, by rw [lap]; omega, by simp only [lcs, List.length_nil]; omega, rfl, ?_⟩
  rw [htk]
  refine hk _ _ (.inr ⟨W.nx, 0, [], hlo, by rw [Dk]; omega, by simp, by rw [J7, spC_app]; rfl, rfl⟩) ?_ (by rw [Dk]; omega) fun x hx hv => D0 (fun e => hv.elim (fun h => by omega) fun hv => hv _ (e ▸ h3)) (by omega)
  intro x hx
  rw [Dk] at hx
  rw [D0 (by omega) (by omega)]; exact hC x (by omega)
def c_cFar_B3 : AC := (.block 3 (.r [.u 27 (.load false 1) 5,.u 28 (.load true 2) 7,.b 29 (.lookup (true, [.i .u16,.b]) (.int .i64 0) true) 27 28,.m 26 29,.u 30 (.ext 0) 26,.u 31 (.ext 1) 26,.m 8 30,.m 9 31] (.r [.m 32 9,.u 33 (.un .not) 32] (.cond (.t 33) (.seq (.par (.step 0 (.u 34 (.load false 1) 5) (.step 1 (.u 35 (.load true 2) 7) (.step 2 (.u 36 (.load false 1) 5) (.step 3 (.u 37 (.load false 1) 6) (.step 4 (.a 38 (.idxp 2) 37 0) (.step 5 (.u 39 (.load true 2) 38) (.step 6 (.b 40 (.lookup (true, [.i .u16,.b]) (.int .i64 0) false) 36 39) (.step 7 (.a 41 (.bin .add) 40 1) (.step 8 ⟨none,.mupd (true, [.i .u16,.b]), [.t 34,.t 35,.t 41], none⟩ .done)))))))))) (.reg [.u 42 (.load false 1) 6,.u 43 (.load true 2) 7,.u 44 (.bslice 2 1 (.agg [.int .u16 0,.bool false]) [0]) 43,.b 45 (.appendx 2 4 [.int .u16 0,.bool false]) 42 44,⟨none,.store 1, [.t 6,.t 45], none⟩])) .skip))))
def c_cFar_0 : AC := (.seq (.r [.u 15 (.load false 1) 6,.u 16 (.len 1 0) 15,.a 17 (.bin .gtr) 16 0] (.w 17 0)) (.seq (.block 1 (.r [.m 20 0,.u 21 (.load false 1) 6,.a 22 (.idxp 2) 21 0,.u 23 (.load true 2) 22,.b 24 (.call 82) 20 23] (.block 2 (.rangef (.t 24) [25] (.reg [.p 7 (.alloc [.int .u16 0,.bool false]) [],⟨none,.store 2, [.t 7,.t 25], none⟩]) c_cFar_B3)))) (.seq (.r [.u 46 (.load false 1) 6] (.reg [.p 6 (.alloc [.nilsl]) [],⟨none,.store 1, [.t 6,.t 46], none⟩])) (.reg [.u 18 (.load false 1) 6,.a 19 (.slc 2 true false false) 18 1,⟨none,.store 1, [.t 6,.t 19], none⟩]))))
def c_cFar : AC := (.r [.u 3 .box 1,.v 4 (.nilmap)] (.r [.p 10 .mkmap [],.u 11 (.load true 2) 3,⟨none,.mupd (true, [.i .u16,.b]), [.t 10,.t 11,.c (.int .i64 0)], none⟩,.m 12 10,.p 5 (.alloc [.nilmap]) [],⟨none,.store 1, [.t 5,.t 12], none⟩] (.seq (.r [.u 13 (.load true 2) 3,.u 14 (.bslice 2 1 (.agg [.int .u16 0,.bool false]) [0]) 13,.p 6 (.alloc [.nilsl]) [],⟨none,.store 1, [.t 6,.t 14], none⟩] (.block 0 (.loop c_cFar_0))) (.r [.u 47 (.load false 1) 5,.m 4 47] .ret))))
theorem Xau : compF Tryz.prog Tryz.f42 ⟨true, false, []⟩ = some (c_cFar, [.tmp 4], 48) := by kernel_rfl
theorem farB_go (_ : E.P = Tryz.prog) {W : AW} {m c b5 b6 b7 lo d : Nat} {mes : List En} {L : Fl} {h : V} {x0 z : Sp} {tl : List Sp} (F : FarM mes L) (_ : (L.map (·.1)).Nodup) (hd : lookF L x0 = some d) (hdl : d < 2 ^ 32) (hx0 : 0 ≤ x0.1 ∧ x0.1 < 65536) (hz : 0 ≤ z.1 ∧ z.1 < 65536)
  (g5 : W.get b5 = some (.row [.map m])) (g6 : W.get b6 = some (.row [h])) (g7 : W.get b7 = some (.row [.int .u16 z.1, .bool z.2])) (gm : W.get m = some (.map mes c)) (_ : b5 < W.nx) (l6 : b6 < W.nx) (_ : b7 < W.nx) (lm : m < W.nx) (hq : Wq W h (x0 :: tl) lo) (hlo : lo ≤ W.nx) (hC : Cl W) (htl : tl.length < 2 ^ 32)
  {A : AFr} {Q : Exit → AFr → AW → Prop} (a5 : A 5 = some (.ptr b5 0)) (a6 : A 6 = some (.ptr b6 0)) (a7 : A 7 = some (.ptr b7 0))
  (hQ : ∀ A' W' mes' c' h', W'.get m = some (.map mes' c') → FarM mes' (putF d L z) → W'.get b6 = some (.row [h']) → Wq W' h' (x0 :: tl ++ if z ∈ L.map (·.1) then [] else [z]) lo → Cl W' → W.nx ≤ W'.nx → (∀ y, y < W.nx → y ≠ m → y ≠ b6 → (y < lo ∨ ∀ cs, W.get y ≠ some (.vec 2 cs)) → W'.get y = W.get y) → Q .normal A' W') : awp E c_cFar_B3 Q A W := by
 cases hf : lookF L z with
 | some d' =>
  have hm : z ∈ L.map (·.1) := by
   rw [← Decidable.not_not (p := z ∈ L.map (·.1)), ← Mx, hf]; simp
  have hput : putF d L z = L := if_pos hm
  rw [hput, if_pos hm, apn] at hQ
  have hlk : ∀ K, sem E (.lookup (true, [.i .u16, .b]) (.int .i64 0) true) [.map m, .agg [.int .u16 z.1, .bool z.2]] W K = K (.tuple [.int .i64 (d' : Nat), .bool true]) W := fun K => by
   have := F.look (E := E) hz gm (K := K)
   rw [hf] at this; exact this
  simp (disch:=omega) only [BX, ↓reduceIte, nE, BM, BD, nA, nL, c_cFar_B3, a5, a7, g5, g7, hlk]
  repeat (rw [Aa]; simp (disch:=omega) only [BX, ↓reduceIte, nE, reduceCtorEq, BM, BD, nA, nL, nT, Nat.reduceMul, Ei, Ce, Ej, Ca, H9, Ia, ])
  exact hQ _ _ _ _ _ gm F g6 hq hC (lr _) fun _ _ _ _ _ => rfl
 | none =>
  have hm : z ∉ L.map (·.1) := Mx.1 hf
  have hput : putF d L z = L ++ [(z, d + 1)] := if_neg hm
  rw [hput, if_neg hm] at hQ
  have hlk : ∀ K, sem E (.lookup (true, [.i .u16, .b]) (.int .i64 0) true) [.map m, .agg [.int .u16 z.1, .bool z.2]] W K = K (.tuple [.int .i64 0, .bool false]) W := fun K => by
   have := F.look (E := E) hz gm (K := K)
   rw [hf] at this; exact this
  obtain ⟨p, p1, p2⟩ := hq.head (E := E)
  have p3 : ∀ K, sem E (.load true 2) [p] W K = K (.agg [.int .u16 x0.1, .bool x0.2]) W := fun K => p2 fun _ _ _ => rfl
  have hlk1 : ∀ K, sem E (.lookup (true, [.i .u16, .b]) (.int .i64 0) false) [.map m, .agg [.int .u16 x0.1, .bool x0.2]] W K = K (.int .i64 (d : Nat)) W := fun K => by
   have := F.look1 (E := E) hx0 gm (K := K)
   rw [hd] at this; exact this
  have hms : ∀ v K, sem E (.mupd (true, [.i .u16, .b])) [.map m, .agg [.int .u16 z.1, .bool z.2], v] W K = K .undef (W.put m (.map (mset (spV z) v mes c).1 (mset (spV z) v mes c).2)) := fun v K => I7 gm (F.ok hz)
  have F' := F.put hz hm (d + 1) c
  have h5 : b5 ≠ m := fun e => by rw [e, gm] at g5; cases g5
  have h6 : b6 ≠ m := fun e => by rw [e, gm] at g6; cases g6
  have h7 : b7 ≠ m := fun e => by rw [e, gm] at g7; cases g7
  have hbs : ∀ W K, sem E (.bslice 2 1 (.agg [.int .u16 0, .bool false]) [0]) [.agg [.int .u16 z.1, .bool z.2]] W K = K (.sl 2 true [spV z]) W := fun W K => rfl
  simp (disch:=omega) only [BX, ↓reduceIte, nE, BM, BD, nA, nL, c_cFar_B3, a5, a6, a7, g5, g6, g7, hlk, p1, p3, hlk1, Ah, hms, put_ne h6, put_ne h7, hbs]
  obtain ⟨mm, hmm⟩ : ∃ mm, mm = mset (spV z) (V.int .i64 ((d + 1 : Nat) : Int)) mes c := ⟨_, rfl⟩
  rw [← hmm] at F' ⊢
  refine Wq.app (hq.to (by rw [Af]; exact lr _) fun r cs _ _ hr => put_ne (by rintro rfl; rw [gm] at hr; cases hr)) (hC.put lm) (by rw [Af]; exact hlo) (by simp only [lcs]; omega) ?_
  intro h' W3 w1 w2 w3 w4
  rw [Af] at w3 w4
  have k6 : W3.get b6 = some (.row [h]) := by rw [w4 b6 l6 (.inr fun cs => by rw [put_ne h6, g6]; simp), put_ne h6]; exact g6
  have km : W3.get m = some (.map mm.1 mm.2) := by rw [w4 m lm (.inr fun cs => by rw [put_at]; simp), put_at]
  obtain ⟨c1, c2⟩ := w1.cells1
  simp (disch:=omega) only [BS, ↓reduceIte, nE, BM, BD, nL, a6, k6, c1, c2]
  refine hQ _ _ _ _ h' ((put_ne h6.symm).trans km) F' put_at (w1.to (by rw [Af]; exact lr _) fun r cs _ _ hr => put_ne (by rintro rfl; rw [k6] at hr; cases hr)) (w2.put (by omega)) (by rw [Af]; omega) fun y hy y1 y2 y3 => ?_
  rw [put_ne y2, w4 y hy (by rw [put_ne y1]; exact y3), put_ne y1]
theorem Mg.keepL {W W' : AW} {m lo c : Nat} {f : Int → List Ed} {es : List En} (h : Mg W m f lo es c) (hx : W.nx ≤ W'.nx) (hm : W'.get m = W.get m) (hg : ∀ x r n, hdM es x = .buf true r 3 n → W'.get r = W.get r) : Mg W' m f lo es c :=
 ⟨hm.trans h.hm, by have := h.lm; omega, h.ky, fun x => (h.vl x).keep hx fun r e _ => hg x r _ e, h.ne⟩
theorem Z4 {d i : Nat} {L : Fl} {z : Sp} (hi : i ≤ L.length) : ((putF d L z).drop i).map (·.1) = (L.drop i).map (·.1) ++ if z ∈ L.map (·.1) then [] else [z] := by
 unfold putF
 split
 ·rw [apn]
 ·rw [List.drop_append_of_le_length hi, mpp]; rfl
theorem far_go (hP : PE E) {W : AW} {sp mo mi lo lw m b5 b6 : Nat} {own : Int} {es : List Ed} {ei : List En} {ci c0 : Nat} {mes0 : List En} {to : Sp} (hs : W.get sp = some (.row [.int .u8 own, .map mo, .map mi])) (M : Mg W mi (inL es own) lo ei ci) (hr : ∀ e ∈ es, 0 ≤ e.fr ∧ e.fr < 65536) (hl : es.length < 2 ^ 30) (hto : 0 ≤ to.1 ∧ to.1 < 65536) (hC : Cl W)
  (g5 : W.get b5 = some (.row [.map m])) (g6 : W.get b6 = some (.row [.sl 2 true [spV to]])) (gm : W.get m = some (.map mes0 c0)) (hF : FarM mes0 [(to, 0)]) (ls : sp < lw) (lm : mi < lw) (lb : ∀ x r n, hdM ei x = .buf true r 3 n → r < lw) (u5 : lw ≤ b5 ∧ b5 < W.nx) (u6 : lw ≤ b6 ∧ b6 < W.nx) (um : lw ≤ m ∧ m < W.nx)
  {A : AFr} {Q : Exit → AFr → AW → Prop} (a0 : A 0 = some (.ptr sp 0)) (a5 : A 5 = some (.ptr b5 0)) (a6 : A 6 = some (.ptr b6 0))
  (hQ : ∀ A' W' mes c, A' 5 = some (.ptr b5 0) → W'.get b5 = some (.row [.map m]) → W'.get m = some (.map mes c) → FarM mes (farR es own to) → Cl W' → W.nx ≤ W'.nx → (∀ y, y < lw → W'.get y = W.get y) → Q (.exit 0) A' W') : awp E (.loop c_cFar_0) Q A W := by
 rw [Ai]
 refine alp (fun (σ : Nat × Fl × Nat) A1 W1 => A1 0 = some (.ptr sp 0) ∧ A1 5 = some (.ptr b5 0) ∧ A1 6 = some (.ptr σ.2.2 0) ∧ W1.get b5 = some (.row [.map m]) ∧ (∃ mes c h, W1.get m = some (.map mes c) ∧ FarM mes σ.2.1 ∧ W1.get σ.2.2 = some (.row [h]) ∧ Wq W1 h ((σ.2.1.drop σ.1).map (·.1)) lw) ∧ Cl W1 ∧ W.nx ≤ W1.nx ∧ lw ≤ σ.2.2 ∧ σ.2.2 < W1.nx ∧ (∀ y, y < lw → W1.get y = W.get y) ∧ σ.1 ≤ σ.2.1.length ∧ FI es to σ.2.1 ∧ farGo es own (2 * es.length + 2 - σ.1) σ.1 σ.2.1 = farR es own to) (fun σ => 2 * es.length + 2 - σ.1) (0, [(to, 0)], b6)
  ⟨a0, a5, a6, g5, ⟨mes0, c0, _, gm, hF, g6, .inl rfl⟩, hC, lr _, u6.1, u6.2, fun _ _ => rfl, Nat.zero_le _, FI.start es to, rfl⟩ ?_
 rintro ⟨i, L, b6⟩ A1 W1 ⟨q0, q5, q6, k5, ⟨mes, c, h, km, kF, k6, kq⟩, kC, kn, v6, v6', kg, ki, kI, kR⟩ _
 simp only at q6 k6 kq kF v6 v6' ki kI kR
 have hlen := kI.len
 by_cases hi : i < L.length
 ·have hg0 : ∀ n : Nat, decide (((n + 1 : Nat) : Int) > 0) = true := fun n => decide_eq_true (by omega)
  have hdr : L.drop i = L[i] :: L.drop (i + 1) := List.drop_eq_getElem_cons hi
  have hst : farGo es own (2 * es.length + 2 - (i + 1)) (i + 1) (stepF es own L L[i]) = farR es own to := by
   rw [← kR, show 2 * es.length + 2 - i = (2 * es.length + 2 - (i + 1)) + 1 by omega, farGo, gEg hi]
  have hxm := kI.mem _ (gmm hi)
  have hlk : lookF L L[i].1 = some L[i].2 := (C5 kI.nd).2 (gmm hi)
  have hx0 : 0 ≤ L[i].1.1 ∧ L[i].1.1 < 65536 := by
   rcases hxm with e | ⟨e, he, h2⟩
   ·rw [e]; exact hto
   ·rw [h2]; exact hr e he
  have hLi : L[i] ∈ L := gmm hi
  generalize hxe : L[i] = x at hdr hst hlk hx0 hLi
  rw [hdr, mcs] at kq
  obtain ⟨p, p1, p2⟩ := kq.head (E := E)
  have p3 : ∀ K, sem E (.load true 2) [p] W1 K = K (.agg [.int .u16 x.1.1, .bool x.1.2]) W1 := fun K => p2 fun _ _ _ => rfl
  have hwl : ∀ (W2 : AW) K n, sem E (.len 1 n) [h] W2 K = K (.int .i64 (((L.drop (i + 1)).map (·.1)).length + 1 : Nat)) W2 := fun _ _ _ => kq.len
  simp (disch:=omega) only [BX, ↓reduceIte, nE, reduceCtorEq, BM, c_cFar_0, q0, q6, k6, hwl, hg0, p1, p3]
  refine (beh_c hP _ sp x.1).mono ?_
  rintro _ W2 ⟨b2, b3, rfl, h2, h3, m2, m2', m3, m3', hE2⟩
  simp (disch:=omega) only [BS, ]
  have n2 := hE2.nx
  have b5m : b5 ≠ m := fun e => by rw [e, km] at k5; cases k5
  have b56 : b5 ≠ b6 := fun e => by
   rw [e, k6] at k5
   rcases kq with rfl | ⟨_, _, _, _, _, rfl, _⟩ <;> cases k5
  have old : ∀ y, y < lw → W2.get y = W.get y := fun y hy => (hE2.get y (by omega)).trans (kg y hy)
  have M2 : Mg W2 mi (inL es own) lo ei ci := M.keepL (by omega) (old _ lm) fun z r n e => old r (lb z r n e)
  have tlen : ((L.drop (i + 1)).map (·.1)).length < 2 ^ 32 := by rw [lmp, List.length_drop]; omega
  -- what is known of the spots that were met so far
  have hIf : ∀ d t, behR es own x.1 = d ++ t → FI es to (d.foldl (putF x.2) L) := fun d t hd => kI.fold x.2 (kI.dl x hLi) fun z hz => Pe (own := own) (x := x.1) (by rw [hd]; exact List.mem_append_left _ hz)
  refine Xf hP (b2 := b2) (b3 := b3) (by simp only [Tj]; exact if_pos rfl) hx0 h2 h3 ((old _ ls).trans hs) M2 (by omega) hE2.cl (C := fun r => r = m ∨ r = b6) m2' m3' (by omega) (fun r hr => by rcases hr with rfl | rfl <;> omega) (by omega) (by omega) (by omega) (fun r n e hr => by have := lb _ r n e; omega)
   (fun d W3 => Cl W3 ∧ W2.nx < W3.nx ∧ Kp (fun r => r = m ∨ r = b6) W2 W3 ∧ (∀ y, y < lw → W3.get y = W2.get y) ∧ ∃ mes c h, W3.get m = some (.map mes c) ∧ FarM mes (d.foldl (putF x.2) L) ∧ W3.get b6 = some (.row [h]) ∧ Wq W3 h (((d.foldl (putF x.2) L).drop i).map (·.1)) lw) ?_ ?_ ?_ ?_ ?_
  ·intro W3 hE3 hn3
   refine ⟨hE3.cl, hn3, Kp.ex hE3, fun y hy => hE3.get y (by omega), mes, c, h, ((hE2.trans hE3).get _ (by omega)).trans km, kF, ((hE2.trans hE3).get _ (by omega)).trans k6, ?_⟩
   show Wq W3 h ((L.drop i).map (·.1)) lw
   rw [hdr, mcs]
   exact kq.to (hE2.trans hE3).nx fun r cs _ hr _ => (hE2.trans hE3).get r hr
  ·exact fun d W3 g => ⟨g.1, g.2.1, g.2.2.1⟩
  ·rintro d W3 l ⟨j1, j2, j3, j8, mes, c, h, j4, j5, j6, j7⟩
   have hE3 : Ex W3 (X W3 W3.nx l) := (Ex.refl j1).X
   exact ⟨hE3.cl, by have := hE3.nx; omega, j3.trans (Kp.ex hE3), fun y hy => (hE3.get y (by omega)).trans (j8 y hy), mes, c, h, (hE3.get _ (by omega)).trans j4, j5, (hE3.get _ (by omega)).trans j6, j7.to hE3.nx fun r cs _ hr _ => hE3.get r hr⟩
  ·rintro d z t hd W3 ⟨j1, j2, j3, j8, mes, c, h, j4, j5, j6, j7⟩ hlp
   have hIL := hIf d (z :: t) hd
   have hIz : FI es to (putF x.2 (d.foldl (putF x.2) L) z) := by
    have := hIf (d ++ [z]) t (by rw [hd]; simp)
    rw [List.foldl_append] at this; exact this
   obtain ⟨z1, z2⟩ : 0 ≤ z.1 ∧ z.1 < 65536 := by
    obtain ⟨e, he, h1⟩ := Pe (es := es) (own := own) (x := x.1) (z := z) (by rw [hd]; simp)
    rw [h1]; exact hr e he
   obtain ⟨s, hs'⟩ := Gf x.2 d L
   rw [show (d ++ [z]).foldl (putF x.2) L = putF x.2 (d.foldl (putF x.2) L) z by rw [List.foldl_append]; rfl]
   have hLx : x ∈ d.foldl (putF x.2) L := by rw [← hs']; exact List.mem_append_left _ hLi
   have hiL : i ≤ (d.foldl (putF x.2) L).length := by rw [← hs', lap]; omega
   have hdr' : ((d.foldl (putF x.2) L).drop i).map (·.1) = x.1 :: (L.drop (i + 1) ++ s).map (·.1) := by
    rw [← hs', List.drop_append_of_le_length (by omega), hdr]; rfl
   have hlen' := hIL.len
   have htl' : ((L.drop (i + 1) ++ s).map (·.1)).length < 2 ^ 32 := by
    rw [← hs', lap] at hlen'
    rw [lmp, lap, List.length_drop]; omega
   have hpd := Z4 (d := x.2) (z := z) hiL
   have hdx := hIL.dl x hLx
   rw [hdr'] at j7 hpd
   generalize d.foldl (putF x.2) L = L' at j5 hIL hIz hLx hpd hlen' hdx
   generalize (L.drop (i + 1) ++ s).map (·.1) = tl' at j7 hpd htl'
   refine Au j1 ?_
   simp (disch:=omega) only [BS, BC, ↓reduceIte, nE, BM, BD, nA, nL, nT, spV, hlp]
   refine ⟨tt, ?_⟩
   have xg : ∀ y, y < W3.nx → y ≠ W2.nx → (X (W3.put W2.nx (.loop .busy none)) W3.nx [.row [.int .u16 z.1, .bool z.2]]).get y = W3.get y := fun y hy hn => by rw [Ag hy, put_ne hn]
   have k3 := j3.nx
   refine farB_go hP (b5 := b5) (b6 := b6) (b7 := rf W3.nx 0) (lo := lw) (d := x.2) (x0 := x.1) (z := z) (tl := tl') j5 hIL.nd ((C5 hIL.nd).2 hLx) (by omega) hx0 ⟨z1, z2⟩ ?_ ?_ (by rw [Ap]; rfl) ((xg m (by omega) (by omega)).trans j4) (by simp only [Ar, rf]; omega) (by simp only [Ar, rf]; omega) (by simp only [Ar, rf, lcs, List.length_nil]; omega) (by simp only [Ar, rf]; omega) (j7.to (by simp only [Ar, rf]; omega) fun r cs _ hr hv => xg r hr (by rintro rfl; rw [hlp] at hv; cases hv)) (by simp only [Ar, rf]; omega) Cl.X htl' tt tt tt ?_
   ·exact (xg b5 (by omega) (by omega)).trans (j3.row (by omega) (fun hc => hc.elim b5m b56) ((hE2.get b5 (by omega)).trans k5))
   ·exact (xg b6 (by omega) (by omega)).trans j6
   ·intro A' W4 mes' c' h' f1 f2 f3 f4 f5 f6 f7
    simp only [Ar, rf, lcs, List.length_nil] at f6 f7
    have hloop : W4.get W2.nx = some (.loop .busy none) := by
     rw [f7 W2.nx (by omega) (by omega) (by omega) (.inr fun ys => by rw [Ag (by omega), put_at]; simp), Ag (by omega), put_at]
    have kk : Kp (fun r => r = m ∨ r = b6) W3 (W4.put W2.nx (.loop .ready none)) := ⟨by rw [Af]; omega, fun r hr hc hv => by
     by_cases e : r = W2.nx
     ·rw [e, put_at, hlp]
     ·rw [put_ne e, f7 r (by omega) (fun e => hc (.inl e)) (fun e => hc (.inr e)) (.inr fun cs => by rw [xg r hr e]; exact hv cs), xg r hr e]⟩
    refine ⟨rfl, hloop, ⟨f5.put (by omega), by rw [Af]; omega, j3.trans kk, fun y hy => by rw [put_ne (by omega), f7 y (by omega) (by omega) (by omega) (.inl hy), xg y (by omega) (by omega)]; exact j8 y hy, mes', c', h', (put_ne (by omega)).trans f1, f2, (put_ne (by omega)).trans f3, ?_⟩, kk⟩
    rw [hpd]
    exact f4.to (by rw [Af]; exact lr _) fun r cs _ _ hr => put_ne (by rintro rfl; rw [hloop] at hr; cases hr)
  ·rintro W3 ⟨j1, j2, j3, j8, mes, c, h, j4, j5, j6, j7⟩ hlp
   have hIL := hIf (behR es own x.1) [] (by rw [apn])
   obtain ⟨s, hs'⟩ := Gf x.2 (behR es own x.1) L
   have hiL : i + 1 ≤ ((behR es own x.1).foldl (putF x.2) L).length := by rw [← hs', lap]; omega
   have hdr' : ((behR es own x.1).foldl (putF x.2) L).drop i = x :: ((behR es own x.1).foldl (putF x.2) L).drop (i + 1) := by
    rw [List.drop_eq_getElem_cons (by omega)]
    congr 1
    have : ((behR es own x.1).foldl (putF x.2) L)[i]? = some x := by
     rw [← hs', List.getElem?_append_left hi, gEg hi, hxe]
    exact (List.getElem?_eq_some_iff.1 this).2
   rw [hdr', mcs] at j7
   have hst' : farGo es own (2 * es.length + 2 - (i + 1)) (i + 1) ((behR es own x.1).foldl (putF x.2) L) = farR es own to := hst
   generalize (behR es own x.1).foldl (putF x.2) L = L' at j5 j7 hIL hiL hst'
   have k3 := j3.nx
   have hCz : Cl (W3.put W2.nx (.loop .exhausted none)) := j1.put (by omega)
   have x6 : (W3.put W2.nx (.loop .exhausted none)).get b6 = some (.row [h]) := (put_ne (by omega)).trans j6
   have x5 : (W3.put W2.nx (.loop .exhausted none)).get b5 = some (.row [.map m]) := (put_ne (by omega)).trans (j3.row (by omega) (fun hc => hc.elim b5m b56) ((hE2.get b5 (by omega)).trans k5))
   have xm : (W3.put W2.nx (.loop .exhausted none)).get m = some (.map mes c) := (put_ne (by omega)).trans j4
   have xq := j7.to (W' := W3.put W2.nx (.loop .exhausted none)) (by rw [Af]; exact lr _) fun r cs _ _ hr => put_ne (by rintro rfl; rw [hlp] at hr; cases hr)
   have xo : ∀ y, y < lw → (W3.put W2.nx (.loop .exhausted none)).get y = W.get y := fun y hy => by
    rw [put_ne (by omega)]
    rw [j8 y hy]; exact old y hy
   have xn : (W3.put W2.nx (.loop .exhausted none)).nx = W3.nx := Af
   generalize W3.put W2.nx (.loop .exhausted none) = Wz at hCz x6 x5 xm xq xo xn
   obtain ⟨c1, c2⟩ := xq.cells1
   obtain ⟨h', r1, r2⟩ := xq.tail (E := E)
   obtain ⟨c3, c4⟩ := r2.cells1
   rw [hCz.start]
   simp (disch:=omega) only [BZ, ↓reduceIte, nE, reduceCtorEq, BM, BD, nL, nT, q0, q5, q6, x6, c1, c2, c3, c4, r1]
   have hn : rf Wz.nx 0 = Wz.nx := rfl
   have hn1 : rf Wz.nx 1 = Wz.nx + 1 := rfl
   refine ⟨(i + 1, L', rf Wz.nx 0), ⟨tt, tt, rfl, x5, ⟨mes, c, h', xm, j5, by rw [Ap]; rfl, r2.to (by simp only [Ar, rf]; omega) fun r cs _ hr _ => Ag hr⟩, Cl.X, by omega, by show lw ≤ rf Wz.nx 0; omega, by show rf Wz.nx 0 < rf Wz.nx 1; omega, fun y hy => (Ag (by omega)).trans (xo y hy), hiL, hIL, hst'⟩, by show 2 * es.length + 2 - (i + 1) < 2 * es.length + 2 - i; omega, by omega⟩
 ·obtain rfl : i = L.length := by omega
  have hfin : farGo es own (2 * es.length + 2 - L.length) L.length L = L := by
   rw [show 2 * es.length + 2 - L.length = (2 * es.length + 2 - L.length - 1) + 1 by omega, farGo, List.getElem?_eq_none (lr _)]
  rw [hfin] at kR
  subst kR
  rw [List.drop_length, List.map_nil] at kq
  simp (disch:=omega) only [BX, ↓reduceIte, nE, reduceCtorEq, BM, BD, c_cFar_0, q0, q6, k6, kq.len (E := E)]
  exact hQ _ _ mes c q5 k5 km kF kC kn kg
theorem far_c (hP : PE E) (W : AW) {sp lo : Nat} {own : Int} {es : List Ed} (hS : Se W sp own es lo) (hr : ∀ e ∈ es, 0 ≤ e.fr ∧ e.fr < 65536) (hl : es.length < 2 ^ 30) {to : Sp} (hto : 0 ≤ to.1 ∧ to.1 < 65536) :
  ACalls E 42 [.ptr sp 0, spV to] W fun Y W' => ∃ m mes c, Y = .map m ∧ W'.get m = some (.map mes c) ∧ FarM mes (farR es own to) ∧ W.nx ≤ m ∧ m < W'.nx ∧ Ex W W' := by
 refine ACalls.of hP Tryz.func42 Xau (by simp [spV]) fun _ hok => ?_
 refine Ae hok ?_
 have hbs : ∀ W K, sem E (.bslice 2 1 (.agg [.int .u16 0, .bool false]) [0]) [.agg [.int .u16 to.1, .bool to.2]] W K = K (.sl 2 true [spV to]) W := fun W K => rfl
 have hmu : ∀ K, sem E (.mupd (true, [.i .u16, .b])) [.map (rf W.nx 1), .agg [.int .u16 to.1, .bool to.2], .int .i64 0] (X W W.nx [.row [.int .u16 to.1, .bool to.2], .map [] 0]) K = K .undef (X W W.nx [.row [.int .u16 to.1, .bool to.2], .map [(spV to, .int .i64 ((0 : Nat) : Int), 0)] 1]) := fun K => by
  have h1 : (X W W.nx [.row [.int .u16 to.1, .bool to.2], .map [] 0]).get (rf W.nx 1) = some (.map [] 0) := by rw [Ap]; rfl
  have h2 := I7 (E := E) (K := K) (x := .int .i64 0) h1 (FarM.none.ok hto)
  rw [show mset (spV to) (V.int .i64 0) [] 0 = ([(spV to, .int .i64 ((0 : Nat) : Int), 0)], 1) from rfl, T1] at h2
  exact h2
 obtain ⟨mo, mi, eo, ei, co, ci, s1, s2, s3, s4⟩ := hS.is
 have hC := H6 hok
 have lp := hS.lp
 have lmi := s2.i.lm
 simp only [BZ, ↓reduceIte, nE, BM, BD, nA, nL, nT, c_cFar, spV, hbs, hmu]
 have hst := G0 hok
 have hE : ∀ l, Ex W (X W W.nx l) := fun l => (Ex.refl hC).X
 have hF : FarM [(spV to, .int .i64 ((0 : Nat) : Int), 0)] [(to, 0)] := FarM.none.put hto (by simp) 0 0
 refine far_go hP (W := X W W.nx [.row [.int .u16 to.1, .bool to.2], .map [(spV to, .int .i64 ((0 : Nat) : Int), 0)] 1, .row [.map (rf W.nx 1)], .row [.sl 2 true [spV to]]]) (lw := W.nx) (m := rf W.nx 1) (b5 := rf W.nx 2) (b6 := rf W.nx 3) ((hE _).get _ lp |>.trans s1) (s2.i.ex (hE _)) hr hl hto Cl.X (by rw [Ap]; rfl) (by rw [Ap]; rfl) (by rw [Ap]; rfl) hF lp lmi (fun x r n e => ((s2.i.vl x).ref e).1) (by simp only [Ar, rf, lcs, List.length_nil]; omega) (by simp only [Ar, rf, lcs, List.length_nil]; omega) (by simp only [Ar, rf, lcs, List.length_nil]; omega) tt tt tt ?_
 intro A' W' mes c f5 k5 km kF kC kn kg
 simp only [BZ, ↓reduceIte, BM, f5, k5]
 simp only [Ar, rf, lcs, List.length_nil] at kn
 refine ⟨_, rfl, _, _, .weak Ab, by omega, rf W.nx 1, mes, c, rfl, km, kF, by simp only [rf]; omega, by simp only [rf]; omega, ⟨kC, by omega, fun x hx => by rw [kg x hx, Ag hx]⟩⟩
def c_hasSp : AC := (.r [.u 3 .box 1,.v 4 (.bool false)] (.r [.m 5 0,.u 6 (.load true 2) 3,.b 7 (.call 133) 5 6,.a 8 (.bin .geq) 7 0,.m 4 8] .ret))
theorem Xv : compF Tryz.prog Tryz.f111 ⟨false, false, []⟩ = some (c_hasSp, [.tmp 4], 9) := by kernel_rfl
def c_idxSp_0 : AC := (.r [.b 9 (.bin .lss) 8 7] (.seq (.w 9 0) (.seq (.block 1 (.r [.m 10 8,.m 5 10] (.seq (.par (.step 1 (.m 12 0) (.step 2 (.m 13 5) (.step 0 (.u 11 (.load true 2) 3) (.step 3 (.b 14 (.idxp 2) 12 13) (.step 4 (.u 15 (.load true 2) 14) (.step 5 (.b 16 (.eqv false (true, [.i .u16,.b])) 11 15) .done))))))) (.cond (.t 16) (.r [.m 17 5,.m 4 17] .ret) .skip)))) (.reg [.a 18 (.bin .add) 8 1,.m 8 18]))))
def c_idxSp : AC := (.r [.u 3 .box 1,.v 4 (.int .i64 0)] (.seq (.r [.m 6 0,.u 7 (.len 1 0) 6,.v 8 (.int .i64 0)] (.block 0 (.loop c_idxSp_0))) (.r [.v 4 (.int .i64 (-1))] .ret)))
theorem Xt : compF Tryz.prog Tryz.f133 ⟨false, false, []⟩ = some (c_idxSp, [.tmp 4], 19) := by kernel_rfl
theorem sp_at {l : List Sp} {k : Nat} (h : k < l.length) : (l.map spV)[k]? = some (spV l[k]) := by simp [h]
theorem Dh (x : Sp) : (spV x).cells = [.int .u16 x.1, .bool x.2] := rfl
theorem eqvSp {W : AW} {K : V → AW → Prop} {a b : Sp} (ha : 0 ≤ a.1 ∧ a.1 < 65536) (hb : 0 ≤ b.1 ∧ b.1 < 65536) : sem E (.eqv false (true, [.i .u16, .b])) [.agg [.int .u16 a.1, .bool a.2], .agg [.int .u16 b.1, .bool b.2]] W K = K (.bool (decide (a = b))) W := by
 have h1 := J4 ha
 have h2 := J4 hb
 have h3 := Zi a b
 unfold spV at h1 h2 h3
 simp only [sem, rsem, tsem, h1, h2, h3, Bool.and_self, if_true, Bool.false_eq_true, if_false]
theorem idxSp_c (hP : PE E) (W : AW) {v : V} {l : List Sp} (h : isS 2 v (l.map spV)) (hl : l.length < 2 ^ 40) (hb : ∀ x ∈ l, 0 ≤ x.1 ∧ x.1 < 65536) (z : Sp) (hz : 0 ≤ z.1 ∧ z.1 < 65536) :
  ACalls E 133 [v, .agg [.int .u16 z.1, .bool z.2]] W fun Y W' => ∃ i : Int, Y = .int .i64 i ∧ (0 ≤ i ↔ z ∈ l) ∧ W' = W := by
 refine ACalls.of hP Tryz.func133 Xt (by simp) fun _ hok => ?_
 refine Ae hok ?_
 simp (disch:=omega) only [BZ, ↓reduceIte, reduceCtorEq, BM, BD, c_idxSp, h.len, lmp]
 rw [Ai]
 obtain ⟨W0, hW0⟩ : ∃ W0, W0 = X W W.nx [.row [.int .u16 z.1, .bool z.2]] := ⟨_, rfl⟩
 have g3 : W0.get (rf W.nx 0) = some (.row [.int .u16 z.1, .bool z.2]) := by rw [hW0, Ap]; rfl
 have hb0 : ∀ x, x < W.nx → W0.get x = W.get x := fun x hx => by rw [hW0, Ag hx]
 have hn0 : W.nx ≤ W0.nx := by rw [hW0]; simp only [Ar, rf]; omega
 rw [← hW0]
 clear hW0
 have fin : ∀ i : Int, (0 ≤ i ↔ z ∈ l) → ∃ X0, some (V.int .i64 i) = some X0 ∧ ∃ Y W', RetV X0 W0 Y W' ∧ W.nx ≤ W'.nx ∧ ∃ i : Int, Y = .int .i64 i ∧ (0 ≤ i ↔ z ∈ l) ∧ W' = W := fun i hi => ⟨_, rfl, _, W, .weak (Aj hok rfl hb0), lr _, i, rfl, hi, rfl⟩
 refine alp (fun (k : Nat) A1 W1 => A1 0 = some v ∧ A1 3 = some (.ptr (rf W.nx 0) 0) ∧ A1 7 = some (.int .i64 l.length) ∧ A1 8 = some (.int .i64 k) ∧ k ≤ l.length ∧ W1 = W0 ∧ z ∉ l.take k) (fun k => l.length - k) 0
  ⟨tt, tt, tt, tt, Nat.zero_le _, rfl, by simp⟩ ?_
 rintro k A1 W1 ⟨g0, g33, g7, g8, gk, rfl, ge⟩ _
 by_cases hk1 : k < l.length
 ·have hat := sp_at hk1
  have hbk := hb _ (gmm hk1)
  have htk : l.take (k + 1) = l.take k ++ [l[k]] := by rw [tao, gEg hk1]; rfl
  have hmem : l[k] ∈ l := gmm hk1
  generalize l[k] = x at hat hbk htk hmem
  by_cases hx : z = x
  ·subst hx
   simp (disch:=omega) only [BX, ↓reduceIte, nE, reduceCtorEq, BM, BD, nA, nL, c_idxSp_0, g0, g33, g7, g8, g3, clt, hk1, dT, h.idx hat, Dh, eqvSp hz hz]
   exact fin _ ⟨fun _ => hmem, fun _ => Int.natCast_nonneg _⟩
  ·simp (disch:=omega) only [BX, ↓reduceIte, nE, reduceCtorEq, BM, BD, nA, nL, c_idxSp_0, g0, g33, g7, g8, g3, clt, hk1, dT, h.idx hat, Dh, eqvSp hz hbk, decide_eq_false hx, Ah]
   exact ⟨k + 1, ⟨tt, tt, tt, tt, hk1, tt, by rw [htk]; simp only [map', msg, not_or]; exact ⟨ge, hx⟩⟩, by omega, by omega⟩
 ·obtain rfl : k = l.length := by omega
  rw [tkl] at ge
  simp (disch:=omega) only [BX, ↓reduceIte, c_idxSp_0, g7, g8, clt, hk1, dF]
  exact fin _ ⟨fun h => by omega, fun h => absurd h ge⟩
theorem Vl (hP : PE E) (W : AW) {v : V} {l : List Sp} (h : isS 2 v (l.map spV)) (hl : l.length < 2 ^ 40) (hb : ∀ x ∈ l, 0 ≤ x.1 ∧ x.1 < 65536) (z : Sp) (hz : 0 ≤ z.1 ∧ z.1 < 65536) :
  ACalls E 111 [v, .agg [.int .u16 z.1, .bool z.2]] W fun Y W' => Y = .bool (decide (z ∈ l)) ∧ W' = W := by
 refine ACalls.of hP Tryz.func111 Xv (by simp) fun _ hok => ?_
 refine Ae hok ?_
 simp only [BZ, ↓reduceIte, nE, reduceCtorEq, BM, BD, nA, nL, c_hasSp, h.frz]
 refine (idxSp_c hP _ h hl hb z hz).mono ?_
 rintro _ _ ⟨i, rfl, hi, rfl⟩
 have hd : decide (i ≥ 0) = decide (z ∈ l) := by rw [decide_eq_decide]; exact hi
 simp only [BS, BC, ↓reduceIte, hd]
 exact ⟨_, rfl, _, W, .weak (Aj hok rfl fun x hx => Ag hx), lr _, rfl, rfl⟩
structure BI (best : List Sp) : Prop where
 eq : ∀ a ∈ best, ∀ b ∈ best, a.1 = b.1
 nd : best.Nodup
 rg : ∀ a ∈ best, 0 ≤ a.1 ∧ a.1 < 65536
theorem BI.nil : BI [] := ⟨fun a h => (by cases h), List.nodup_nil, fun a h => (by cases h)⟩
theorem BI.len {best : List Sp} (h : BI best) : best.length ≤ 2 := by
 cases best with
 | nil => simp
 | cons a t =>
  refine Cc (m := [(a.1, false), (a.1, true)]) h.nd fun x hx => ?_
  obtain ⟨x1, x2⟩ := x
  have := h.eq _ hx a (by simp)
  simp only at this
  subst this
  cases x2 <;> simp
theorem BI.one {y : Sp} (h : 0 ≤ y.1 ∧ y.1 < 65536) : BI [y] := ⟨fun a ha b hb => by rw [List.mem_singleton.1 ha, List.mem_singleton.1 hb], by simp, fun a ha => by rw [List.mem_singleton.1 ha]; exact h⟩
theorem BI.step {best : List Sp} (h : BI best) {own : Int} {far : Fl} {left : Nat} {b : Bool} {e : Ed} (he : 0 ≤ e.to ∧ e.to < 65536) : BI (ahStep own far left b best e) := by
 unfold ahStep
 split
 ·exact h
 ·split
  ·exact h
  ·split
   ·exact BI.one he
   ·rename_i y t
    split
    ·exact h
    ·split
     ·exact h
     ·rename_i hn
      split
      ·rename_i heq
       refine ⟨fun a ha c hc => ?_, ?_, fun a ha => ?_⟩
       ·have k : ∀ a ∈ y :: t ++ [(e.to, b || ownE own e)], a.1 = y.1 := fun a ha => by
         rcases List.mem_append.1 ha with ha | ha
         ·exact h.eq a ha y (by simp)
         ·rw [List.mem_singleton.1 ha]; exact heq
        rw [k a ha, k c hc]
       ·rw [List.nodup_append]
        exact ⟨h.nd, by simp, fun a ha c hc e => hn (by rw [← List.mem_singleton.1 hc, ← e]; exact ha)⟩
       ·rcases List.mem_append.1 ha with ha | ha
        ·exact h.rg a ha
        ·rw [List.mem_singleton.1 ha]; exact he
      ·exact BI.one he
def Bq (W : AW) (h : V) (l : List Sp) (lo : Nat) : Prop := (h = .nilsl ∧ l = []) ∨ h = .sl 2 true (l.map spV) ∨ ∃ r, lo ≤ r ∧ r < W.nx ∧ h = .buf false r 2 l.length ∧ W.get r = some (.buf false 2 (l.map spV))
theorem Bq.len {W W1 : AW} {K : V → AW → Prop} {h : V} {l : List Sp} {lo n : Nat} (hn : Bq W h l lo) : sem E (.len 1 n) [h] W1 K = K (.int .i64 l.length) W1 := by
 rcases hn with ⟨rfl, rfl⟩ | rfl | ⟨r, _, _, rfl, _⟩
 ·rfl
 ·simp [sem]
 ·rfl
theorem Bq.frz {W : AW} {h : V} {l : List Sp} {lo : Nat} (hn : Bq W h l lo) : isS 2 (W.frz h) (l.map spV) := by
 rcases hn with ⟨rfl, rfl⟩ | rfl | ⟨r, _, _, rfl, hg⟩
 ·exact .nil
 ·exact .mk
 ·have : W.frz (.buf false r 2 l.length) = .sl 2 false (l.map spV) := by simp [AW.frz, hg]
  rw [this]; exact .mk
theorem Bq.head {W : AW} {h : V} {x : Sp} {l : List Sp} {lo : Nat} (hn : Bq W h (x :: l) lo) : ∀ {K : V → AW → Prop}, sem E (.idxp 2) [h, .int .i64 0] W K = K (.cptr (spV x).cells) W := by
 intro K
 rcases hn with ⟨rfl, h⟩ | rfl | ⟨r, _, _, rfl, hg⟩
 ·cases h
 ·rfl
 ·simp [sem, rsem, hg]
theorem Bq.to {W W' : AW} {h : V} {l : List Sp} {lo : Nat} (hn : Bq W h l lo) (hx : W.nx ≤ W'.nx) (hg : ∀ r bs, lo ≤ r → r < W.nx → W.get r = some (.buf false 2 bs) → W'.get r = W.get r) : Bq W' h l lo := by
 rcases hn with h | h | ⟨r, h1, h2, h3, h4⟩
 ·exact .inl h
 ·exact .inr (.inl h)
 ·exact .inr (.inr ⟨r, h1, by omega, h3, by rw [hg r _ h1 h2 h4]; exact h4⟩)
theorem Bq.app {W : AW} {K : V → AW → Prop} {h : V} {x : Sp} {l : List Sp} {lo : Nat} {y : Sp} (hn : Bq W h (x :: l) lo) (hC : Cl W) (hlo : lo ≤ W.nx) (hb : l.length < 2 ^ 40)
  (hk : ∀ h' W', Bq W' h' (x :: l ++ [y]) lo → Cl W' → W.nx ≤ W'.nx → (∀ r, r < W.nx → (r < lo ∨ ∀ bs, W.get r ≠ some (.buf false 2 bs)) → W'.get r = W.get r) → K h' W') : sem E (.append 2 4) [h, .sl 2 true [spV y]] W K := by
 rcases hn with ⟨_, h⟩ | rfl | ⟨r, h1, h2, rfl, h3⟩
 ·cases h
 ·simp only [sem, elemsV, if_true]
  refine ⟨by decide, tt, by simp only [lmp, lcs, List.length_nil]; omega, ?_⟩
  refine hk _ _ (.inr (.inr ⟨W.nx, hlo, by rw [Ad]; omega, by simp, by rw [Ay]; simp⟩)) ?_ (by rw [Ad]; omega) fun r hr _ => Ak hr
  exact fun x hx => by rw [Ad] at hx; rw [Ci, if_neg (by omega)]; exact hC x (by omega)
 ·simp only [sem, elemsV, if_true, h3]
  refine ⟨by decide, tt, tt, tt, by simp, by simp only [lcs, List.length_nil]; omega, rfl, ?_⟩
  refine hk _ _ (.inr (.inr ⟨r, h1, by rw [Af]; exact h2, by simp, by rw [put_at]; simp⟩)) (hC.put h2) (by rw [Af]; exact lr _) fun y hy hv => put_ne (fun e => hv.elim (fun h => by omega) fun hv => hv _ (e ▸ h3))
end Go.AL.S
