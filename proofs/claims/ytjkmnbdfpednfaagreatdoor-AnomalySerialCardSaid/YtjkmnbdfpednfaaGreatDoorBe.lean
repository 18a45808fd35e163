/- What the program's functions do, part 5. Conditions: none. -/
import Derived.Test.YtjkmnbdfpednfaaGreatDoorBd
open Nat renaming reduceEqDiff → nE, reduceLeDiff → nL, reduceAdd → nA, reduceLT → nT, le_refl → lr
open List renaming getElem?_eq_getElem → gEg, length_map → lmp, getElem_mem → gmm, length_append → lap, length_cons → lcs, mem_singleton → msg, append_nil → apn, mem_append → map', take_length → tkl, map_cons → mcs, map_append → mpp, mem_map → mmp, any_eq_true → aet, length_replicate → lrp, take_add_one → tao, length_take → ltk, mem_filter → mfl
set_option maxRecDepth 100000
set_option maxHeartbeats 2000000
namespace Go.AL.S
open Go Go.AL Go.AL.SE Go.Proofs
def c_oTake_0 : AC := (.seq (.r [.m 18 8,.m 19 0,.m 20 1,.u 21 .nilck 19,.u 22 (.fld 0) 21,.b 23 (.idxa 8 1) 22 20,.u 24 (.load false 1) 23,.u 25 (.len 1 0) 24,.b 26 (.bin .lss) 18 25] (.w 26 0)) (.seq (.block 1 (.r [.m 29 2,.m 30 0,.m 31 1,.u 32 .nilck 30,.u 33 (.fld 0) 32,.b 34 (.idxa 8 1) 33 31,.u 35 (.load false 1) 34,.m 36 8,.b 37 (.idxp 1) 35 36,.u 38 (.load false 1) 37,.b 39 (.call 61) 29 38,.u 40 (.un .not) 39,.m 41 40,.M 42 0 41 true,.M 43 1 41 true,.U 44 .nilck 42 41 true,.U 45 (.fld 0) 44 41 true,.B 46 (.idxa 8 1) 45 43 41 true,.U 47 (.load false 1) 46 41 true,.M 48 8 41 true,.B 49 (.idxp 1) 47 48 41 true,.U 50 (.load false 1) 49 41 true,.M 51 2 41 true,.B 52 (.call 61) 50 51 41 true,.U 53 (.un .not) 52 41 true,.p 54 .pick [.t 41,.t 53,.F]] (.cond (.t 54) (.r [.v 6 (.bool false),.v 7 (.int .i64 0)] .ret) .skip))) (.reg [.m 27 8,.a 28 (.bin .add) 27 1,.m 8 28])))
def c_oTake : AC := (.r [.v 6 (.bool false),.v 7 (.int .i64 0)] (.seq (.r [.m 11 1,.p 12 (.bin .gtr) [.t 11,.c (.int .u8 7)]] (.cond (.t 12) (.r [.v 6 (.bool false),.v 7 (.int .i64 2)] .ret) .skip)) (.seq (.r [.m 13 2,.u 14 (.len 1 0) 13,.a 15 (.bin .gtr) 14 32] (.cond (.t 15) (.r [.v 6 (.bool false),.v 7 (.int .i64 3)] .ret) .skip)) (.seq (.r [.m 16 2,.u 17 (.call 60) 16] (.cond (.t 17) (.r [.v 6 (.bool false),.v 7 (.int .i64 0)] .ret) .skip)) (.seq (.r [.v 8 (.int .i64 0)] (.block 0 (.loop c_oTake_0))) (.r [.v 9 (.nilsl)] (.r [.m 55 9,.m 56 2,.b 57 (.append 1 2) 55 56,.m 9 57] (.r [.v 10 (.nilsl)] (.r [.m 58 10,.m 59 0,.m 60 1,.u 61 .nilck 59,.u 62 (.fld 0) 61,.b 63 (.idxa 8 1) 62 60,.u 64 (.load false 1) 63,.b 65 (.append 1 24) 58 64,.m 10 65] (.seq (.par (.step 0 (.m 66 0) (.step 1 (.m 67 1) (.step 2 (.m 68 10) (.step 3 (.m 69 9) (.step 4 (.u 70 (.bslice 1 1 (.nilsl) [0]) 69) (.step 6 (.u 72 .nilck 66) (.step 7 (.u 73 (.fld 0) 72) (.step 5 (.b 71 (.append 1 24) 68 70) (.step 8 (.b 74 (.idxa 8 1) 73 67) (.step 9 ⟨none,.store 1, [.t 74,.t 71], none⟩ .done))))))))))) (.r [.v 6 (.bool true),.v 7 (.int .i64 0)] .ret)))))))))))
theorem Wp : compF Tryz.prog Tryz.f34 ⟨false, false, []⟩ = some (c_oTake, [.tmp 6, .tmp 7], 75) := by kernel_rfl
variable {E : Env}
def takO (L : List (List (List Int))) (k : Int) (l : List Int) : List (List (List Int)) :=
 if k ≥ 8 then L else if l.length > 32 then L else if twiceB l = true then L else
 if ((keyL L k).all fun x => begins l x || begins x l) = true then L.set k.toNat (keyL L k ++ [l]) else L
structure FrO (W : AW) (q : Nat) (W' : AW) : Prop where
 cl : Cl W'
 nx : W.nx ≤ W'.nx
 get : ∀ x, x < W.nx → x ≠ q → W'.get x = W.get x
theorem FrO.trans {W W1 W2 : AW} {q : Nat} (a : FrO W q W1) (b : FrO W1 q W2) : FrO W q W2 :=
 ⟨b.cl, Nat.le_trans a.nx b.nx, fun x hx hn => by rw [b.get x (by have := a.nx; omega) hn]; exact a.get x hx hn⟩
theorem FrO.refl {W : AW} {q : Nat} (hC : Cl W) : FrO W q W := ⟨hC, lr _, fun _ _ _ => rfl⟩
def Nh (n : Nat) (cs : List V) (es : List (List V)) (cs' : List V) (es' : List (List V)) : Prop :=
 (∀ r m, r < n → V.buf true r 1 m ∈ cs' → ∃ m', V.buf true r 1 m' ∈ cs) ∧ ∀ r m, r < n → ∀ e' ∈ es', V.buf true r 1 m ∈ e' → ∃ e ∈ es, V.buf true r 1 m ∈ e
theorem Nh.refl (n : Nat) (cs : List V) (es : List (List V)) : Nh n cs es cs es := ⟨fun _ m _ h => ⟨m, h⟩, fun _ _ _ e he h => ⟨e, he, h⟩⟩
theorem nowG.low {W : AW} {h : V} {xs : List V} {s lo lo' : Nat} (hn : nowG W h xs s lo) (hl : lo' ≤ lo) : nowG W h xs s lo' := by
 rcases hn with h | ⟨r, h1, h2⟩
 ·exact .inl h
 ·exact .inr ⟨r, by omega, h2⟩
theorem nowG.ref {W : AW} {h : V} {xs : List V} {s lo r n : Nat} (hn : nowG W h xs s lo) (e : h = .buf true r s n) : r < W.nx ∧ lo ≤ r ∧ n = xs.length := by
 rcases hn with ⟨rfl, _⟩ | ⟨r', h1, h2, h3, _⟩
 ·cases e
 ·rw [e] at h3; cases h3; exact ⟨h2, h1, rfl⟩
theorem app_is {W : AW} {K : V → AW → Prop} {v : V} {l : List Int} {lo : Nat} (h : isS 1 v (intsV l)) (hl : l.length < 2 ^ 40) (hC : Cl W) (hlo : lo ≤ W.nx) (hk : ∀ o W', nowG W' o (intsV l) 1 lo → Ex W W' → K o W') : sem E (.append 1 2) [.nilsl, v] W K := by
 have he : elemsV 1 W v = some (intsV l) := by
  rcases h with ⟨rfl, h⟩ | ⟨rfl, h⟩ | ⟨f, rfl⟩
  ·rw [h]; rfl
  ·rw [h]; rfl
  ·simp [elemsV]
 have hL := Ak l
 cases l with
 | nil =>
  simp only [sem, he]
  exact ⟨by decide, by decide, hk _ _ (.inl ⟨rfl, rfl⟩) (Ex.refl hC)⟩
 | cons a l =>
  have hem : (intsV (a :: l)).isEmpty = false := rfl
  simp only [sem, he, hem]
  refine ⟨by decide, by rw [hL]; omega, ?_⟩
  rw [if_neg (by decide)]
  exact hk _ _ (.inr ⟨W.nx, hlo, by rw [Ag]; omega, rfl, List.cons_ne_nil _ _, Ca⟩) (Ex.alloc hC)
theorem app_ls {W : AW} {K : V → AW → Prop} {c : V} {es : List V} {lo : Nat} (h : nowG W c es 1 lo) (hl : es.length < 2 ^ 40) (hC : Cl W) (_ : lo ≤ W.nx) (hk : ∀ o W', nowG W' o es 1 W.nx → Ex W W' → K o W') : sem E (.append 1 24) [.nilsl, c] W K := by
 have he : elemsV 1 W c = some es := by
  rcases h with ⟨rfl, h⟩ | ⟨r, _, _, rfl, _, hg⟩
  ·rw [h]; rfl
  ·simp [elemsV, hg]
 cases es with
 | nil =>
  simp only [sem, he]
  exact ⟨by decide, by simp, hk _ _ (.inl ⟨rfl, rfl⟩) (Ex.refl hC)⟩
 | cons a l =>
  have hem : (a :: l).isEmpty = false := rfl
  simp only [sem, he, hem]
  refine ⟨by decide, by simp only [lcs] at hl ⊢; omega, ?_⟩
  rw [if_neg (by decide)]
  exact hk _ _ (.inr ⟨W.nx, lr _, by rw [Ag]; omega, rfl, List.cons_ne_nil _ _, Ca⟩) (Ex.alloc hC)
theorem LsV.exq {W W' : AW} {c : V} {ll : List (List Int)} {lo q : Nat} {es : List V} {row : List V} (h : LsV W c ll lo es) (hF : FrO W q W') (hq : W.get q = some (.row row)) : LsV W' c ll lo es :=
 h.to hF.nx fun r _ h2 ⟨ys, hy⟩ => hF.get r h2 (by rintro rfl; rw [hq] at hy; cases hy)
theorem oTake_c (hP : PE E) (W : AW) {q lo N : Nat} {L : List (List (List Int))} {cs : List V} {es : List (List V)} (hO : Ro W q L lo cs es N) (hN : N < 2 ^ 30) (hlo : lo ≤ W.nx) (k : Int) (k0 : 0 ≤ k) {v : V} {l : List Int} (hv : isS 1 v (intsV l)) (hl : l.length < 2 ^ 40) (hr : ∀ n ∈ l, 0 ≤ n ∧ n < 65536) :
  ACalls E 34 [.ptr q 0, .int .u8 k, v] W fun _ W' => ∃ cs' es', Ro W' q (takO L k l) lo cs' es' (N + 1) ∧ FrO W q W' ∧ Nh W.nx cs es cs' es' := by
 refine ACalls.of hP Tryz.func34 Wp (by simp) fun _ hok => ?_
 have hC := Je hok
 have hO1 : Ro W q L lo cs es (N + 1) := ⟨hO.hp, hO.lp, hO.c8, hO.l8, hO.e8, hO.ls, fun ll h => ⟨by have := (hO.rg ll h).1; omega, (hO.rg ll h).2⟩⟩
 have same : ∀ (b : Bool) (e : Int), takO L k l = L → ∃ X W', RetV (.tuple [.bool b, .int .i64 e]) W X W' ∧ W.nx ≤ W'.nx ∧ ∃ cs' es', Ro W' q (takO L k l) lo cs' es' (N + 1) ∧ FrO W q W' ∧ Nh W.nx cs es cs' es' := fun b e h => ⟨_, W, .weak Ab, lr _, cs, es, by rw [h]; exact hO1, FrO.refl hC, Nh.refl _ _ _⟩
 by_cases h8 : k > 7
 ·simp (disch:=omega) only [BX, ↓reduceIte, nE, c_oTake, h8, dT]
  exact ⟨_, rfl, same _ _ (by rw [takO, if_pos (by omega)])⟩
 by_cases h32 : l.length > 32
 ·simp (disch:=omega) only [BX, ↓reduceIte, nE, c_oTake, h8, dF, hv.len, Ak, show decide ((l.length : Int) > 32) = true from decide_eq_true (by omega)]
  exact ⟨_, rfl, same _ _ (by rw [takO, if_neg (by omega), if_pos h32])⟩
 simp (disch:=omega) only [BX, ↓reduceIte, nE, c_oTake, h8, dF, hv.len, Ak, show decide ((l.length : Int) > 32) = false from decide_eq_false (by omega), hv.frz]
 refine pc (oTwice_c hP _ hv hl) ?_
 cases ht : twiceB l with
 | true =>
  simp (disch:=omega) only [BS, Am, Ad, ↓reduceIte, nE, ]
  exact ⟨_, rfl, same _ _ (by rw [takO, if_neg (by omega), if_neg h32, if_pos ht])⟩
 | false =>
  simp (disch:=omega) only [BX, ↓reduceIte, ]
  have hkn : k.toNat < 8 := by omega
  have hc8 := hO.c8
  have hl8 := hO.l8
  have he8 := hO.e8
  have hls := hO.ls k.toNat (by omega) (by omega) (by omega)
  have hix : ∀ (W : AW) K, sem E (.idxa 8 1) [.ptr q 0, .int .u8 k] W K = K (.ptr q k.toNat) W := fun W K => by
   rw [Hh, if_pos (by omega), Nat.mul_one, Nat.zero_add]
  have hat : cs[k.toNat]? = some (cs[k.toNat]'(by omega)) := gEg (by omega)
  have hkL : keyL L k = L[k.toNat]'(by omega) := by
   rw [keyL, if_neg (by omega), List.getD_eq_getElem?_getD, gEg (by omega)]; rfl
  have hrg := hO.rg _ (gmm (show k.toNat < L.length by omega))
  rw [← hkL] at hls hrg
  have htk : ∀ b, ((keyL L k).all fun x => begins l x || begins x l) = b → takO L k l = if b = true then L.set k.toNat (keyL L k ++ [l]) else L := fun b hb => by
   rw [takO, if_neg (by omega), if_neg h32, ht, if_neg (by decide), hb]
  generalize hce : cs[k.toNat]'(by omega) = c at hls hat
  generalize hee : es[k.toNat]'(by omega) = ee at hls
  generalize hll : keyL L k = ll at hls hrg htk hkL
  have hlen := hls.len
  rw [Ai]
  refine alp (fun (i : Nat) A1 W1 => A1 0 = some (.ptr q 0) ∧ A1 1 = some (.int .u8 k) ∧ A1 2 = some v ∧ A1 8 = some (.int .i64 i) ∧ i ≤ ll.length ∧ W1 = W ∧ ∀ j (hj : j < ll.length), j < i → (begins l ll[j] || begins ll[j] l) = true) (fun i => ll.length - i) 0
   ⟨rfl, rfl, rfl, rfl, Nat.zero_le _, rfl, fun j _ hj => by omega⟩ ?_
  rintro i A1 W1 ⟨g0, g1, g2, g8, gi, rfl, gj⟩ _
  by_cases hi : i < ll.length
  ·have hie : i < ee.length := by omega
   have hel := hls.el i hie hi
   have hate : ee[i]? = some ee[i] := gEg hie
   obtain ⟨x1, x2⟩ := hel.cellsX
   have hgs := Cr 1 (intsV ll[i])
   have hli := (hrg.2 _ (gmm hi)).1
   generalize ee[i] = e at hel hate x1 x2
   have hld : ∀ K, sem E (.load false 1) [.cptr e.cells] W1 K = K e W1 := fun K => by rw [x1]; rfl
   have hfr := hel.frz
   simp (disch:=omega) only [BX, ↓reduceIte, nE, reduceCtorEq, BM, BD, c_oTake_0, g0, g1, g2, g8, hix, hO.hp, hat, hls.now.len, hlen, clt, hi, dT, hls.now.idx' hate, hld, hfr, hv.frz]
   refine pc (obeg_c hP _ hv hgs hl) ?_
   cases hb1 : begins l ll[i] with
   | true =>
    simp (disch:=omega) only [BS, ↓reduceIte, BD]
    repeat (rw [Aa]; simp (disch:=omega) only [BS, BC, Ad, ↓reduceIte, nE, reduceCtorEq, BM, g0, g1, g2, g8, Ah])
    refine ⟨i + 1, ⟨tt, tt, tt, tt, hi, tt, fun j hj hji => ?_⟩, by omega, lr _⟩
    by_cases e1 : j = i
    ·subst e1; rw [hb1]; rfl
    ·exact gj j hj (by omega)
   | false =>
    simp (disch:=omega) only [BS, ↓reduceIte, BD]
    repeat (rw [Aa]; simp (disch:=omega) only [BS, BC, ↓reduceIte, nE, reduceCtorEq, BM, BD, g0, g1, g2, g8, hix, hO.hp, hat, hls.now.idx' hate, hld, hfr, hv.frz])
    refine pc (obeg_c hP _ hgs hv (by omega)) ?_
    cases hb2 : begins ll[i] l with
    | true =>
     simp (disch:=omega) only [BS]
     repeat (rw [Aa]; simp (disch:=omega) only [BS, BC, Ad, ↓reduceIte, nE, reduceCtorEq, BD, g0, g1, g2, g8, Ah])
     refine ⟨i + 1, ⟨tt, tt, tt, tt, hi, tt, fun j hj hji => ?_⟩, by omega, lr _⟩
     by_cases e1 : j = i
     ·subst e1; rw [hb1, hb2]; rfl
     ·exact gj j hj (by omega)
    | false =>
     simp (disch:=omega) only [BS]
     repeat (rw [Aa]; simp (disch:=omega) only [BS, Am, Ad, ↓reduceIte, nE, BD])
     refine ⟨_, rfl, same _ _ ?_⟩
     have : (ll.all fun x => begins l x || begins x l) = false := by
      rw [List.all_eq_false]
      exact ⟨_, gmm hi, by rw [hb1, hb2]; decide⟩
     rw [htk _ this, if_neg (by decide)]
  ·obtain rfl : i = ll.length := by omega
   have hall : (ll.all fun x => begins l x || begins x l) = true := by
    rw [List.all_eq_true]
    intro x hx
    obtain ⟨j, hj, rfl⟩ := List.getElem_of_mem hx
    exact gj j hj hj
   have htk2 := htk _ hall
   rw [if_pos rfl] at htk2
   rw [htk2]
   simp (disch:=omega) only [BX, ↓reduceIte, nE, reduceCtorEq, BM, BD, c_oTake_0, g0, g1, g2, g8, hix, hO.hp, hat, hls.now.len, hlen, clt, hi, dF]
   refine app_is hv hl hC (lr _) ?_
   intro own W2 n1 n2
   have hp2 := (n2.get q hO.lp).trans hO.hp
   have fo2 : FrO W1 q W2 := ⟨n2.cl, n2.nx, fun x hx _ => n2.get x hx⟩
   have hls2 := hls.exq fo2 hO.hp
   simp (disch:=omega) only [BS, Am, ↓reduceIte, nE, reduceCtorEq, BM, BD, g0, g1, hix, hp2, hat]
   refine app_ls hls2.now (by omega) n2.cl (by have := n2.nx; omega) ?_
   intro lv W3 m1 m2
   obtain ⟨o1, o2⟩ := n1.cellsX
   have hp3 := (m2.get q (by have := n2.nx; have := hO.lp; omega)).trans hp2
   have hbs : ∀ (W : AW) K, sem E (.bslice 1 1 .nilsl [0]) [own] W K = K (.sl 1 true [own]) W := fun W K => by
    simp [sem, rsem, tsem, fillE, o1, Gq]
   simp (disch:=omega) only [BS, Am, ↓reduceIte, nE, reduceCtorEq, BD, g0, g1, hbs]
   have nq := hO.lp
   have nn2 := n2.nx
   have nn3 := m2.nx
   refine Fj m1 m2.cl nn3 (by decide) (by rw [o1]; simp [o2]) (by omega) ?_
   intro r W4 p1 p2 p3 p4 p5
   have hr2 : W2.nx ≤ r := by
    rcases p4 with h | h
    ·omega
    ·rcases m1 with ⟨e, _⟩ | ⟨r', a1, _, a3, _⟩
     ·rw [e] at h; cases h
     ·rw [a3] at h; cases h; exact a1
   have hp4 : W4.get q = some (.row cs) := by rw [p5 q (by omega) (by omega)]; exact hp3
   simp (disch:=omega) only [BS, Am, ↓reduceIte, nE, BM, BD, hix, hp4, I1, Ng]
   rw [if_pos (by omega)]
   have hset : cs.take k.toNat ++ [V.buf true r 1 (ee.length + 1)] ++ cs.drop (k.toNat + 1) = cs.set k.toNat (.buf true r 1 (ee.length + 1)) := by
    rw [List.set_eq_take_append_cons_drop, if_pos (by omega)]; simp
   rw [hset]
   have fo5 : FrO W2 q (W4.put q (.row (cs.set k.toNat (.buf true r 1 (ee.length + 1))))) :=
    ⟨p2.put (by omega), by rw [Ae]; omega, fun x hx hn => by rw [put_ne hn, p5 x (by omega) (by omega)]; exact m2.get x hx⟩
   have fo1 := fo2.trans fo5
   have hrl : r < W4.nx := by
    rcases p1 with ⟨e, _⟩ | ⟨r', a1, a2, a3, _⟩
    ·cases e
    ·simp only [V.buf.injEq] at a3; obtain rfl := a3.2.1; exact a2
   refine ⟨_, rfl, _, _, .weak Ab, by rw [Ae]; omega, cs.set k.toNat (.buf true r 1 (ee.length + 1)), es.set k.toNat (ee ++ [own]), ⟨put_at, by rw [Ae]; omega, by simp [hc8], by simp [hl8], by simp [he8], fun j a b c => ?_, fun x hx => ?_⟩, fo1, ?_⟩
   ·by_cases e1 : j = k.toNat
    ·subst e1
     simp only [List.getElem_set_self]
     refine ⟨?_, by simp [hlen], fun i a b => ?_⟩
     ·rcases p1 with ⟨e, _⟩ | ⟨r', a1, a2, a3, a4, a5⟩
      ·cases e
      ·simp only [V.buf.injEq] at a3
       obtain rfl := a3.2.1
       exact .inr ⟨r, by omega, by rw [Ae]; omega, by simp, a4, by rw [put_ne (by rintro rfl; rw [hp4] at a5; cases a5)]; exact a5⟩
     ·by_cases e2 : i < ee.length
      ·rw [List.getElem_append_left e2, List.getElem_append_left (by omega)]
       exact (hls.exq fo1 hO.hp).el i e2 (by omega)
      ·have e3 : i = ee.length := by rw [lap, lcs, List.length_nil] at a; omega
       subst e3
       have y1 : (ee ++ [own])[ee.length]'a = own := by simp
       have y2 : (ll ++ [l])[ee.length]'b = l := by simp [hlen]
       rw [y1, y2]
       exact (n1.low hlo).to fo5.nx fun x _ h2 ⟨ys, hy⟩ => fo5.get x h2 (by rintro rfl; rw [hp2] at hy; cases hy)
    ·simp only [List.getElem_set_ne (Ne.symm e1)]
     exact (hO.ls j (by simpa using a) (by simpa using b) (by simpa using c)).exq fo1 hO.hp
   ·rcases List.mem_or_eq_of_mem_set hx with hx | rfl
    ·exact hO1.rg x hx
    ·refine ⟨by rw [lap, lcs, List.length_nil]; omega, fun y hy => ?_⟩
     rcases List.mem_append.1 hy with hy | hy
     ·exact hrg.2 y hy
     ·rw [List.mem_singleton.1 hy]; exact ⟨by omega, hr⟩
   ·refine ⟨fun x m hx hm => ?_, fun x m hx e' he' hm => ?_⟩
    ·rcases List.mem_or_eq_of_mem_set hm with h | h
     ·exact ⟨m, h⟩
     ·cases h; omega
    ·rcases List.mem_or_eq_of_mem_set he' with h | rfl
     ·exact ⟨e', h, hm⟩
     ·rcases List.mem_append.1 hm with h | h
      ·exact ⟨ee, hee ▸ gmm _, h⟩
      ·have := (n1.ref (List.mem_singleton.1 h).symm).2.1
       omega
end Go.AL.S
namespace Go.AL.S
open Go Go.AL Go.Proofs
def c_rAt_0 : AC := (.seq (.r [.m 6 5,.m 7 0,.u 8 .nilck 7,.u 9 (.fld 0) 8,.u 10 (.load false 1) 9,.u 11 (.len 1 0) 10,.b 12 (.bin .lss) 6 11] (.w 12 0)) (.seq (.block 1 (.r [.m 15 0,.u 16 .nilck 15,.u 17 (.fld 0) 16,.u 18 (.load false 1) 17,.m 19 5,.b 20 (.idxp 5) 18 19,.u 21 (.fld 0) 20,.u 22 (.load false 1) 21,.m 23 1,.b 24 (.bin .eql) 22 23] (.cond (.t 24) (.r [.m 25 5,.m 4 25] .ret) .skip))) (.reg [.m 13 5,.a 14 (.bin .add) 13 1,.m 5 14])))
def c_rAt : AC := (.r [.v 4 (.int .i64 0)] (.seq (.r [.v 5 (.int .i64 0)] (.block 0 (.loop c_rAt_0))) (.r [.v 4 (.int .i64 (-1))] .ret)))
theorem ok_rAte : compF Tryz.prog Tryz.f54 ⟨false, false, []⟩ = some (c_rAt, [.tmp 4], 26) := by kernel_rfl
variable {E : Env}
structure Rt where
 tx : Tx
 mv : V
 lv : V
def Rt.cs (t : Rt) : List V := [.int .u16 t.tx.id, .int .u8 t.tx.client, t.mv, t.lv, .int .u8 t.tx.st]
def Rt.V (t : Rt) : V := .agg t.cs
structure Rt.ok (t : Rt) : Prop where
 tx : t.tx.ok
 ms : isMs t.mv t.tx.ms
 ls : isLs t.lv t.tx.ls
 bel : t.lv.bel 0 = true
def cellsT (l : List Rt) : List V := l.flatMap Rt.cs
def txs (l : List Rt) : Str := l.map (·.tx)
theorem F1 (l : List Rt) : (cellsT l).length = l.length * 5 := by
 induction l with
 | nil => rfl
 | cons t l ih => rw [cellsT, List.flatMap_cons, lap, ← cellsT, ih, lcs, Nat.succ_mul]; simp [Rt.cs]; omega
theorem Jn : ∀ (l : List Rt) {k : Nat} (hk : k < l.length), (cellsT l).drop (k * 5) = l[k].cs ++ cellsT (l.drop (k + 1))
 | t :: l, 0, _ => by simp [cellsT]
 | t :: l, k + 1, h => by
  have h5 : t.cs.length = 5 := rfl
  have : (cellsT (t :: l)).drop ((k + 1) * 5) = (cellsT l).drop (k * 5) := by
   rw [cellsT, List.flatMap_cons, ← cellsT, List.drop_append, List.drop_eq_nil_of_le (by omega), List.nil_append]; congr 1; omega
  rw [this, Jn l (by simpa using h)]
  rfl
theorem Xz {l : List Rt} {k j : Nat} (hk : k < l.length) (hj : j < 5) : (cellsT l)[k * 5 + j]? = (l[k].cs)[j]? := by
 rw [← List.getElem?_drop, Jn l hk, List.getElem?_append_left (by show j < 5; exact hj)]
structure Rs (W : AW) (sp : Nat) (h : V) (l : List Rt) (lo : Nat) : Prop where
 hp : W.get sp = some (.row [h])
 lp : sp < W.nx
 el : (h = .nilsl ∧ l = []) ∨ ∃ r, lo ≤ r ∧ r < W.nx ∧ h = .slr r 0 l.length 5 ∧ l ≠ [] ∧ W.get r = some (.vec 5 (cellsT l))
 ok : ∀ t ∈ l, t.ok
 so : SOk (txs l)
section
variable {W : AW} {K : V → AW → Prop} {sp lo : Nat} {h : V} {l : List Rt}
theorem Rs.len (hR : Rs W sp h l lo) {W1 : AW} {n : Nat} : sem E (.len 1 n) [h] W1 K = K (.int .i64 l.length) W1 := by
 rcases hR.el with ⟨rfl, rfl⟩ | ⟨r, _, _, rfl, _⟩ <;> rfl
theorem Rs.small (hR : Rs W sp h l lo) : l.length ≤ 65536 := by
 have := Hb hR.so
 simpa [txs] using this
theorem Rs.at (hR : Rs W sp h l lo) {k : Nat} (hk : k < l.length) : ∃ r, lo ≤ r ∧ r < W.nx ∧ h = .slr r 0 l.length 5 ∧ W.get r = some (.vec 5 (cellsT l)) := by
 rcases hR.el with ⟨_, rfl⟩ | ⟨r, h1, h2, h3, _, h5⟩
 ·simp at hk
 ·exact ⟨r, h1, h2, h3, h5⟩
theorem ix5 {r n k : Nat} {kk : IntKind} (h : k < n) : sem E (.idxp 5) [.slr r 0 n 5, .int kk (k : Int)] W K = K (.vptr r (k * 5)) W := by
 simp [sem, rsem, tsem, h]
theorem ldc {r k j : Nat} {c : V} (hg : W.get r = some (.vec 5 (cellsT l))) (hk : k < l.length) (hj : j < 5) (hc : (l[k].cs)[j]? = some c) : sem E (.load false 1) [.vptr r (k * 5 + j)] W K = K c W := by
 have := Xz hk hj
 rw [hc] at this
 simp [sem, rsem, hg, partV, this]
theorem ldc0 {r k : Nat} (hg : W.get r = some (.vec 5 (cellsT l))) (hk : k < l.length) : sem E (.load false 1) [.vptr r (k * 5)] W K = K (.int .u16 l[k].tx.id) W := ldc (j := 0) hg hk (by decide) rfl
end
def atR (s : Str) (i : Int) : Int := idxV (fun t => decide (t.id = i)) s
theorem rAt_c (hP : PE E) (W : AW) {sp lo : Nat} {h : V} {l : List Rt} (hR : Rs W sp h l lo) (i : Int) : ACalls E 54 [.ptr sp 0, .int .u16 i] W fun Y W' => Y = .int .i64 (atR (txs l) i) ∧ W' = W := by
 refine ACalls.of hP Tryz.func54 ok_rAte (by simp) fun _ hok => ?_
 have hs := hR.small
 simp (disch:=omega) only [BS, Am, c_rAt]
 rw [Ai]
 refine alp (fun (k : Nat) A1 W1 => A1 0 = some (.ptr sp 0) ∧ A1 1 = some (.int .u16 i) ∧ A1 5 = some (.int .i64 k) ∧ k ≤ l.length ∧ W1 = W ∧ ∀ j (hj : j < (txs l).length), j < k → decide ((txs l)[j].id = i) = false) (fun k => l.length - k) 0
  ⟨rfl, rfl, rfl, Nat.zero_le _, rfl, fun j _ hj => by omega⟩ ?_
 rintro k A1 W1 ⟨g0, g1, g5, gk, rfl, gj⟩ _
 have htl : (txs l).length = l.length := by simp [txs]
 by_cases hk : k < l.length
 ·obtain ⟨r, r1, r2, rfl, r4⟩ := hR.at hk
  have hti : (txs l)[k].id = l[k].tx.id := by simp [txs]
  by_cases he : l[k].tx.id = i
  ·simp (disch:=omega) only [BX, ↓reduceIte, nE, reduceCtorEq, BM, BD, c_rAt_0, g0, g1, g5, hR.hp, hR.len, clt, hk, dT, ix5 hk, ldc0 r4 hk, D8, he]
   exact ⟨_, rfl, _, _, .weak Ab, lr _, by rw [atR, Ez (by omega) (by rw [hti]; exact decide_eq_true he) gj], rfl⟩
  ·simp (disch:=omega) only [BX, ↓reduceIte, nE, reduceCtorEq, BM, BD, c_rAt_0, g0, g1, g5, hR.hp, hR.len, clt, hk, dT, dF, ix5 hk, ldc0 r4 hk, D8, he, Ah]
   refine ⟨k + 1, ⟨tt, tt, tt, hk, tt, fun j hj hjk => ?_⟩, by omega, lr _⟩
   by_cases e1 : j = k
   ·subst e1; rw [hti]; exact decide_eq_false he
   ·exact gj j hj (by omega)
 ·obtain rfl : k = l.length := by omega
  simp (disch:=omega) only [BX, ↓reduceIte, nE, reduceCtorEq, BM, BD, c_rAt_0, g0, g5, hR.hp, hR.len, clt, hk, dF]
  exact ⟨_, rfl, _, _, .weak Ab, lr _, by rw [atR, Eo fun j hj => gj j hj (by omega)], rfl⟩
def rdE (r : Int × V) : V := .agg [.int .u8 r.1, r.2]
def c_r05Same_0 : AC := (.seq (.r [.m 65 5,.u 66 (.fld 10) 2,.u 67 (.load false 1) 66,.u 68 (.len 1 0) 67,.b 69 (.bin .lss) 65 68] (.w 69 0)) (.seq (.block 1 (.seq (.par (.step 0 (.u 72 (.fld 10) 2) (.step 2 (.m 74 5) (.step 5 (.u 77 (.fld 10) 3) (.step 7 (.m 79 5) (.step 1 (.u 73 (.load false 1) 72) (.step 3 (.b 75 (.idxp 3) 73 74) (.step 4 (.u 76 (.load true 3) 75) (.step 6 (.u 78 (.load false 1) 77) (.step 8 (.b 80 (.idxp 3) 78 79) (.step 9 (.u 81 (.load true 3) 80) (.step 10 (.b 82 (.eqv true (true, [.b,.i .u8,.i .u16])) 76 81) .done)))))))))))) (.cond (.t 82) (.r [.v 4 (.bool false)] .ret) .skip))) (.reg [.m 70 5,.a 71 (.bin .add) 70 1,.m 5 71])))
def c_r05Same_1 : AC := (.seq (.r [.m 83 6,.u 84 (.fld 11) 2,.u 85 (.load false 1) 84,.u 86 (.len 1 0) 85,.b 87 (.bin .lss) 83 86] (.w 87 2)) (.seq (.block 3 (.seq (.par (.step 0 (.u 90 (.fld 11) 2) (.step 2 (.m 92 6) (.step 5 (.u 95 (.fld 11) 3) (.step 7 (.m 97 6) (.step 1 (.u 91 (.load false 1) 90) (.step 3 (.b 93 (.idxp 1) 91 92) (.step 4 (.u 94 (.load false 1) 93) (.step 6 (.u 96 (.load false 1) 95) (.step 8 (.b 98 (.idxp 1) 96 97) (.step 9 (.u 99 (.load false 1) 98) (.step 10 (.b 100 (.call 120) 94 99) (.step 11 (.u 101 (.un .not) 100) .done))))))))))))) (.cond (.t 101) (.r [.v 4 (.bool false)] .ret) .skip))) (.reg [.m 88 6,.a 89 (.bin .add) 88 1,.m 6 89])))
def c_r05Same : AC := (.r [.u 2 .box 0,.u 3 .box 1,.v 4 (.bool false)] (.seq (.r [.u 7 (.fld 0) 2,.u 8 (.load false 1) 7,.u 9 (.fld 0) 3,.u 10 (.load false 1) 9,.b 11 (.bin .neq) 8 10,.m 12 11,.U 13 (.fld 1) 2 12 false,.U 14 (.load false 1) 13 12 false,.U 15 (.fld 1) 3 12 false,.U 16 (.load false 1) 15 12 false,.B 17 (.bin .neq) 14 16 12 false,.p 18 .pick [.t 12,.T,.t 17],.m 19 18,.U 20 (.fld 2) 2 19 false,.U 21 (.load false 1) 20 19 false,.U 22 (.fld 2) 3 19 false,.U 23 (.load false 1) 22 19 false,.B 24 (.bin .neq) 21 23 19 false,.p 25 .pick [.t 19,.T,.t 24],.m 26 25,.U 27 (.fld 3) 2 26 false,.U 28 (.load true 5) 27 26 false,.U 29 (.fld 3) 3 26 false,.U 30 (.load true 5) 29 26 false,.B 31 (.eqv true (true, [.i .u8,.i .u8,.i .u8,.i .u16,.i .u16])) 28 30 26 false,.p 32 .pick [.t 26,.T,.t 31],.m 33 32,.U 34 (.fld 8) 2 33 false,.U 35 (.load true 2) 34 33 false,.U 36 (.fld 8) 3 33 false,.U 37 (.load true 2) 36 33 false,.B 38 (.eqv true (true, [.i .u8,.i .u16])) 35 37 33 false,.p 39 .pick [.t 33,.T,.t 38],.m 40 39,.U 41 (.fld 12) 2 40 false,.U 42 (.load true 7) 41 40 false,.U 43 (.fld 12) 3 40 false,.U 44 (.load true 7) 43 40 false,.B 45 (.eqv true (true, [.i .u8,.i .i64,.i .i64,.i .i64,.b,.b,.b])) 42 44 40 false,.p 46 .pick [.t 40,.T,.t 45],.m 47 46,.U 48 (.fld 10) 2 47 false,.U 49 (.load false 1) 48 47 false,.U 50 (.len 1 0) 49 47 false,.U 51 (.fld 10) 3 47 false,.U 52 (.load false 1) 51 47 false,.U 53 (.len 1 0) 52 47 false,.B 54 (.bin .neq) 50 53 47 false,.p 55 .pick [.t 47,.T,.t 54],.m 56 55,.U 57 (.fld 11) 2 56 false,.U 58 (.load false 1) 57 56 false,.U 59 (.len 1 0) 58 56 false,.U 60 (.fld 11) 3 56 false,.U 61 (.load false 1) 60 56 false,.U 62 (.len 1 0) 61 56 false,.B 63 (.bin .neq) 59 62 56 false,.p 64 .pick [.t 56,.T,.t 63]] (.cond (.t 64) (.r [.v 4 (.bool false)] .ret) .skip)) (.seq (.r [.v 5 (.int .i64 0)] (.block 0 (.loop c_r05Same_0))) (.seq (.r [.v 6 (.int .i64 0)] (.block 2 (.loop c_r05Same_1))) (.r [.v 4 (.bool true)] .ret)))))
theorem P0 : compF Tryz.prog Tryz.f93 ⟨false, false, []⟩ = some (c_r05Same, [.tmp 4], 102) := by kernel_rfl
def c_rMay_0 : AC := (.seq (.r [.m 91 5,.u 92 (.fld 10) 1,.u 93 (.load false 1) 92,.u 94 (.len 1 0) 93,.b 95 (.bin .lss) 91 94] (.w 95 1)) (.seq (.block 2 (.r [.u 98 (.fld 10) 1,.u 99 (.load false 1) 98,.m 100 5,.b 101 (.idxp 3) 99 100,.u 102 (.fld 1) 101,.u 103 (.load false 1) 102,.p 104 (.bin .gtr) [.t 103,.c (.int .u8 7)],.m 105 104,.U 106 (.fld 10) 1 105 false,.U 107 (.load false 1) 106 105 false,.M 108 5 105 false,.B 109 (.idxp 3) 107 108 105 false,.U 110 (.fld 0) 109 105 false,.U 111 (.load false 1) 110 105 false,.M 112 111 105 false,.U 113 (.fld 10) 1 112 true,.U 114 (.load false 1) 113 112 true,.M 115 5 112 true,.B 116 (.idxp 3) 114 115 112 true,.U 117 (.fld 2) 116 112 true,.U 118 (.load false 1) 117 112 true,.P 119 (.bin .neq) [.t 118,.c (.int .u16 0)] 112 true,.P 120 .pick [.t 112,.t 119,.F] 105 false,.p 121 .pick [.t 105,.T,.t 120]] (.cond (.t 121) (.r [.v 2 (.bool false)] .ret) .skip))) (.reg [.m 96 5,.a 97 (.bin .add) 96 1,.m 5 97])))
def c_rMay_1 : AC := (.seq (.r [.m 131 6,.u 132 (.fld 11) 1,.u 133 (.load false 1) 132,.u 134 (.len 1 0) 133,.b 135 (.bin .lss) 131 134] (.w 135 3)) (.seq (.block 4 (.r [.u 138 (.fld 11) 1,.u 139 (.load false 1) 138,.m 140 6,.b 141 (.idxp 1) 139 140,.u 142 (.load false 1) 141,.u 143 (.len 1 0) 142,.a 144 (.bin .gtr) 143 32] (.cond (.t 144) (.r [.v 2 (.bool false)] .ret) .skip))) (.reg [.m 136 6,.a 137 (.bin .add) 136 1,.m 6 137])))
def c_rMay : AC := (.r [.u 1 .box 0,.v 2 (.bool false)] (.r [.u 7 (.fld 0) 1,.u 8 (.load false 1) 7,.u 9 (.fld 1) 1,.u 10 (.load false 1) 9,.u 11 (.fld 2) 1,.u 12 (.load false 1) 11,.p 13 (.build [.int .u8 0,.int .u8 0,.int .u16 0,.int .u8 0,.int .u8 0,.int .u8 0,.int .u16 0,.int .u16 0,.int .u8 0,.int .u16 0,.nilsl,.nilsl,.int .u8 0,.int .i64 0,.int .i64 0,.int .i64 0,.bool false,.bool false,.bool false] [(0, 1), (1, 1), (2, 1)]) [.t 8,.t 10,.t 12],.p 3 (.alloc [.int .u8 0,.int .u8 0,.int .u16 0,.int .u8 0,.int .u8 0,.int .u8 0,.int .u16 0,.int .u16 0,.int .u8 0,.int .u16 0,.nilsl,.nilsl,.int .u8 0,.int .i64 0,.int .i64 0,.int .i64 0,.bool false,.bool false,.bool false]) [],⟨none,.store 19, [.t 3,.t 13], none⟩] (.seq (.r [.u 14 (.fld 0) 1,.u 15 (.load false 1) 14] (.block 0 (.r [.p 17 (.bin .eql) [.t 15,.c (.int .u8 1)],.m 16 17] (.cond (.t 16) (.r [.u 18 (.fld 12) 1,.u 19 (.load true 7) 18,.p 4 (.alloc [.int .u8 0,.int .i64 0,.int .i64 0,.int .i64 0,.bool false,.bool false,.bool false]) [],⟨none,.store 7, [.t 4,.t 19], none⟩] (.r [.u 20 (.load true 7) 4,.p 21 (.build [.int .u8 0,.int .u8 0,.int .u16 0,.int .u8 0,.int .u8 0,.int .u8 0,.int .u16 0,.int .u16 0,.int .u8 0,.int .u16 0,.nilsl,.nilsl,.int .u8 0,.int .i64 0,.int .i64 0,.int .i64 0,.bool false,.bool false,.bool false] [(0, 1), (12, 7)]) [.c (.int .u8 1),.t 20],⟨none,.store 19, [.t 3,.t 21], none⟩] (.r [.u 22 (.fld 0) 4,.u 23 (.load false 1) 22,.p 24 (.bin .gtr) [.t 23,.c (.int .u8 4)],.m 25 24,.U 26 (.fld 1) 4 25 false,.U 27 (.load false 1) 26 25 false,.P 28 (.bin .lss) [.t 27,.i 1] 25 false,.p 29 .pick [.t 25,.T,.t 28],.m 30 29,.U 31 (.fld 1) 4 30 false,.U 32 (.load false 1) 31 30 false,.P 33 (.bin .gtr) [.t 32,.i 32] 30 false,.p 34 .pick [.t 30,.T,.t 33],.m 35 34,.U 36 (.fld 2) 4 35 false,.U 37 (.load false 1) 36 35 false,.P 38 (.bin .lss) [.t 37,.i 1] 35 false,.p 39 .pick [.t 35,.T,.t 38],.m 40 39,.U 41 (.fld 2) 4 40 false,.U 42 (.load false 1) 41 40 false,.P 43 (.bin .gtr) [.t 42,.i 4096] 40 false,.p 44 .pick [.t 40,.T,.t 43],.m 45 44,.U 46 (.fld 3) 4 45 false,.U 47 (.load false 1) 46 45 false,.P 48 (.bin .lss) [.t 47,.i 1] 45 false,.p 49 .pick [.t 45,.T,.t 48],.m 50 49,.U 51 (.fld 3) 4 50 false,.U 52 (.load false 1) 51 50 false,.P 53 (.bin .gtr) [.t 52,.i 1048576] 50 false,.p 54 .pick [.t 50,.T,.t 53]] (.cond (.t 54) (.r [.v 2 (.bool false)] .ret) .skip)))) (.r [.p 56 (.bin .eql) [.t 15,.c (.int .u8 2)],.m 55 56] (.cond (.t 55) (.r [.u 57 (.fld 3) 1,.u 58 (.load true 5) 57,.u 59 (.fld 3) 3,⟨none,.store 5, [.t 59,.t 58], none⟩] (.r [.u 60 (.fld 3) 1,.u 61 (.load true 5) 60,.u 62 (.call 91) 61,.u 63 (.un .not) 62] (.cond (.t 63) (.r [.v 2 (.bool false)] .ret) .skip))) (.r [.p 65 (.bin .eql) [.t 15,.c (.int .u8 3)],.m 64 65] (.cond (.t 64) (.r [.u 66 (.fld 8) 1,.u 67 (.load true 2) 66,.u 68 (.fld 8) 3,⟨none,.store 2, [.t 68,.t 67], none⟩] (.r [.u 69 (.fld 8) 1,.u 70 (.load true 2) 69,.u 71 (.call 92) 70,.u 72 (.un .not) 71] (.cond (.t 72) (.r [.v 2 (.bool false)] .ret) .skip))) (.seq (.r [.p 74 (.bin .eql) [.t 15,.c (.int .u8 4)],.m 73 74] (.cond (.t 73) .skip (.reg [.p 75 (.bin .eql) [.t 15,.c (.int .u8 7)],.m 73 75]))) (.cond (.t 73) .skip (.r [.p 77 (.bin .eql) [.t 15,.c (.int .u8 5)],.m 76 77] (.cond (.t 76) (.r [.u 78 (.fld 10) 1,.u 79 (.load false 1) 78,.u 80 (.fld 10) 3,⟨none,.store 1, [.t 80,.t 79], none⟩] (.seq (.r [.u 81 (.fld 10) 1,.u 82 (.load false 1) 81,.u 83 (.len 1 0) 82,.a 84 (.bin .lss) 83 1,.m 85 84,.U 86 (.fld 10) 1 85 false,.U 87 (.load false 1) 86 85 false,.U 88 (.len 1 0) 87 85 false,.P 89 (.bin .gtr) [.t 88,.i 8] 85 false,.p 90 .pick [.t 85,.T,.t 89]] (.cond (.t 90) (.r [.v 2 (.bool false)] .ret) .skip)) (.r [.v 5 (.int .i64 0)] (.block 1 (.loop c_rMay_0))))) (.r [.p 123 (.bin .eql) [.t 15,.c (.int .u8 6)],.m 122 123] (.cond (.t 122) (.r [.u 124 (.fld 11) 1,.u 125 (.load false 1) 124,.u 126 (.fld 11) 3,⟨none,.store 1, [.t 126,.t 125], none⟩] (.seq (.r [.u 127 (.fld 11) 1,.u 128 (.load false 1) 127,.u 129 (.len 1 0) 128,.a 130 (.bin .gtr) 129 8] (.cond (.t 130) (.r [.v 2 (.bool false)] .ret) .skip)) (.r [.v 6 (.int .i64 0)] (.block 3 (.loop c_rMay_1))))) (.r [.v 2 (.bool false)] .ret))))))))))))))) (.r [.u 145 (.fld 1) 1,.u 146 (.load false 1) 145,.p 147 (.bin .lss) [.t 146,.c (.int .u8 16)],.m 148 147,.U 149 (.load true 19) 1 148 true,.U 150 (.load true 19) 3 148 true,.B 151 (.call 93) 149 150 148 true,.p 152 .pick [.t 148,.t 151,.F],.m 2 152] .ret))))
theorem Py : compF Tryz.prog Tryz.f55 ⟨false, false, []⟩ = some (c_rMay, [.tmp 2], 153) := by kernel_rfl
theorem eqv_opn {W : AW} {K : V → AW → Prop} : sem E (.eqv true (true, [.i .u8, .i .u8, .i .u8, .i .u16, .i .u16])) [.agg [.int .u8 0, .int .u8 0, .int .u8 0, .int .u16 0, .int .u16 0], .agg [.int .u8 0, .int .u8 0, .int .u8 0, .int .u16 0, .int .u16 0]] W K = K (.bool false) W := id rfl
theorem eqv_resn {W : AW} {K : V → AW → Prop} : sem E (.eqv true (true, [.i .u8, .i .u16])) [.agg [.int .u8 0, .int .u16 0], .agg [.int .u8 0, .int .u16 0]] W K = K (.bool false) W := id rfl
theorem eqv_cfn {W : AW} {K : V → AW → Prop} : sem E (.eqv true (true, [.i .u8, .i .i64, .i .i64, .i .i64, .b, .b, .b])) [.agg [.int .u8 0, .int .i64 0, .int .i64 0, .int .i64 0, .bool false, .bool false, .bool false], .agg [.int .u8 0, .int .i64 0, .int .i64 0, .int .i64 0, .bool false, .bool false, .bool false]] W K = K (.bool false) W := id rfl
theorem T9 (hP : PE E) (W : AW) (kd c i : Int) {t r : V} {ms : List Mi} {ls : List (Option (List Int))} (ht : isMs t ms) (hr : isLs r ls) (hm : ∀ m ∈ ms, m.ok) (hml : ms.length ≤ 8) (hll : ls.length ≤ 8) (hl : ∀ o ∈ ls, (nums o).length ≤ 32) :
  ACalls E 93 [evV kd c i t r, evV kd c i t r] W fun Y W' => Y = .bool true ∧ W' = W := by
 refine ACalls.of hP Tryz.func93 P0 (by simp) fun _ hok => ?_
 refine Af hok ?_
 have hms : isS 3 t (ms.map Mi.V) := ht
 obtain ⟨xs, hls, hxl, hxe⟩ := hr
 have f1 := hms.cells
 have f2 := hls.cells
 have f3 := hms.one
 have f4 := hls.one
 have n0 : ∀ n : Nat, ((n : Int) != n) = false := fun n => by simp
 simp (disch:=omega) only [BZ, ↓reduceIte, nE, BM, BD, c_r05Same, evV, bne_self_eq_false]
 repeat (rw [Aa]; simp (disch:=omega) only [BX, ↓reduceIte, nE, BM, BD, nA, nL, bne_self_eq_false, eqv_opn, eqv_resn, eqv_cfn, hms.len, hls.len, lmp])
 obtain ⟨W0, hW0⟩ : ∃ W0, W0 = X W W.nx [.row [.int .u8 kd, .int .u8 c, .int .u16 i, .int .u8 0, .int .u8 0, .int .u8 0, .int .u16 0, .int .u16 0, .int .u8 0, .int .u16 0, t, r, .int .u8 0, .int .i64 0, .int .i64 0, .int .i64 0, .bool false, .bool false, .bool false],
  .row [.int .u8 kd, .int .u8 c, .int .u16 i, .int .u8 0, .int .u8 0, .int .u8 0, .int .u16 0, .int .u16 0, .int .u8 0, .int .u16 0, t, r, .int .u8 0, .int .i64 0, .int .i64 0, .int .i64 0, .bool false, .bool false, .bool false]] := ⟨_, rfl⟩
 rw [← hW0]
 have k0 : W0.get (rf W.nx 0) = some (.row [.int .u8 kd, .int .u8 c, .int .u16 i, .int .u8 0, .int .u8 0, .int .u8 0, .int .u16 0, .int .u16 0, .int .u8 0, .int .u16 0, t, r, .int .u8 0, .int .i64 0, .int .i64 0, .int .i64 0, .bool false, .bool false, .bool false]) := by rw [hW0, Ao]; rfl
 have k1 : W0.get (rf W.nx 1) = some (.row [.int .u8 kd, .int .u8 c, .int .u16 i, .int .u8 0, .int .u8 0, .int .u8 0, .int .u16 0, .int .u16 0, .int .u8 0, .int .u16 0, t, r, .int .u8 0, .int .i64 0, .int .i64 0, .int .i64 0, .bool false, .bool false, .bool false]) := by rw [hW0, Ao]; rfl
 have hbk : RetV (.bool true) W0 (.bool true) W := by rw [hW0]; exact Ap hok rfl
 rw [Ai]
 refine alp (fun (k : Nat) A1 W1 => A1 2 = some (.ptr (rf W.nx 0) 0) ∧ A1 3 = some (.ptr (rf W.nx 1) 0) ∧ A1 5 = some (.int .i64 k) ∧ k ≤ ms.length ∧ W1 = W0) (fun k => ms.length - k) 0
  ⟨rfl, rfl, rfl, Nat.zero_le _, rfl⟩ ?_
 rintro k A1 W1 ⟨g2, g3, g5, gk, rfl⟩ _
 by_cases hk1 : k < ms.length
 ·have hmo := hm _ (gmm hk1)
  simp (disch:=omega) only [BX, ↓reduceIte, nE, BM, BD, c_r05Same_0, g2, g3, g5, k0, k1, hms.len, lmp, clt, hk1, dT, hms.idx (C5 hk1), Gx, Ks hmo hmo, Ah]
  exact ⟨k + 1, ⟨tt, tt, tt, tt, tt⟩, by omega, lr _⟩
 ·simp (disch:=omega) only [BX, ↓reduceIte, nE, BM, BD, c_r05Same_0, g2, g5, k0, hms.len, lmp, clt, hk1, dF]
  rw [Ai]
  refine alp (fun (k : Nat) A1 W2 => A1 2 = some (.ptr (rf W.nx 0) 0) ∧ A1 3 = some (.ptr (rf W.nx 1) 0) ∧ A1 6 = some (.int .i64 k) ∧ k ≤ xs.length ∧ W2 = W1) (fun k => xs.length - k) 0
   ⟨g2, g3, rfl, Nat.zero_le _, rfl⟩ ?_
  rintro k A1 W2 ⟨g2, g3, g5, gk, rfl⟩ _
  by_cases hk1 : k < xs.length
  ·have hel := hxe k hk1 (by omega)
   have h32 := hl _ (gmm (show k < ls.length by omega))
   have hat : xs[k]? = some xs[k] := gEg hk1
   simp (disch:=omega) only [BX, ↓reduceIte, nE, BM, BD, c_r05Same_1, g2, g3, g5, k0, k1, hls.len, clt, hk1, dT, hls.idx hat, hel.isS.loadf, hel.isS.frz]
   refine pc (Yw hP W2 hel.isS hel.isS (by omega)) ?_
   simp (disch:=omega) only [BS, BC, Ad, ↓reduceIte, nE, BD, g2, g3, g5, dT, Ah]
   exact ⟨k + 1, ⟨tt, tt, tt, tt, tt⟩, by omega, lr _⟩
  ·simp (disch:=omega) only [BX, ↓reduceIte, nE, BM, BD, c_r05Same_1, g2, g5, k0, hls.len, clt, hk1, dF]
   exact ⟨_, rfl, _, W, hbk, lr _, rfl, rfl⟩
theorem nilLs : isLs .nilsl [] := ⟨[], .nil, rfl, fun k h => by simp at h⟩
theorem nilMs : isMs .nilsl [] := .nil
theorem rMayB_c (hP : PE E) (W : AW) (c i : Int) {t : V} {l : List Mi} (ht : isMs t l) (ho : ∀ m ∈ l, m.ok) (hll : l.length < 2 ^ 48) :
  ACalls E 55 [evV 5 c i t .nilsl] W fun Y W' => Y = .bool (okB c l) ∧ W' = W := by
 refine ACalls.of hP Tryz.func55 Py (by simp) fun _ hok => ?_
 refine Af hok ?_
 have hms : isS 3 t (l.map Mi.V) := ht
 have f1 := hms.cells
 have f3 := hms.one
 simp (disch:=omega) only [BX, ↓reduceIte, nE, BM, BD, nA, nL, nT, c_rMay, evV, f1, f3, show ((5 : Int) == 1) = false by decide, show ((5 : Int) == 2) = false by decide, show ((5 : Int) == 3) = false by decide, show ((5 : Int) == 4) = false by decide, show ((5 : Int) == 7) = false by decide, show ((5 : Int) == 5) = true by decide, hms.len, lmp]
 by_cases h1 : l.length < 1
 ·repeat (rw [Aa]; simp (disch:=omega) only [BX, ↓reduceIte, nE, BM, show decide (((l.length : Nat) : Int) < 1) = true from decide_eq_true (by omega)])
  exact ⟨_, rfl, _, W, Ap hok rfl, lr _, by rw [okB, show decide (1 ≤ l.length) = false from decide_eq_false (by omega)]; rfl, rfl⟩
 by_cases h8 : l.length > 8
 ·repeat (rw [Aa]; simp (disch:=omega) only [BX, ↓reduceIte, nE, BM, BD, show decide (((l.length : Nat) : Int) < 1) = false from decide_eq_false (by omega), show decide (((l.length : Nat) : Int) > 8) = true from decide_eq_true (by omega), hms.len, lmp])
  exact ⟨_, rfl, _, W, Ap hok rfl, lr _, by rw [okB, show decide (l.length ≤ 8) = false from decide_eq_false (by omega), Bool.and_false]; rfl, rfl⟩
 ·repeat (rw [Aa]; simp (disch:=omega) only [BX, ↓reduceIte, nE, BM, BD, show decide (((l.length : Nat) : Int) < 1) = false from decide_eq_false (by omega), show decide (((l.length : Nat) : Int) > 8) = false from decide_eq_false (by omega), hms.len, lmp])
  obtain ⟨W0, hW0⟩ : ∃ W0, W0 = X W W.nx [.row [.int .u8 5, .int .u8 c, .int .u16 i, .int .u8 0, .int .u8 0, .int .u8 0, .int .u16 0, .int .u16 0, .int .u8 0, .int .u16 0, t, .nilsl, .int .u8 0, .int .i64 0, .int .i64 0, .int .i64 0, .bool false, .bool false, .bool false], .row [.int .u8 5, .int .u8 c, .int .u16 i, .int .u8 0, .int .u8 0, .int .u8 0, .int .u16 0, .int .u16 0, .int .u8 0, .int .u16 0, t, .nilsl, .int .u8 0, .int .i64 0, .int .i64 0, .int .i64 0, .bool false, .bool false, .bool false]] := ⟨_, rfl⟩
  rw [← hW0]
  have k0 : W0.get (rf W.nx 0) = some (.row [.int .u8 5, .int .u8 c, .int .u16 i, .int .u8 0, .int .u8 0, .int .u8 0, .int .u16 0, .int .u16 0, .int .u8 0, .int .u16 0, t, .nilsl, .int .u8 0, .int .i64 0, .int .i64 0, .int .i64 0, .bool false, .bool false, .bool false]) := by rw [hW0, Ao]; rfl
  have k1 : W0.get (rf W.nx 1) = some (.row [.int .u8 5, .int .u8 c, .int .u16 i, .int .u8 0, .int .u8 0, .int .u8 0, .int .u16 0, .int .u16 0, .int .u8 0, .int .u16 0, t, .nilsl, .int .u8 0, .int .i64 0, .int .i64 0, .int .i64 0, .bool false, .bool false, .bool false]) := by rw [hW0, Ao]; rfl
  have hbk : ∀ b, RetV (.bool b) W0 (.bool b) W := fun b => by rw [hW0]; exact Ap hok rfl
  clear hW0
  have hb18 : (decide (1 ≤ l.length) && decide (l.length ≤ 8)) = true := by rw [decide_eq_true (by omega), decide_eq_true (by omega)]; rfl
  rw [Ai]
  refine alp (fun (k : Nat) A1 W1 => A1 1 = some (.ptr (rf W.nx 0) 0) ∧ A1 3 = some (.ptr (rf W.nx 1) 0) ∧ A1 5 = some (.int .i64 k) ∧ k ≤ l.length ∧ W1 = W0 ∧ ∀ j (hj : j < l.length), j < k → badMi l[j] = false) (fun k => l.length - k) 0
   ⟨rfl, rfl, rfl, Nat.zero_le _, rfl, fun j _ hj => by omega⟩ ?_
  rintro k A1 W1 ⟨g1, g3, g5, gk, rfl, gj⟩ _
  by_cases hk1 : k < l.length
  ·have hmi : ∀ K, sem E (.idxp 3) [t, .int .i64 (k : Int)] W1 K = K (.cptr [.bool (l[k]).read, .int .u8 (l[k]).key, .int .u16 (l[k]).v]) W1 := fun K => hms.idx (C5 hk1)
   have hbad : badMi l[k] = true → okB c l = false := fun h => by
    rw [okB, show l.any badMi = true from List.any_eq_true.2 ⟨_, gmm hk1, h⟩, Bool.not_true, Bool.and_false]; rfl
   have hgo : badMi l[k] = false → ∀ j (hj : j < l.length), j < k + 1 → badMi l[j] = false := fun h j hj hjk => by
    by_cases e1 : j = k
    ·subst e1; exact h
    ·exact gj j hj (by omega)
   generalize l[k] = m at hmi hbad hgo
   by_cases h7 : m.key > 7
   ·simp (disch:=omega) only [BX, ↓reduceIte, nE, BM, BD, nA, nL, c_rMay_0, g1, g5, k0, hms.len, lmp, clt, hk1, dT, hmi, h7]
    repeat (rw [Aa]; simp (disch:=omega) only [BX, ↓reduceIte, nE, BM])
    exact ⟨_, rfl, _, W, hbk _, lr _, by rw [hbad (by rw [badMi, decide_eq_true (show m.key ≥ 8 by omega)]; rfl)], rfl⟩
   ·have hk8 : decide (m.key ≥ 8) = false := decide_eq_false (by omega)
    cases hm : m.read with
    | false =>
     rw [hm] at hmi
     simp (disch:=omega) only [BX, ↓reduceIte, nE, BM, BD, nA, nL, c_rMay_0, g1, g5, k0, hms.len, lmp, clt, hk1, dT, hmi, h7, dF]
     repeat (rw [Aa]; simp (disch:=omega) only [BS, BC, Ad, ↓reduceIte, nE, BM, BD, nA, nL, g1, g3, g5, k0, hmi, Ah])
     exact ⟨k + 1, ⟨tt, tt, tt, by omega, tt, hgo (by rw [badMi, hk8, hm]; rfl)⟩, by omega, lr _⟩
    | true =>
     rw [hm] at hmi
     by_cases hv : m.v = 0
     ·rw [hv] at hmi
      simp (disch:=omega) only [BX, ↓reduceIte, nE, BM, BD, nA, nL, c_rMay_0, g1, g5, k0, hms.len, lmp, clt, hk1, dT, hmi, h7, dF]
      repeat (rw [Aa]; simp (disch:=omega) only [BS, BC, Ad, ↓reduceIte, nE, BM, BD, nA, nL, g1, g3, g5, k0, hmi, bne_self_eq_false, Ah])
      exact ⟨k + 1, ⟨tt, tt, tt, by omega, tt, hgo (by rw [badMi, hk8, hm, hv]; rfl)⟩, by omega, lr _⟩
     ·have hv' : (m.v != 0) = true := by simpa using hv
      simp (disch:=omega) only [BX, ↓reduceIte, nE, BM, BD, nA, nL, c_rMay_0, g1, g5, k0, hms.len, lmp, clt, hk1, dT, hmi, h7, dF]
      repeat (rw [Aa]; simp (disch:=omega) only [BX, ↓reduceIte, nE, BM, BD, nA, nL, g1, g5, k0, hmi, hv'])
      exact ⟨_, rfl, _, W, hbk _, lr _, by rw [hbad (by rw [badMi, hm, decide_eq_true (show m.v ≠ 0 from hv), Bool.true_and, Bool.or_true])], rfl⟩
  ·obtain rfl : k = l.length := by omega
   have hany : l.any badMi = false := by
    rw [List.any_eq_false]
    intro m hm
    obtain ⟨j, hj, rfl⟩ := List.getElem_of_mem hm
    rw [gj j hj hj]; decide
   have hokB : okB c l = decide (c < 16) := by rw [okB, hb18, hany]; rfl
   by_cases hc : c < 16
   ·simp (disch:=omega) only [BX, ↓reduceIte, nE, BM, BD, c_rMay_0, g1, g5, k0, hms.len, lmp, clt, hk1, dF, dT, hc]
    repeat (rw [Aa]; simp (disch:=omega) only [BS, BC, ↓reduceIte, nE, BM, BD, nA, nL, g1, g3, k0, k1])
    refine pc (T9 hP _ 5 c i ht nilLs ho (by omega) (by simp) (by simp)) ?_
    simp (disch:=omega) only [BS, BC, ↓reduceIte, nE, ]
    exact ⟨_, rfl, _, W, hbk _, lr _, by rw [hokB, decide_eq_true hc], rfl⟩
   ·simp (disch:=omega) only [BX, ↓reduceIte, nE, BM, BD, c_rMay_0, g1, g5, k0, hms.len, lmp, clt, hk1, dF, hc]
    repeat (rw [Aa]; simp (disch:=omega) only [BS, BC, ↓reduceIte, nE, BM])
    exact ⟨_, rfl, _, W, hbk _, lr _, by rw [hokB, decide_eq_false hc], rfl⟩
theorem rMayC_c (hP : PE E) (W : AW) (i : Int) {r : V} {ls : List (Option (List Int))} (hr : isLs r ls) (hll : ls.length < 2 ^ 48) :
  ACalls E 55 [evV 6 0 i .nilsl r] W fun Y W' => Y = .bool (okC ls) ∧ W' = W := by
 refine ACalls.of hP Tryz.func55 Py (by simp) fun _ hok => ?_
 refine Af hok ?_
 obtain ⟨xs, hls, hxl, hxe⟩ := id hr
 have f1 := hls.cells
 have f3 := hls.one
 simp (disch:=omega) only [BX, ↓reduceIte, nE, BM, BD, nA, nL, nT, c_rMay, evV, f1, f3, show ((6 : Int) == 1) = false by decide, show ((6 : Int) == 2) = false by decide, show ((6 : Int) == 3) = false by decide, show ((6 : Int) == 4) = false by decide, show ((6 : Int) == 7) = false by decide, show ((6 : Int) == 5) = false by decide, show ((6 : Int) == 6) = true by decide, hls.len]
 by_cases h8 : xs.length > 8
 ·simp (disch:=omega) only [↓reduceIte, show decide (((xs.length : Nat) : Int) > 8) = true from decide_eq_true (by omega)]
  exact ⟨_, rfl, _, W, Ap hok rfl, lr _, by rw [okC, show decide (ls.length ≤ 8) = false from decide_eq_false (by omega)]; rfl, rfl⟩
 ·simp (disch:=omega) only [BC, ↓reduceIte, show decide (((xs.length : Nat) : Int) > 8) = false from decide_eq_false (by omega)]
  obtain ⟨W0, hW0⟩ : ∃ W0, W0 = X W W.nx [.row [.int .u8 6, .int .u8 0, .int .u16 i, .int .u8 0, .int .u8 0, .int .u8 0, .int .u16 0, .int .u16 0, .int .u8 0, .int .u16 0, .nilsl, r, .int .u8 0, .int .i64 0, .int .i64 0, .int .i64 0, .bool false, .bool false, .bool false], .row [.int .u8 6, .int .u8 0, .int .u16 i, .int .u8 0, .int .u8 0, .int .u8 0, .int .u16 0, .int .u16 0, .int .u8 0, .int .u16 0, .nilsl, r, .int .u8 0, .int .i64 0, .int .i64 0, .int .i64 0, .bool false, .bool false, .bool false]] := ⟨_, rfl⟩
  rw [← hW0]
  have k0 : W0.get (rf W.nx 0) = some (.row [.int .u8 6, .int .u8 0, .int .u16 i, .int .u8 0, .int .u8 0, .int .u8 0, .int .u16 0, .int .u16 0, .int .u8 0, .int .u16 0, .nilsl, r, .int .u8 0, .int .i64 0, .int .i64 0, .int .i64 0, .bool false, .bool false, .bool false]) := by rw [hW0, Ao]; rfl
  have k1 : W0.get (rf W.nx 1) = some (.row [.int .u8 6, .int .u8 0, .int .u16 i, .int .u8 0, .int .u8 0, .int .u8 0, .int .u16 0, .int .u16 0, .int .u8 0, .int .u16 0, .nilsl, r, .int .u8 0, .int .i64 0, .int .i64 0, .int .i64 0, .bool false, .bool false, .bool false]) := by rw [hW0, Ao]; rfl
  have hbk : ∀ b, RetV (.bool b) W0 (.bool b) W := fun b => by rw [hW0]; exact Ap hok rfl
  clear hW0
  rw [Ai]
  refine alp (fun (k : Nat) A1 W1 => A1 1 = some (.ptr (rf W.nx 0) 0) ∧ A1 3 = some (.ptr (rf W.nx 1) 0) ∧ A1 6 = some (.int .i64 k) ∧ k ≤ xs.length ∧ W1 = W0 ∧ ∀ j (hj : j < ls.length), j < k → longL ls[j] = false) (fun k => xs.length - k) 0
   ⟨rfl, rfl, rfl, Nat.zero_le _, rfl, fun j _ hj => by omega⟩ ?_
  rintro k A1 W1 ⟨g1, g3, g6, gk, rfl, gj⟩ _
  by_cases hk1 : k < xs.length
  ·have hkl : k < ls.length := by omega
   have hel := hxe k hk1 hkl
   have hat : xs[k]? = some xs[k] := gEg hk1
   by_cases h32 : (nums ls[k]).length > 32
   ·simp (disch:=omega) only [BX, ↓reduceIte, nE, BM, BD, c_rMay_1, g1, g6, k0, hls.len, clt, hk1, dT, hls.idx hat, hel.isS.loadf, hel.isS.len, Ak, show decide ((((nums ls[k]).length : Nat) : Int) > 32) = true from decide_eq_true (by omega)]
    exact ⟨_, rfl, _, W, hbk _, lr _, by rw [okC, show ls.any longL = true from List.any_eq_true.2 ⟨_, gmm hkl, decide_eq_true h32⟩, Bool.not_true, Bool.and_false], rfl⟩
   ·simp (disch:=omega) only [BX, ↓reduceIte, nE, BM, BD, c_rMay_1, g1, g3, g6, k0, hls.len, clt, hk1, dT, hls.idx hat, hel.isS.loadf, hel.isS.len, Ak, show decide ((((nums ls[k]).length : Nat) : Int) > 32) = false from decide_eq_false (by omega), Ah]
    refine ⟨k + 1, ⟨tt, tt, tt, by omega, tt, fun j hj hjk => ?_⟩, by omega, lr _⟩
    by_cases e1 : j = k
    ·subst e1; exact decide_eq_false h32
    ·exact gj j hj (by omega)
  ·obtain rfl : k = xs.length := by omega
   have hany : ls.any longL = false := by
    rw [List.any_eq_false]
    intro o ho
    obtain ⟨j, hj, rfl⟩ := List.getElem_of_mem ho
    rw [gj j hj (by omega)]; decide
   simp (disch:=omega) only [BX, ↓reduceIte, nE, BM, BD, c_rMay_1, g1, g6, k0, hls.len, clt, hk1, dF, show decide ((0 : Int) < 16) = true by decide]
   repeat (rw [Aa]; simp (disch:=omega) only [BS, BC, ↓reduceIte, nE, BM, BD, nA, nL, g1, g3, k0, k1])
   refine pc (T9 hP _ 6 0 i nilMs hr (by simp) (by simp) (by omega) (fun o ho => by
    obtain ⟨j, hj, rfl⟩ := List.getElem_of_mem ho
    have := gj j hj (by omega)
    simpa [longL] using this)) ?_
   simp (disch:=omega) only [BS, BC, ↓reduceIte, nE, ]
   exact ⟨_, rfl, _, W, hbk _, lr _, by rw [okC, hany, show decide (ls.length ≤ 8) = true from decide_eq_true (by omega)]; rfl, rfl⟩
open Go Go.AL Go.AL.SE Go.Proofs
def c_rTimes_0 : AC := (.seq (.r [.m 11 8,.m 12 1,.u 13 (.len 1 0) 12,.b 14 (.bin .lss) 11 13] (.w 14 0)) (.seq (.block 1 (.seq (.par (.step 0 (.m 17 1) (.step 1 (.m 18 8) (.step 2 (.b 19 (.idxp 3) 17 18) (.step 3 (.u 20 (.load true 3) 19) (.step 4 (.u 21 (.load true 3) 5) (.step 5 (.b 22 (.eqv false (true, [.b,.i .u8,.i .u16])) 20 21) .done))))))) (.cond (.t 22) (.reg [.m 23 7,.a 24 (.bin .add) 23 1,.m 7 24]) .skip))) (.reg [.m 15 8,.a 16 (.bin .add) 15 1,.m 8 16])))
def c_rTimes_2 : AC := (.seq (.r [.m 34 10,.m 35 0,.u 36 .nilck 35,.u 37 (.fld 0) 36,.u 38 (.load false 1) 37,.m 39 9,.b 40 (.idxp 5) 38 39,.u 41 (.fld 2) 40,.u 42 (.load false 1) 41,.u 43 (.len 1 0) 42,.b 44 (.bin .lss) 34 43] (.w 44 4)) (.seq (.block 5 (.seq (.par (.step 0 (.m 47 0) (.step 1 (.u 48 .nilck 47) (.step 2 (.u 49 (.fld 0) 48) (.step 4 (.m 51 9) (.step 8 (.m 55 10) (.step 3 (.u 50 (.load false 1) 49) (.step 5 (.b 52 (.idxp 5) 50 51) (.step 6 (.u 53 (.fld 2) 52) (.step 7 (.u 54 (.load false 1) 53) (.step 9 (.b 56 (.idxp 3) 54 55) (.step 10 (.u 57 (.load true 3) 56) (.step 11 (.u 58 (.load true 3) 5) (.step 12 (.b 59 (.eqv false (true, [.b,.i .u8,.i .u16])) 57 58) .done)))))))))))))) (.cond (.t 59) (.reg [.m 60 7,.a 61 (.bin .add) 60 1,.m 7 61]) .skip))) (.reg [.m 45 10,.a 46 (.bin .add) 45 1,.m 10 46])))
def c_rTimes_1 : AC := (.seq (.r [.m 25 9,.m 26 0,.u 27 .nilck 26,.u 28 (.fld 0) 27,.u 29 (.load false 1) 28,.u 30 (.len 1 0) 29,.b 31 (.bin .lss) 25 30] (.w 31 2)) (.seq (.block 3 (.r [.v 10 (.int .i64 0)] (.block 4 (.loop c_rTimes_2)))) (.reg [.m 32 9,.a 33 (.bin .add) 32 1,.m 9 33])))
def c_rTimes : AC := (.r [.u 5 .box 2,.v 6 (.int .i64 0)] (.r [.v 7 (.int .i64 0)] (.seq (.r [.v 8 (.int .i64 0)] (.block 0 (.loop c_rTimes_0))) (.seq (.r [.v 9 (.int .i64 0)] (.block 2 (.loop c_rTimes_1))) (.r [.m 62 7,.m 6 62] .ret)))))
theorem Rz : compF Tryz.prog Tryz.f63 ⟨false, false, []⟩ = some (c_rTimes, [.tmp 6], 63) := by kernel_rfl
def tmN (l : List Mi) (m : Mi) : Nat := l.countP fun x => decide (x = m)
def tmS (s : Str) (m : Mi) : Nat := (s.map fun t => tmN t.ms m).sum
theorem O1 {l : List Mi} {m : Mi} {k : Nat} (h : k < l.length) : tmN (l.take (k + 1)) m = tmN (l.take k) m + (if l[k] = m then 1 else 0) := by
 unfold tmN
 rw [tao, gEg h, Option.toList_some, List.countP_append, List.countP_cons, List.countP_nil]
 simp
theorem M2 (l : List Mi) (m : Mi) : tmN l m ≤ l.length := List.countP_le_length
theorem Yo {s : Str} {m : Mi} {k : Nat} (h : k < s.length) : tmS (s.take (k + 1)) m = tmS (s.take k) m + tmN s[k].ms m := by
 unfold tmS
 rw [tao, gEg h, Option.toList_some, mpp, List.sum_append]
 simp
theorem tmS_le {s : Str} (hs : ∀ t ∈ s, t.ok) (m : Mi) : tmS s m ≤ s.length * 8 := by
 induction s with
 | nil => simp [tmS]
 | cons t s ih =>
  have h1 := M2 t.ms m
  have h2 := (hs t (by simp)).msl
  have h3 := ih fun x hx => hs x (by simp [hx])
  simp only [tmS, mcs, List.sum_cons, lcs] at h3 ⊢
  omega
theorem Za (hP : PE E) (W : AW) {sp lo : Nat} {h : V} {l : List Rt} (hR : Rs W sp h l lo) {lv : V} {ml : List Mi} (hv : isMs lv ml) (hm : ∀ m ∈ ml, m.ok) (hml : ml.length ≤ 8) {m : Mi} (ho : m.ok) :
  ACalls E 63 [.ptr sp 0, lv, m.V] W fun Y W' => Y = .int .i64 ((tmN ml m + tmS (txs l) m : Nat) : Int) ∧ W' = W := by
 refine ACalls.of hP Tryz.func63 Rz (by simp) fun _ hok => ?_
 refine Af hok ?_
 have hms : isS 3 lv (ml.map Mi.V) := hv
 have hs := hR.small
 have htl : (txs l).length = l.length := by simp [txs]
 simp (disch:=omega) only [BZ, BM, BD, c_rTimes, Mi.V]
 obtain ⟨W0, hW0⟩ : ∃ W0, W0 = X W W.nx [.row [.bool m.read, .int .u8 m.key, .int .u16 m.v]] := ⟨_, rfl⟩
 rw [← hW0]
 have k5 : W0.get (rf W.nx 0) = some (.row [.bool m.read, .int .u8 m.key, .int .u16 m.v]) := by rw [hW0, Ao]; rfl
 have hE : Ex W W0 := by rw [hW0]; exact .x0
 have kp : W0.get sp = some (.row [h]) := (hE.get _ hR.lp).trans hR.hp
 clear hW0
 have hld : ∀ K, sem E (.load true 3) [.ptr (rf W.nx 0) 0] W0 K = K m.V W0 := fun K => by
  rw [So, k5, Nr]; rfl
 rw [Ai]
 refine alp (fun (k : Nat) A1 W1 => A1 0 = some (.ptr sp 0) ∧ A1 1 = some lv ∧ A1 5 = some (.ptr (rf W.nx 0) 0) ∧ A1 7 = some (.int .i64 (tmN (ml.take k) m : Nat)) ∧ A1 8 = some (.int .i64 k) ∧ k ≤ ml.length ∧ W1 = W0) (fun k => ml.length - k) 0
  ⟨rfl, rfl, rfl, rfl, rfl, Nat.zero_le _, rfl⟩ ?_
 rintro k A1 W1 ⟨g0, g1, g5, g7, g8, gk, rfl⟩ _
 by_cases hk1 : k < ml.length
 ·have hmo := hm _ (gmm hk1)
  have htk := O1 (m := m) hk1
  have hle := M2 (ml.take k) m
  have hle2 : (ml.take k).length ≤ k := by simp; omega
  simp (disch:=omega) only [BX, ↓reduceIte, nE, reduceCtorEq, c_rTimes_0, g0, g1, g5, g7, g8, hms.len, lmp, clt, hk1, dT, hms.idx (C5 hk1), Gx, hld, Ks hmo ho]
  by_cases he : ml[k] = m
  ·rw [if_pos he] at htk
   simp (disch:=omega) only [↓reduceIte, he, dT, Ah]
   exact ⟨k + 1, ⟨tt, tt, tt, by rw [htk], tt, hk1, tt⟩, by omega, lr _⟩
  ·rw [if_neg he] at htk
   simp (disch:=omega) only [BC, ↓reduceIte, he, dF, Ah]
   exact ⟨k + 1, ⟨tt, tt, tt, by rw [htk]; rfl, tt, hk1, tt⟩, by omega, lr _⟩
 ·obtain rfl : k = ml.length := by omega
  rw [tkl] at g7
  simp (disch:=omega) only [BX, ↓reduceIte, nE, c_rTimes_0, g1, g8, hms.len, lmp, clt, hk1, dF]
  rw [Ai]
  refine alp (fun (i : Nat) A2 W2 => A2 0 = some (.ptr sp 0) ∧ A2 5 = some (.ptr (rf W.nx 0) 0) ∧ A2 7 = some (.int .i64 (tmN ml m + tmS ((txs l).take i) m : Nat)) ∧ A2 9 = some (.int .i64 i) ∧ i ≤ l.length ∧ W2 = W1) (fun i => l.length - i) 0
   ⟨tt, tt, tt, rfl, Nat.zero_le _, rfl⟩ ?_
  rintro i A2 W2 ⟨q0, q5, q7, q9, qi, rfl⟩ _
  by_cases hi : i < l.length
  ·obtain ⟨r, r1, r2, rfl, r4⟩ := hR.at hi
   have r4' : W2.get r = some (.vec 5 (cellsT l)) := (hE.get _ r2).trans r4
   have hti : (txs l)[i] = l[i].tx := by simp [txs]
   have hto := hR.ok l[i] (gmm hi)
   have hst := Yo (s := txs l) (m := m) (k := i) (by omega)
   rw [hti] at hst
   have hsl := tmS_le (s := (txs l).take i) (fun t ht => by
    obtain ⟨x, hx, rfl⟩ := List.mem_map.1 (List.mem_of_mem_take ht)
    exact (hR.ok x hx).tx) m
   have hsl2 : ((txs l).take i).length ≤ i := by simp; omega
   have hmm := M2 ml m
   have hms2 : isS 3 l[i].mv (l[i].tx.ms.map Mi.V) := hto.ms
   have hml2 := hto.tx.msl
   have hmo2 := hto.tx.ms
   have hld2 := fun (K : V → AW → Prop) => ldc (E := E) (W := W2) (K := K) (j := 2) (c := l[i].mv) r4' hi (by decide) rfl
   simp (disch:=omega) only [BX, ↓reduceIte, nE, reduceCtorEq, BM, BD, c_rTimes_1, q0, q9, kp, hR.len, clt, hi, dT]
   generalize tmS ((txs l).take i) m = base at q7 hst hsl
   rw [Ai]
   refine alp (fun (j : Nat) A3 W3 => A3 0 = some (.ptr sp 0) ∧ A3 5 = some (.ptr (rf W.nx 0) 0) ∧ A3 7 = some (.int .i64 (tmN ml m + base + tmN (l[i].tx.ms.take j) m : Nat)) ∧ A3 9 = some (.int .i64 i) ∧ A3 10 = some (.int .i64 j) ∧ j ≤ l[i].tx.ms.length ∧ W3 = W2) (fun j => l[i].tx.ms.length - j) 0
    ⟨tt, tt, tt, tt, tt, Nat.zero_le _, rfl⟩ ?_
   rintro j A3 W3 ⟨p0, p5, p7, p9, p10, pj, rfl⟩ _
   by_cases hj : j < l[i].tx.ms.length
   ·have hmo := hmo2 _ (gmm hj)
    have htk := O1 (m := m) hj
    have hle := M2 (l[i].tx.ms.take j) m
    have hle2 : (l[i].tx.ms.take j).length ≤ j := by simp; omega
    simp (disch:=omega) only [BX, ↓reduceIte, nE, reduceCtorEq, BM, BD, c_rTimes_2, p0, p5, p7, p9, p10, kp, ix5 hi, hld2, hms2.len, lmp, clt, hj, dT, hms2.idx (C5 hj), Gx, hld, Ks hmo ho]
    by_cases he : l[i].tx.ms[j] = m
    ·rw [if_pos he] at htk
     simp (disch:=omega) only [↓reduceIte, he, dT, Ah]
     exact ⟨j + 1, ⟨tt, tt, by rw [htk]; rfl, tt, tt, hj, tt⟩, by omega, lr _⟩
    ·rw [if_neg he] at htk
     simp (disch:=omega) only [BC, ↓reduceIte, he, dF, Ah]
     exact ⟨j + 1, ⟨tt, tt, by rw [htk]; rfl, tt, tt, hj, tt⟩, by omega, lr _⟩
   ·obtain rfl : j = l[i].tx.ms.length := by omega
    rw [tkl] at p7
    simp (disch:=omega) only [BX, ↓reduceIte, nE, reduceCtorEq, BM, BD, c_rTimes_2, p0, p5, p7, p9, p10, kp, ix5 hi, hld2, hms2.len, lmp, clt, hj, dF, Ah]
    exact ⟨i + 1, ⟨tt, tt, by rw [hst, Nat.add_assoc], tt, hi, tt⟩, by omega, lr _⟩
  ·obtain rfl : i = l.length := by omega
   rw [List.take_of_length_le (by omega)] at q7
   simp (disch:=omega) only [BX, ↓reduceIte, nE, reduceCtorEq, BM, BD, c_rTimes_1, q0, q7, q9, kp, hR.len, clt, hi, dF]
   exact ⟨_, rfl, _, W, hE.back hok rfl, lr _, rfl, rfl⟩
def c_rbeg_0 : AC := (.seq (.r [.m 39 9,.m 40 3,.u 41 (.len 1 0) 40,.b 42 (.bin .lss) 39 41] (.w 42 0)) (.seq (.block 1 (.r [.m 45 3,.m 46 9,.b 47 (.idxp 3) 45 46,.u 48 (.fld 0) 47,.u 49 (.load false 1) 48,.u 50 (.un .not) 49,.m 51 50,.M 52 0 51 true,.M 53 3 51 true,.M 54 3 51 true,.M 55 9 51 true,.B 56 (.idxp 3) 54 55 51 true,.U 57 (.load true 3) 56 51 true,.P 58 (.call 63) [.t 52,.t 53,.t 57] 51 true,.P 59 (.bin .gtr) [.t 58,.i 1] 51 true,.p 60 .pick [.t 51,.t 59,.F]] (.cond (.t 60) (.r [.v 8 (.int .i64 8)] .ret) .skip))) (.reg [.m 43 9,.a 44 (.bin .add) 43 1,.m 9 44])))
def c_rbeg : AC := (.r [.v 8 (.int .i64 0)] (.seq (.r [.m 10 1,.m 11 2,.m 12 3,.p 13 (.build [.int .u8 0,.int .u8 0,.int .u16 0,.int .u8 0,.int .u8 0,.int .u8 0,.int .u16 0,.int .u16 0,.int .u8 0,.int .u16 0,.nilsl,.nilsl,.int .u8 0,.int .i64 0,.int .i64 0,.int .i64 0,.bool false,.bool false,.bool false] [(0, 1), (1, 1), (2, 1), (10, 1)]) [.c (.int .u8 5),.t 10,.t 11,.t 12],.u 14 (.call 55) 13,.u 15 (.un .not) 14] (.cond (.t 15) (.r [.v 8 (.int .i64 4)] .ret) .skip)) (.seq (.seq (.par (.step 0 (.m 16 0) (.step 1 (.u 17 .nilck 16) (.step 2 (.u 18 (.fld 0) 17) (.step 3 (.u 19 (.load false 1) 18) (.step 4 (.u 20 (.len 1 0) 19) (.step 5 (.a 21 (.bin .gtr) 20 0) (.step 6 (.m 22 21) (.step 7 (.M 23 0 22 true) (.step 8 (.U 24 .nilck 23 22 true) (.step 9 (.U 25 (.fld 0) 24 22 true) (.step 11 (.M 27 0 22 true) (.step 12 (.U 28 .nilck 27 22 true) (.step 13 (.U 29 (.fld 0) 28 22 true) (.step 20 (.M 36 2 22 true) (.step 10 (.U 26 (.load false 1) 25 22 true) (.step 14 (.U 30 (.load false 1) 29 22 true) (.step 15 (.U 31 (.len 1 0) 30 22 true) (.step 16 (.P 32 (.bin .sub) [.t 31,.i 1] 22 true) (.step 17 (.B 33 (.idxp 5) 26 32 22 true) (.step 18 (.U 34 (.fld 0) 33 22 true) (.step 19 (.U 35 (.load false 1) 34 22 true) (.step 21 (.B 37 (.bin .geq) 35 36 22 true) (.step 22 (.p 38 .pick [.t 22,.t 37,.F]) .done)))))))))))))))))))))))) (.cond (.t 38) (.r [.v 8 (.int .i64 8)] .ret) .skip)) (.seq (.r [.v 9 (.int .i64 0)] (.block 0 (.loop c_rbeg_0))) (.r [.m 61 0,.m 62 0,.u 63 .nilck 62,.u 64 (.fld 0) 63,.u 65 (.load false 1) 64,.m 66 2,.m 67 1,.m 68 3,.p 69 (.build [.int .u16 0,.int .u8 0,.nilsl,.nilsl,.int .u8 0] [(0, 1), (1, 1), (2, 1)]) [.t 66,.t 67,.t 68],.u 70 (.bslice 5 1 (.agg [.int .u16 0,.int .u8 0,.nilsl,.nilsl,.int .u8 0]) [0]) 69,.b 71 (.appendx 5 64 [.int .u16 0,.int .u8 0,.nilsl,.nilsl,.int .u8 0]) 65 70,.u 72 .nilck 61,.u 73 (.fld 0) 72,⟨none,.store 1, [.t 73,.t 71], none⟩] (.r [.v 8 (.int .i64 0)] .ret))))))
theorem Zq : compF Tryz.prog Tryz.f38 ⟨true, false, []⟩ = some (c_rbeg, [.tmp 8], 74) := by kernel_rfl
structure FrR (W : AW) (h : V) (sp : Nat) (W' : AW) (h' : V) : Prop where
 cl : Cl W'
 nx : W.nx ≤ W'.nx
 get : ∀ x, x < W.nx → x ≠ sp → (∀ n, h ≠ .slr x 0 n 5) → W'.get x = W.get x
 ne : ∀ x, x < W.nx → (∀ n, h ≠ .slr x 0 n 5) → ∀ n, h' ≠ .slr x 0 n 5
theorem FrR.refl {W : AW} {h : V} {sp : Nat} (hC : Cl W) : FrR W h sp W h := ⟨hC, lr _, fun _ _ _ _ => rfl, fun _ _ hn n => hn n⟩
theorem Rs.ex {W W1 : AW} {sp lo : Nat} {h : V} {l : List Rt} (hR : Rs W sp h l lo) (hE : Ex W W1) : Rs W1 sp h l lo where
 hp := (hE.get _ hR.lp).trans hR.hp
 lp := by have := hR.lp; have := hE.nx; omega
 el := by
  rcases hR.el with h | ⟨r, h1, h2, h3, h4, h5⟩
  ·exact .inl h
  ·exact .inr ⟨r, h1, by have := hE.nx; omega, h3, h4, by rw [hE.get _ h2]; exact h5⟩
 ok := hR.ok
 so := hR.so
theorem Rt.cs_ones {t : Rt} (ht : t.ok) : t.cs.all V.one = true := by
 obtain ⟨xs, hls, _⟩ := ht.ls
 have h1 : t.mv.one = true := isS.one (s := 3) ht.ms
 have h2 : t.lv.one = true := hls.one
 simp only [Rt.cs, List.all_cons, h1, h2, List.all_nil, Bool.and_true]
 rfl
theorem app5x {W : AW} {K : V → AW → Prop} {h : V} {l : List Rt} {sp lo : Nat} (hR : Rs W sp h l lo) {t : Rt} (ht : t.ok) (hC : Cl W) (hlo : lo ≤ W.nx) (hso : SOk (txs (l ++ [t])))
  (hk : ∀ h' W', Rs (W'.put sp (.row [h'])) sp h' (l ++ [t]) lo → h'.cells = [h'] → h'.one = true → W'.get sp = some (.row [h]) → FrR W h sp (W'.put sp (.row [h'])) h' → K h' W') : sem E (.appendx 5 64 [.int .u16 0, .int .u8 0, .nilsl, .nilsl, .int .u8 0]) [h, .sl 5 true [t.V]] W K := by
 have hsm := hR.small
 have hlp := hR.lp
 have hfl : [t.V].flatMap V.cells = t.cs := by simp [Rt.V, V.cells]
 have hok' : ∀ x ∈ l ++ [t], x.ok := fun x hx => (List.mem_append.1 hx).elim (hR.ok x) (fun h => by rw [List.mem_singleton.1 h]; exact ht)
 have hct : cellsT (l ++ [t]) = cellsT l ++ t.cs := by simp [cellsT]
 rcases hR.el with ⟨rfl, rfl⟩ | ⟨r, h1, h2, rfl, h4, h5⟩
 ·simp only [sem, elemsV, if_true]
  refine ⟨by decide, by simp, ?_⟩
  rw [if_neg (by simp), hfl]
  have hn : W.nx ≠ sp := by omega
  refine hk _ _ ⟨put_at, by rw [Ae, Ag]; omega, .inr ⟨W.nx, hlo, by rw [Ae, Ag]; omega, rfl, by simp, by rw [put_ne hn, Ca]; simp [cellsT]⟩, hok', hso⟩ rfl rfl (by rw [Al hlp]; exact hR.hp) ⟨?_, by rw [Ae, Ag]; omega, fun x hx hc _ => by rw [put_ne hc, Al hx], fun x hx _ n e => by cases e; omega⟩
  exact Cl.put (fun x hx => by rw [Ag] at hx; rw [Cq, if_neg (by omega)]; exact hC x (by omega)) (by rw [Ag]; omega)
 ·have hrs : sp ≠ r := by rintro rfl; have := hR.hp; rw [h5] at this; cases this
  simp only [sem, elemsV, if_true, h5]
  refine ⟨by decide, tt, tt, by rw [F1]; omega, by simp; omega, ?_, ?_⟩
  ·simp only [List.all_cons, List.all_nil, Bool.and_true]
   exact Rt.cs_ones ht
  rw [if_neg (by simp), hfl, Nat.zero_mul, List.drop_zero, List.take_of_length_le (by rw [F1]; omega), ← hct]
  have hn : W.nx ≠ sp := by omega
  refine hk _ _ ⟨put_at, by rw [Ae, D2]; omega, .inr ⟨W.nx, hlo, by rw [Ae, D2]; omega, by rw [lap]; rfl, by simp, by rw [put_ne hn, Nj]⟩, hok', hso⟩ rfl rfl (by rw [Eg hrs (by omega)]; exact hR.hp) ⟨?_, by rw [Ae, D2]; omega, fun x hx hc hnr => by
   have hxr : x ≠ r := fun e => hnr l.length (by rw [e])
   rw [put_ne hc, Eg hxr (by omega)], fun x hx _ n e => by cases e; omega⟩
  exact Cl.put (fun x hx => by rw [D2] at hx; rw [Eg (by omega) (by omega)]; exact hC x (by omega)) (by rw [D2]; omega)
theorem F4 (l : List Mi) (k v : Int) : (addsOf l).count (k, v) = tmN l ⟨false, k, v⟩ := by
 unfold addsOf tmN
 induction l with
 | nil => rfl
 | cons m l ih =>
  rw [List.countP_cons, ← ih]
  cases m with
  | mk b k' v' =>
   cases b with
   | true => simp
   | false => simp [List.count_cons]
theorem has_tm {t : Tx} {k v : Int} : S.has t k v = true ↔ 1 ≤ tmN t.ms ⟨false, k, v⟩ := by
 rw [Nv, decide_eq_true_eq, ← F4, ← List.count_pos_iff]; exact Iff.rfl
theorem O0 {s : Str} {k v : Int} : tmS s ⟨false, k, v⟩ = 0 ↔ who s k v = none := by
 induction s with
 | nil => simp [tmS, who]
 | cons t s ih =>
  have e : who (t :: s) k v = if S.has t k v = true then some t else who s k v := by
   unfold who; rw [List.find?_cons]; cases S.has t k v <;> rfl
  have e2 : tmS (t :: s) ⟨false, k, v⟩ = tmN t.ms ⟨false, k, v⟩ + tmS s ⟨false, k, v⟩ := by simp [tmS]
  rw [e, e2]
  by_cases h : S.has t k v = true
  ·have := has_tm.1 h
   rw [if_pos h]
   constructor
   ·intro h; omega
   ·intro h; cases h
  ·have h0 : ¬ 1 ≤ tmN t.ms ⟨false, k, v⟩ := fun x => h (has_tm.2 x)
   rw [if_neg h, ← ih]; omega
theorem Pq {s : Str} {l : List Mi} : (∀ m ∈ l, m.read = false → tmN l m + tmS s m ≤ 1) ↔ freshB s l = true := by
 unfold freshB
 rw [Bool.and_eq_true, decide_eq_true_eq, List.all_eq_true]
 have hpos : ∀ m ∈ l, m.read = false → 1 ≤ tmN l m := fun m hm hr => by
  cases m with
  | mk b k v =>
   obtain rfl : b = false := hr
   rw [← F4]
   exact List.count_pos_iff.2 (E2.2 ⟨_, hm, rfl, rfl, rfl⟩)
 constructor
 ·intro h
  refine ⟨List.nodup_iff_count.2 fun a => ?_, fun a ha => ?_⟩
  ·by_cases ha : a ∈ addsOf l
   ·obtain ⟨m, hm, h1, h2, h3⟩ := E2.1 (show (a.1, a.2) ∈ addsOf l from ha)
    have := h m hm h1
    have e : m = ⟨false, a.1, a.2⟩ := by cases m; simp_all
    rw [e] at this
    rw [show a = (a.1, a.2) from rfl, F4]; omega
   ·rw [List.count_eq_zero_of_not_mem ha]; omega
  ·obtain ⟨m, hm, h1, h2, h3⟩ := E2.1 (show (a.1, a.2) ∈ addsOf l from ha)
   have := h m hm h1
   have h0 := hpos m hm h1
   have e : m = ⟨false, a.1, a.2⟩ := by cases m; simp_all
   rw [e] at this h0
   have : tmS s ⟨false, a.1, a.2⟩ = 0 := by omega
   rw [O0.1 this]; rfl
 ·rintro ⟨h1, h2⟩ m hm hr
  cases m with
  | mk b k v =>
   obtain rfl : b = false := hr
   have hin := E2.2 ⟨_, hm, rfl, rfl, rfl⟩
   have c1 := List.nodup_iff_count.1 h1 (k, v)
   rw [F4] at c1
   have := h2 _ hin
   rw [Option.isNone_iff_eq_none] at this
   rw [O0.2 this]; exact c1
theorem Wh (hP : PE E) {W : AW} {sp lo : Nat} {h : V} {l : List Rt} (hR : Rs W sp h l lo) {c i : Int} {lv : V} {ml : List Mi} (hv : isMs lv ml) (hm : ∀ m ∈ ml, m.ok) (hml : ml.length ≤ 8) {A : AFr} {Q : Exit → AFr → AW → Prop}
  (a0 : A 0 = some (.ptr sp 0)) (a1 : A 1 = some (.int .u8 c)) (a2 : A 2 = some (.int .u16 i)) (a3 : A 3 = some lv) (a9 : A 9 = some (.int .i64 0))
  (hret : ∀ A', A' 8 = some (.int .i64 8) → freshB (txs l) ml = false → Q .ret A' W)
  (hq : ∀ A', A' 0 = some (.ptr sp 0) → A' 1 = some (.int .u8 c) → A' 2 = some (.int .u16 i) → A' 3 = some lv → freshB (txs l) ml = true → Q (.exit 0) A' W) : awp E (.loop c_rbeg_0) Q A W := by
 have hms : isS 3 lv (ml.map Mi.V) := hv
 rw [Ai]
 refine alp (fun (k : Nat) A1 W1 => A1 0 = some (.ptr sp 0) ∧ A1 1 = some (.int .u8 c) ∧ A1 2 = some (.int .u16 i) ∧ A1 3 = some lv ∧ A1 9 = some (.int .i64 k) ∧ k ≤ ml.length ∧ W1 = W ∧ ∀ j (hj : j < ml.length), j < k → ml[j].read = false → tmN ml ml[j] + tmS (txs l) ml[j] ≤ 1) (fun k => ml.length - k) 0
  ⟨a0, a1, a2, a3, a9, Nat.zero_le _, rfl, fun j _ hj => by omega⟩ ?_
 rintro k A1 W1 ⟨g0, g1, g2, g3, g9, gk, rfl, gj⟩ _
 by_cases hk : k < ml.length
 ·have hmi : ∀ K, sem E (.idxp 3) [lv, .int .i64 (k : Int)] W1 K = K (.cptr [.bool (ml[k]).read, .int .u8 (ml[k]).key, .int .u16 (ml[k]).v]) W1 := fun K => hms.idx (C5 hk)
  have hmk := gmm hk
  have hmo := hm _ hmk
  have hgo : (ml[k].read = false → tmN ml ml[k] + tmS (txs l) ml[k] ≤ 1) → ∀ j (hj : j < ml.length), j < k + 1 → ml[j].read = false → tmN ml ml[j] + tmS (txs l) ml[j] ≤ 1 := fun h j hj hjk => by
   by_cases e1 : j = k
   ·subst e1; exact h
   ·exact gj j hj (by omega)
  generalize ml[k] = m at hmi hmo hmk hgo
  have hld : ∀ K, sem E (.load true 3) [.cptr [.bool m.read, .int .u8 m.key, .int .u16 m.v]] W1 K = K m.V W1 := fun K => rfl
  cases hmr : m.read with
  | true =>
   rw [hmr] at hmi
   simp (disch:=omega) only [BS, Am, Ad, ↓reduceIte, nE, BM, BD, nA, nL, c_rbeg_0, g3, g9, hms.len, lmp, clt, hk, dT, hmi]
   repeat (rw [Aa]; simp (disch:=omega) only [BS, BC, Ad, ↓reduceIte, nE, reduceCtorEq, BM, g0, g1, g2, g3, g9, Ah])
   exact ⟨k + 1, ⟨tt, tt, tt, tt, tt, by omega, tt, hgo (fun h => by rw [hmr] at h; cases h)⟩, by omega, lr _⟩
  | false =>
   have hmi2 := hmi
   rw [hmr] at hmi2
   have hmV : m.V = .agg [.bool false, .int .u8 m.key, .int .u16 m.v] := by rw [Mi.V, hmr]
   have hld2 : ∀ K, sem E (.load true 3) [.cptr [.bool false, .int .u8 m.key, .int .u16 m.v]] W1 K = K m.V W1 := fun K => by rw [hmV]; rfl
   simp (disch:=omega) only [BS, Am, Ad, ↓reduceIte, nE, BM, BD, nA, nL, c_rbeg_0, g3, g9, hms.len, lmp, clt, hk, dT, hmi2]
   repeat (rw [Aa]; simp (disch:=omega) only [BS, BC, ↓reduceIte, nE, reduceCtorEq, g0, g3, g9, hmi2, hld2, hms.frz, mi_frz])
   refine pc (Za hP _ hR hv hm hml hmo) ?_
   by_cases h1 : tmN ml m + tmS (txs l) m ≤ 1
   ·simp (disch:=omega) only [BS]
    repeat (rw [Aa]; simp (disch:=omega) only [BS, BC, Ad, ↓reduceIte, nE, reduceCtorEq, show decide ((((tmN ml m + tmS (txs l) m : Nat)) : Int) > 1) = false from decide_eq_false (by omega), g0, g1, g2, g3, g9, Ah])
    exact ⟨k + 1, ⟨tt, tt, tt, tt, tt, by omega, tt, hgo (fun _ => h1)⟩, by omega, lr _⟩
   ·simp (disch:=omega) only [BS]
    repeat (rw [Aa]; simp (disch:=omega) only [BS, Am, Ad, ↓reduceIte, nE, show decide ((((tmN ml m + tmS (txs l) m : Nat)) : Int) > 1) = true from decide_eq_true (by omega)])
    refine hret _ rfl ?_
    rw [← Bool.not_eq_true, ← Pq]
    exact fun h => h1 (h m hmk hmr)
 ·obtain rfl : k = ml.length := by omega
  simp (disch:=omega) only [BX, ↓reduceIte, nE, c_rbeg_0, g3, g9, hms.len, lmp, clt, hk, dF]
  refine hq _ g0 g1 g2 g3 (Pq.1 fun m hm hr => ?_)
  obtain ⟨j, hj, rfl⟩ := List.getElem_of_mem hm
  exact gj j hj hj hr
theorem rbeg_c (hP : PE E) (W : AW) {sp lo : Nat} {h : V} {l : List Rt} (hR : Rs W sp h l lo) (hlo : lo ≤ W.nx) (c i : Int) (hc : 0 ≤ c ∧ c < 256) (hi : 0 ≤ i ∧ i < 65536) {lv : V} {ml : List Mi} (hv : isMs lv ml) (hm : ∀ m ∈ ml, m.ok) (hml : ml.length < 2 ^ 40) :
  ACalls E 38 [.ptr sp 0, .int .u8 c, .int .u16 i, lv] W fun Y W' => Y = .int .i64 (beginR (txs l) c i ml).2 ∧ ∃ h' l', Rs W' sp h' l' lo ∧ txs l' = (beginR (txs l) c i ml).1 ∧ FrR W h sp W' h' := by
 refine ACalls.of hP Tryz.func38 Zq (by simp) fun _ hok => ?_
 have hms : isS 3 lv (ml.map Mi.V) := hv
 have f1 := hms.cells
 have hC := Je hok
 have hsm := hR.small
 have htl : (txs l).length = l.length := by simp [txs]
 simp only [BZ, ↓reduceIte, nE, BM, BD, nA, nL, c_rbeg, f1]
 refine pc (rMayB_c hP _ c i hv hm (by omega)) ?_
 cases hB : okB c ml with
 | false =>
  simp only [BX, ↓reduceIte, BD]
  have : beginR (txs l) c i ml = (txs l, 4) := by rw [beginR, hB, if_neg (by decide)]
  rw [this]
  exact ⟨_, rfl, _, _, .weak Ab, lr _, rfl, h, l, hR, rfl, FrR.refl hC⟩
 | true =>
  have hml8 : ml.length ≤ 8 := by
   simp only [okB, Bool.and_eq_true, decide_eq_true_eq] at hB; exact hB.1.1.2
  have hB8 : (∀ m ∈ ml, badMi m = false) ∧ 1 ≤ ml.length := by
   simp only [okB, Bool.and_eq_true, decide_eq_true_eq, Bool.not_eq_true', List.any_eq_false] at hB
   exact ⟨fun m hmm => by have := hB.1.2 m hmm; simpa using this, hB.1.1.1⟩
  have hbe : ∀ r, (if i ≤ lastId (txs l) then (txs l, (8 : Int)) else if freshB (txs l) ml = true then (txs l ++ [⟨i, c, ml, [], 0⟩], 0) else (txs l, 8)) = r → beginR (txs l) c i ml = r := fun r hr => by rw [beginR, hB, if_pos rfl]; exact hr
  -- the rest, once the last ID is below
  have fin : ∀ (A1 : AFr), A1 0 = some (.ptr sp 0) → A1 1 = some (.int .u8 c) → A1 2 = some (.int .u16 i) → A1 3 = some lv → A1 9 = some (.int .i64 0) → lastId (txs l) < i → awp E (.loop c_rbeg_0) (blockQ 0 (thenQ (awp E (tl1 (tl1 (tl1 (tl1 c_rbeg)))) (retQ [.tmp 8] W.nx fun Y W' => Y = .int .i64 (beginR (txs l) c i ml).2 ∧ ∃ h' l', Rs W' sp h' l' lo ∧ txs l' = (beginR (txs l) c i ml).1 ∧ FrR W h sp W' h')) (retQ [.tmp 8] W.nx fun Y W' => Y = .int .i64 (beginR (txs l) c i ml).2 ∧ ∃ h' l', Rs W' sp h' l' lo ∧ txs l' = (beginR (txs l) c i ml).1 ∧ FrR W h sp W' h'))) A1 W := by
   intro A1 g0 g1 g2 g3 g9 hlast
   refine Wh hP hR hv hm hml8 g0 g1 g2 g3 g9 ?_ ?_
   ·intro A' a8 hf
    have := hbe (txs l, 8) (by rw [if_neg (by omega), hf, if_neg (by decide)])
    rw [this]
    simp only [BS, BC, a8]
    exact ⟨_, rfl, _, _, .weak Ab, lr _, rfl, h, l, hR, rfl, FrR.refl hC⟩
   ·intro A' u0 u1 u2 u3 hf
    have hbr := hbe (txs l ++ [⟨i, c, ml, [], 0⟩], 0) (by rw [if_neg (by omega), hf, if_pos rfl])
    rw [hbr]
    have hto : (⟨⟨i, c, ml, [], 0⟩, lv, .nilsl⟩ : Rt).ok := ⟨⟨hi.1, hi.2, hc.1, hc.2, hm, hml8, by simp, by simp, (by show (0 : Int) ≤ 0 ∧ (0 : Int) < 4; decide)⟩, hv, nilLs, rfl⟩
    have hso : SOk (txs (l ++ [⟨⟨i, c, ml, [], 0⟩, lv, .nilsl⟩])) := by
     rw [txs, mpp]; exact app_ok hR.so hto.tx hlast
    have hbs : ∀ (W : AW) K, sem E (.bslice 5 1 (.agg [.int .u16 0, .int .u8 0, .nilsl, .nilsl, .int .u8 0]) [0]) [.agg [.int .u16 i, .int .u8 c, lv, .nilsl, .int .u8 0]] W K = K (.sl 5 true [(⟨⟨i, c, ml, [], 0⟩, lv, .nilsl⟩ : Rt).V]) W := fun W K => by
     simp [sem, rsem, tsem, fillE, V.cells, Rt.V, Rt.cs]
    simp only [BZ, ↓reduceIte, nE, reduceCtorEq, BM, BD, nA, nL, tl1, c_rbeg, u0, u1, u2, u3, hR.hp, f1, hbs]
    refine app5x hR hto hC hlo hso ?_
    intro h' W' q1 q2 q3 q4 q5
    simp only [BZ, ↓reduceIte, nE, BM, BD, nL, q2, q3, q4]
    exact ⟨_, rfl, _, _, .weak Ab, by have := q5.nx; exact this, rfl, h', _, q1, by rw [txs, mpp]; rfl, q5⟩
  by_cases hl0 : l.length = 0
  ·obtain rfl : l = [] := List.eq_nil_of_length_eq_zero hl0
   simp only [BX, ↓reduceIte, reduceCtorEq, BM, BD, hR.hp, hR.len, show decide ((((0 : Nat) : Int)) > 0) = false by decide]
   repeat (rw [Aa]; simp only [BX, ↓reduceIte, nE, BM])
   exact fin _ rfl rfl rfl rfl rfl (by show (-1 : Int) < i; omega)
  ·have hpos : decide (((l.length : Nat) : Int) > 0) = true := decide_eq_true (by omega)
   obtain ⟨r, r1, r2, rfl, r4⟩ := hR.at (show l.length - 1 < l.length by omega)
   have hsub : IntKind.i64.wrap ((l.length : Int) - 1) = ((l.length - 1 : Nat) : Int) := by
    rw [show ((l.length : Int) - 1) = ((l.length - 1 : Nat) : Int) by omega]; exact IntWalk.i64_in _ (by omega)
   have hlast : lastId (txs l) = l[l.length - 1].tx.id := by
    unfold lastId
    rw [txs, List.getLast?_map, List.getLast?_eq_getElem?, gEg (by omega)]; rfl
   by_cases hge : l[l.length - 1].tx.id ≥ i
   ·have := hbe (txs l, 8) (by rw [if_pos (by rw [hlast]; omega)])
    rw [this]
    simp only [BX, ↓reduceIte, reduceCtorEq, BM, BD, hR.hp, hR.len, hpos]
    repeat (rw [Aa]; simp only [BX, ↓reduceIte, nE, reduceCtorEq, BM, BD, hR.hp, hR.len, hsub, ix5 (show l.length - 1 < l.length by omega), ldc0 r4 (show l.length - 1 < l.length by omega), hge, dT])
    exact ⟨_, rfl, _, _, .weak Ab, lr _, rfl, _, l, hR, rfl, FrR.refl hC⟩
   ·simp only [BX, ↓reduceIte, reduceCtorEq, BM, BD, hR.hp, hR.len, hpos]
    repeat (rw [Aa]; simp only [BX, ↓reduceIte, nE, reduceCtorEq, BM, BD, hR.hp, hR.len, hsub, ix5 (show l.length - 1 < l.length by omega), ldc0 r4 (show l.length - 1 < l.length by omega), hge, dF])
    exact fin _ rfl rfl rfl rfl rfl (by rw [hlast]; omega)
def c_rEnd : AC := (.r [.v 6 (.int .i64 0)] (.r [.m 8 0,.m 9 1,.b 10 (.call 54) 8 9,.m 7 10] (.seq (.r [.m 11 7,.a 12 (.bin .lss) 11 0,.m 13 12,.M 14 0 13 false,.U 15 .nilck 14 13 false,.U 16 (.fld 0) 15 13 false,.U 17 (.load false 1) 16 13 false,.M 18 7 13 false,.B 19 (.idxp 5) 17 18 13 false,.U 20 (.fld 4) 19 13 false,.U 21 (.load false 1) 20 13 false,.P 22 (.bin .neq) [.t 21,.c (.int .u8 0)] 13 false,.p 23 .pick [.t 13,.T,.t 22]] (.cond (.t 23) (.r [.v 6 (.int .i64 7)] .ret) .skip)) (.r [.m 24 0,.u 25 .nilck 24,.u 26 (.fld 0) 25,.u 27 (.load false 1) 26,.m 28 7,.m 29 2,.b 30 (.idxp 5) 27 28,.u 31 (.fld 4) 30,⟨none,.store 1, [.t 31,.t 29], none⟩] (.r [.v 6 (.int .i64 0)] .ret)))))
theorem Zr : compF Tryz.prog Tryz.f35 ⟨true, false, []⟩ = some (c_rEnd, [.tmp 6], 32) := by kernel_rfl
def c_rCommit_0 : AC := (.seq (.r [.m 31 9,.m 32 0,.u 33 .nilck 32,.u 34 (.fld 0) 33,.u 35 (.load false 1) 34,.m 36 7,.b 37 (.idxp 5) 35 36,.u 38 (.fld 2) 37,.u 39 (.load false 1) 38,.u 40 (.len 1 0) 39,.b 41 (.bin .lss) 31 40] (.w 41 0)) (.seq (.block 1 (.r [.m 44 0,.u 45 .nilck 44,.u 46 (.fld 0) 45,.u 47 (.load false 1) 46,.m 48 7,.b 49 (.idxp 5) 47 48,.u 50 (.fld 2) 49,.u 51 (.load false 1) 50,.m 52 9,.b 53 (.idxp 3) 51 52,.u 54 (.fld 0) 53,.u 55 (.load false 1) 54] (.cond (.t 55) (.reg [.m 56 8,.a 57 (.bin .add) 56 1,.m 8 57]) .skip))) (.reg [.m 42 9,.a 43 (.bin .add) 42 1,.m 9 43])))
def c_rCommit : AC := (.r [.v 6 (.int .i64 0)] (.r [.m 10 0,.m 11 1,.b 12 (.call 54) 10 11,.m 7 12] (.seq (.r [.m 13 7,.a 14 (.bin .lss) 13 0,.m 15 14,.M 16 0 15 false,.U 17 .nilck 16 15 false,.U 18 (.fld 0) 17 15 false,.U 19 (.load false 1) 18 15 false,.M 20 7 15 false,.B 21 (.idxp 5) 19 20 15 false,.U 22 (.fld 4) 21 15 false,.U 23 (.load false 1) 22 15 false,.P 24 (.bin .neq) [.t 23,.c (.int .u8 0)] 15 false,.p 25 .pick [.t 15,.T,.t 24]] (.cond (.t 25) (.r [.v 6 (.int .i64 7)] .ret) .skip)) (.seq (.r [.m 26 1,.m 27 2,.p 28 (.build [.int .u8 0,.int .u8 0,.int .u16 0,.int .u8 0,.int .u8 0,.int .u8 0,.int .u16 0,.int .u16 0,.int .u8 0,.int .u16 0,.nilsl,.nilsl,.int .u8 0,.int .i64 0,.int .i64 0,.int .i64 0,.bool false,.bool false,.bool false] [(0, 1), (2, 1), (11, 1)]) [.c (.int .u8 6),.t 26,.t 27],.u 29 (.call 55) 28,.u 30 (.un .not) 29] (.cond (.t 30) (.r [.v 6 (.int .i64 4)] .ret) .skip)) (.r [.v 8 (.int .i64 0)] (.seq (.r [.v 9 (.int .i64 0)] (.block 0 (.loop c_rCommit_0))) (.seq (.r [.m 58 8,.m 59 2,.u 60 (.len 1 0) 59,.b 61 (.bin .neq) 58 60] (.cond (.t 61) (.r [.v 6 (.int .i64 10)] .ret) .skip)) (.r [.m 62 0,.u 63 .nilck 62,.u 64 (.fld 0) 63,.u 65 (.load false 1) 64,.m 66 7,.b 67 (.idxp 5) 65 66,.u 68 (.fld 4) 67,⟨none,.store 1, [.t 68,.c (.int .u8 1)], none⟩] (.r [.m 69 0,.u 70 .nilck 69,.u 71 (.fld 0) 70,.u 72 (.load false 1) 71,.m 73 7,.m 74 2,.b 75 (.idxp 5) 72 73,.u 76 (.fld 3) 75,⟨none,.store 1, [.t 76,.t 74], none⟩] (.r [.v 6 (.int .i64 0)] .ret))))))))))
theorem Pz : compF Tryz.prog Tryz.f31 ⟨true, false, []⟩ = some (c_rCommit, [.tmp 6], 77) := by kernel_rfl
theorem Vr (s : Str) (i : Int) : (∃ (k : Nat) (hk : k < s.length), atR s i = k ∧ s[k].id = i ∧ find s i = some s[k]) ∨ (atR s i = -1 ∧ find s i = none) := by
 induction s with
 | nil => exact .inr ⟨rfl, rfl⟩
 | cons t s ih =>
  by_cases h : t.id = i
  ·refine .inl ⟨0, by simp, ?_, h, ?_⟩
   ·exact Ez (k := 0) (by simp) (by simpa using h) (fun j hj h0 => by omega)
   ·simp [find, h]
  ·have hf : find (t :: s) i = find s i := by simp [find, h]
   rw [hf]
   rcases ih with ⟨k, hk, h1, h2, h3⟩ | ⟨h1, h2⟩
   ·refine .inl ⟨k + 1, by simpa using hk, ?_, by simpa using h2, by simpa using h3⟩
    unfold atR idxV at h1 ⊢
    rw [List.findIdx?_cons, decide_eq_false h]
    cases hx : s.findIdx? (fun t => decide (t.id = i)) with
    | none => rw [hx] at h1; have h1 : (-1 : Int) = k := h1; omega
    | some j =>
     rw [hx] at h1
     have h1 : (j : Int) = k := h1
     have : j = k := by omega
     subst this; rfl
   ·refine .inr ⟨?_, h2⟩
    unfold atR idxV at h1 ⊢
    rw [List.findIdx?_cons, decide_eq_false h]
    cases hx : s.findIdx? (fun t => decide (t.id = i)) with
    | none => rfl
    | some j => rw [hx] at h1; have h1 : (j : Int) = -1 := h1; omega
theorem Jr : ∀ {s : Str} {k : Nat} (hk : k < s.length) {x : Tx}, (s.Pairwise fun a b => a.id < b.id) → x.id = s[k].id → upd s x = s.set k x
 | t :: s, 0, _, x, hp, hx => by
  have : x.id = t.id := hx
  simp [upd, this]
 | t :: s, k + 1, hk, x, hp, hx => by
  have hk' : k < s.length := by simpa using hk
  have hlt := (List.pairwise_cons.1 hp).1 _ (gmm hk')
  have hx' : x.id = s[k].id := hx
  have hne : ¬ t.id = x.id := by omega
  have ih := Jr hk' (List.pairwise_cons.1 hp).2 hx'
  simp [upd, hne, ih]
theorem Tf {l : List Rt} {k j : Nat} (hk : k < l.length) (hj : j < 5) {x : V} {t : Rt} (ht : t.cs = (l[k].cs).set j x) : (cellsT l).take (k * 5 + j) ++ [x] ++ (cellsT l).drop (k * 5 + j + 1) = cellsT (l.set k t) := by
 have hset : (cellsT l).take (k * 5 + j) ++ [x] ++ (cellsT l).drop (k * 5 + j + 1) = (cellsT l).set (k * 5 + j) x := by
  rw [List.set_eq_take_append_cons_drop, if_pos (by rw [F1]; omega)]; simp
 rw [hset]
 clear hset
 induction l generalizing k with
 | nil => simp at hk
 | cons y l ih =>
  have h5 : y.cs.length = 5 := rfl
  have e : cellsT (y :: l) = y.cs ++ cellsT l := by simp [cellsT]
  cases k with
  | zero =>
   rw [e, List.set_append_left _ _ (by omega)]
   have ht' : t.cs = y.cs.set j x := ht
   show _ = cellsT (t :: l)
   have e2 : cellsT (t :: l) = t.cs ++ cellsT l := by simp [cellsT]
   rw [e2, ht', Nat.zero_mul, Nat.zero_add]
  | succ k =>
   have hk' : k < l.length := by simpa using hk
   rw [e, List.set_append_right _ _ (by omega)]
   have e2 : cellsT ((y :: l).set (k + 1) t) = y.cs ++ cellsT (l.set k t) := by simp [cellsT]
   rw [e2, ← ih hk' ht]
   congr 2; omega
theorem st5 {W : AW} {K : V → AW → Prop} {r k j : Nat} {l : List Rt} {x : V} {t : Rt} (hg : W.get r = some (.vec 5 (cellsT l))) (hk : k < l.length) (hj : j < 5) (h1 : x.cells = [x]) (h2 : x.one = true) (ht : t.cs = (l[k].cs).set j x) : sem E (.store 1) [.vptr r (k * 5 + j), x] W K = K .undef (W.put r (.vec 5 (cellsT (l.set k t)))) := by
 have h3 : k * 5 + j + 1 ≤ (cellsT l).length := by rw [F1]; omega
 rw [← Tf hk hj ht]
 simp [sem, hg, h1, h2, h3]
theorem M0 {l : List Rt} {k : Nat} {t : Rt} : txs (l.set k t) = (txs l).set k t.tx := by simp [txs, List.map_set]
theorem Rs.put {W : AW} {sp lo r k : Nat} {l : List Rt} {t : Rt} (hR : Rs W sp (.slr r 0 l.length 5) l lo) (r1 : lo ≤ r) (r2 : r < W.nx) (hk : k < l.length) (ht : t.ok) (hid : t.tx.id = l[k].tx.id) (r4 : W.get r = some (.vec 5 (cellsT l))) : Rs (W.put r (.vec 5 (cellsT (l.set k t)))) sp (.slr r 0 (l.set k t).length 5) (l.set k t) lo where
 hp := by rw [put_ne (by rintro rfl; have := hR.hp; rw [r4] at this; cases this)]; exact hR.hp.trans (by simp)
 lp := hR.lp
 el := .inr ⟨r, r1, r2, rfl, by
   intro h
   have h0 : l.length = 0 := by have := congrArg List.length h; rwa [List.length_set] at this
   omega, put_at⟩
 ok := fun x hx => by
  rcases List.mem_or_eq_of_mem_set hx with hx | rfl
  ·exact hR.ok x hx
  ·exact ht
 so := by
  rw [M0, ← Jr (by simpa [txs] using hk) hR.so.lt (by rw [hid]; simp [txs])]
  exact Yh hR.so ht.tx
theorem FrR.put {W : AW} {sp r n : Nat} {o : AObj} (hC : Cl W) (hr : r < W.nx) : FrR W (.slr r 0 n 5) sp (W.put r o) (.slr r 0 n 5) :=
 ⟨hC.put hr, by rw [Ae]; exact lr _, fun x _ _ hn => put_ne (fun e => hn n (by rw [e])), fun x _ hn m => hn m⟩
theorem Zb (hP : PE E) (W : AW) {sp lo : Nat} {h : V} {l : List Rt} (hR : Rs W sp h l lo) (i st : Int) (hst : 0 ≤ st ∧ st < 4) :
  ACalls E 35 [.ptr sp 0, .int .u16 i, .int .u8 st] W fun Y W' => Y = .int .i64 (endR (txs l) i st).2 ∧ ∃ l', Rs W' sp h l' lo ∧ txs l' = (endR (txs l) i st).1 ∧ FrR W h sp W' h := by
 refine ACalls.of hP Tryz.func35 Zr (by simp) fun _ hok => ?_
 have hC := Je hok
 have htl : (txs l).length = l.length := by simp [txs]
 simp only [BZ, ↓reduceIte, nE, reduceCtorEq, c_rEnd]
 refine pc (rAt_c hP _ hR i) ?_
 rcases Vr (txs l) i with ⟨k, hk, h1, h2, h3⟩ | ⟨h1, h2⟩
 ·rw [h1]
  have hkl : k < l.length := by omega
  obtain ⟨r, r1, r2, rfl, r4⟩ := hR.at hkl
  have hti : (txs l)[k] = l[k].tx := by simp [txs]
  rw [hti] at h2 h3
  have hto := hR.ok l[k] (gmm hkl)
  have hld := fun (K : V → AW → Prop) => ldc (E := E) (W := W) (K := K) (j := 4) (c := .int .u8 l[k].tx.st) r4 hkl (by decide) rfl
  by_cases h0 : l[k].tx.st = 0
  ·have hend : endR (txs l) i st = (upd (txs l) { l[k].tx with st := st }, 0) := by rw [endR, h3]; simp only [h0, if_true]
   rw [hend]
   let t' : Rt := { l[k] with tx := { l[k].tx with st := st } }
   have ht' : t'.ok := ⟨{ hto.tx with st := hst }, hto.ms, hto.ls, hto.bel⟩
   have hst5 := fun (K : V → AW → Prop) => st5 (E := E) (W := W) (K := K) (j := 4) (x := .int .u8 st) (t := t') r4 hkl (by decide) rfl rfl rfl
   rw [h0] at hld
   simp only [BS, Am, ↓reduceIte, show decide (((k : Nat) : Int) < 0) = false from decide_eq_false (by omega)]
   repeat (rw [Aa]; simp only [BX, ↓reduceIte, nE, reduceCtorEq, BM, BD, hR.hp, ix5 hkl, hld, bne_self_eq_false, hst5])
   have hlen : (l.set k t').length = l.length := by simp
   have hRs := hR.put r1 r2 hkl ht' rfl r4
   rw [hlen] at hRs
   refine ⟨_, rfl, _, _, .weak Ab, by rw [Ae]; exact lr _, rfl, l.set k t', hRs, ?_, FrR.put hC r2⟩
   rw [M0, Jr hk hR.so.lt (by rw [hti])]
  ·have hend : endR (txs l) i st = (txs l, 7) := by rw [endR, h3]; simp only [h0, if_false]
   rw [hend]
   have hne : (l[k].tx.st != 0) = true := by simpa using h0
   simp only [BS, Am, ↓reduceIte, show decide (((k : Nat) : Int) < 0) = false from decide_eq_false (by omega)]
   repeat (rw [Aa]; simp only [BX, ↓reduceIte, nE, reduceCtorEq, BM, BD, hR.hp, ix5 hkl, hld, hne])
   exact ⟨_, rfl, _, _, .weak Ab, lr _, rfl, l, hR, rfl, FrR.refl hC⟩
 ·have hend : endR (txs l) i st = (txs l, 7) := by rw [endR, h2]
  rw [h1, hend]
  simp only [BS, Am, ↓reduceIte, show decide ((-1 : Int) < 0) = true by decide]
  repeat (rw [Aa]; simp only [BX, ↓reduceIte, nE, BM])
  exact ⟨_, rfl, _, _, .weak Ab, lr _, rfl, l, hR, rfl, FrR.refl hC⟩
theorem Lx (hP : PE E) (W : AW) {sp lo : Nat} {h : V} {l : List Rt} (hR : Rs W sp h l lo) (i : Int) {r0 : V} {ls : List (Option (List Int))} (hr : isLs r0 ls) (hb : r0.bel 0 = true) (hll : ls.length < 2 ^ 40) (hn : ∀ o ∈ ls, ∀ n ∈ nums o, 0 ≤ n ∧ n < 65536) :
  ACalls E 31 [.ptr sp 0, .int .u16 i, r0] W fun Y W' => Y = .int .i64 (commitR (txs l) i ls).2 ∧ ∃ l', Rs W' sp h l' lo ∧ txs l' = (commitR (txs l) i ls).1 ∧ FrR W h sp W' h := by
 refine ACalls.of hP Tryz.func31 Pz (by simp) fun _ hok => ?_
 have hC := Je hok
 have htl : (txs l).length = l.length := by simp [txs]
 obtain ⟨xs, hxs, hxl, _⟩ := id hr
 have f1 := hxs.cells
 have f2 := hxs.one
 simp (disch:=omega) only [BZ, ↓reduceIte, nE, reduceCtorEq, c_rCommit]
 refine pc (rAt_c hP _ hR i) ?_
 rcases Vr (txs l) i with ⟨k, hk, h1, h2, h3⟩ | ⟨h1, h2⟩
 ·rw [h1]
  have hkl : k < l.length := by omega
  obtain ⟨r, r1, r2, rfl, r4⟩ := hR.at hkl
  have hti : (txs l)[k] = l[k].tx := by simp [txs]
  rw [hti] at h2 h3
  have hto := hR.ok l[k] (gmm hkl)
  have hld := fun (K : V → AW → Prop) => ldc (E := E) (W := W) (K := K) (j := 4) (c := .int .u8 l[k].tx.st) r4 hkl (by decide) rfl
  have hld2 := fun (K : V → AW → Prop) => ldc (E := E) (W := W) (K := K) (j := 2) (c := l[k].mv) r4 hkl (by decide) rfl
  by_cases h0 : l[k].tx.st = 0
  ·have hcm : ∀ x, (if okC ls = true then (if reads l[k].tx.ms = ls.length then (upd (txs l) { l[k].tx with st := 1, ls := ls }, (0 : Int)) else (txs l, 10)) else (txs l, 4)) = x → commitR (txs l) i ls = x := fun x hx => by rw [commitR, h3]; simp only [h0, if_true]; exact hx
   rw [h0] at hld
   simp (disch:=omega) only [BS, Am, ↓reduceIte, show decide (((k : Nat) : Int) < 0) = false from decide_eq_false (by omega)]
   repeat (rw [Aa]; simp (disch:=omega) only [BX, ↓reduceIte, nE, reduceCtorEq, BM, BD, nA, nL, hR.hp, ix5 hkl, hld, bne_self_eq_false, f1])
   refine pc (rMayC_c hP _ i hr (by omega)) ?_
   cases hC2 : okC ls with
   | false =>
    rw [hcm (txs l, 4) (by rw [hC2, if_neg (by decide)])]
    simp (disch:=omega) only [BX, ↓reduceIte, BD]
    exact ⟨_, rfl, _, _, .weak Ab, lr _, rfl, l, hR, rfl, FrR.refl hC⟩
   | true =>
    have hms : isS 3 l[k].mv (l[k].tx.ms.map Mi.V) := hto.ms
    have hml := hto.tx.msl
    have hokC : ls.length ≤ 8 ∧ ∀ o ∈ ls, (nums o).length ≤ 32 := by
     simp only [okC, Bool.and_eq_true, decide_eq_true_eq, Bool.not_eq_true', List.any_eq_false] at hC2
     exact ⟨hC2.1, fun o ho => by have := hC2.2 o ho; simpa [longL] using this⟩
    simp (disch:=omega) only [BX, ↓reduceIte, BD]
    rw [Ai]
    refine alp (fun (j : Nat) A1 W1 => A1 0 = some (.ptr sp 0) ∧ A1 2 = some r0 ∧ A1 7 = some (.int .i64 k) ∧ A1 8 = some (.int .i64 (reads (l[k].tx.ms.take j) : Nat)) ∧ A1 9 = some (.int .i64 j) ∧ j ≤ l[k].tx.ms.length ∧ W1 = W) (fun j => l[k].tx.ms.length - j) 0
     ⟨rfl, rfl, rfl, rfl, rfl, Nat.zero_le _, rfl⟩ ?_
    rintro j A1 W1 ⟨g0, g2, g7, g8, g9, gj, rfl⟩ _
    by_cases hj : j < l[k].tx.ms.length
    ·have hrt := Kh hj
     have hrl := Pp (l[k].tx.ms.take j)
     have hrl' : (l[k].tx.ms.take j).length ≤ j := by simp; omega
     have hmi : ∀ K, sem E (.idxp 3) [l[k].mv, .int .i64 (j : Int)] W1 K = K (.cptr [.bool (l[k].tx.ms[j]).read, .int .u8 (l[k].tx.ms[j]).key, .int .u16 (l[k].tx.ms[j]).v]) W1 := fun K => hms.idx (C5 hj)
     cases hmr : (l[k].tx.ms[j]).read with
     | false =>
      rw [hmr] at hmi
      rw [hmr, if_neg (by decide)] at hrt
      simp (disch:=omega) only [BX, ↓reduceIte, nE, reduceCtorEq, BM, BD, nA, nL, c_rCommit_0, g0, g2, g7, g8, g9, hR.hp, ix5 hkl, hld2, hms.len, lmp, clt, hj, dT, hmi, Ah]
      exact ⟨j + 1, ⟨tt, tt, tt, by rw [hrt]; rfl, tt, hj, tt⟩, by omega, lr _⟩
     | true =>
      rw [hmr] at hmi
      rw [hmr, if_pos rfl] at hrt
      simp (disch:=omega) only [BX, ↓reduceIte, nE, reduceCtorEq, BM, BD, nA, nL, c_rCommit_0, g0, g2, g7, g8, g9, hR.hp, ix5 hkl, hld2, hms.len, lmp, clt, hj, dT, hmi, Ah]
      exact ⟨j + 1, ⟨tt, tt, tt, by rw [hrt], tt, hj, tt⟩, by omega, lr _⟩
    ·obtain rfl : j = l[k].tx.ms.length := by omega
     rw [tkl] at g8
     by_cases hrd : reads l[k].tx.ms = ls.length
     ·have hne : ((reads l[k].tx.ms : Int) != xs.length) = false := by rw [hrd, hxl]; simp
      let t1 : Rt := { l[k] with tx := { l[k].tx with st := 1 } }
      let t2 : Rt := ⟨{ l[k].tx with st := 1, ls := ls }, l[k].mv, r0⟩
      have ht2 : t2.ok := ⟨{ hto.tx with st := (by show (0 : Int) ≤ 1 ∧ (1 : Int) < 4; decide), lsl := hokC.1, ls := fun o ho => ⟨hokC.2 o ho, hn o ho⟩ }, hto.ms, hr, hb⟩
      have ht1 : t1.ok := ⟨{ hto.tx with st := (by show (0 : Int) ≤ 1 ∧ (1 : Int) < 4; decide) }, hto.ms, hto.ls, hto.bel⟩
      have hs1 := fun (K : V → AW → Prop) => st5 (E := E) (W := W1) (K := K) (j := 4) (x := .int .u8 1) (t := t1) r4 hkl (by decide) rfl rfl rfl
      have hlen : (l.set k t1).length = l.length := by simp
      have hR1 := hR.put r1 r2 hkl ht1 rfl r4
      rw [hlen] at hR1
      have hkl1 : k < (l.set k t1).length := by omega
      have hk1 : (l.set k t1)[k] = t1 := by simp
      have hs2 := fun (K : V → AW → Prop) => st5 (E := E) (W := W1.put r (.vec 5 (cellsT (l.set k t1)))) (K := K) (r := r) (j := 3) (x := r0) (t := t2) put_at hkl1 (by decide) f1 f2 (by rw [hk1]; rfl)
      have hhp : (W1.put r (.vec 5 (cellsT (l.set k t1)))).get sp = some (.row [.slr r 0 l.length 5]) := hR1.hp
      rw [hcm _ (by rw [hC2, if_pos rfl, if_pos hrd])]
      simp (disch:=omega) only [BX, ↓reduceIte, nE, reduceCtorEq, BM, BD, c_rCommit_0, g0, g2, g7, g8, g9, hR.hp, ix5 hkl, hld2, hms.len, lmp, clt, hj, dF, hxs.len, hne, hs1, hhp, hs2]
      have hset : (l.set k t1).set k t2 = l.set k t2 := by simp
      rw [Jt, hset]
      have hRs := hR.put r1 r2 hkl ht2 rfl r4
      have hlen2 : (l.set k t2).length = l.length := by simp
      rw [hlen2] at hRs
      refine ⟨_, rfl, _, _, .weak Ab, by rw [Ae]; exact lr _, rfl, l.set k t2, hRs, ?_, FrR.put hC r2⟩
      rw [M0, Jr hk hR.so.lt (by rw [hti])]
     ·have hne : ((reads l[k].tx.ms : Int) != xs.length) = true := by rw [hxl]; simpa using fun h : (reads l[k].tx.ms : Int) = ls.length => hrd (by omega)
      rw [hcm (txs l, 10) (by rw [hC2, if_pos rfl, if_neg hrd])]
      simp (disch:=omega) only [BX, ↓reduceIte, nE, reduceCtorEq, BM, BD, c_rCommit_0, g0, g2, g7, g8, g9, hR.hp, ix5 hkl, hld2, hms.len, lmp, clt, hj, dF, hxs.len, hne]
      exact ⟨_, rfl, _, _, .weak Ab, lr _, rfl, l, hR, rfl, FrR.refl hC⟩
  ·have hend : commitR (txs l) i ls = (txs l, 7) := by rw [commitR, h3]; simp only [h0, if_false]
   rw [hend]
   have hne : (l[k].tx.st != 0) = true := by simpa using h0
   simp (disch:=omega) only [BS, Am, ↓reduceIte, show decide (((k : Nat) : Int) < 0) = false from decide_eq_false (by omega)]
   repeat (rw [Aa]; simp (disch:=omega) only [BX, ↓reduceIte, nE, reduceCtorEq, BM, BD, hR.hp, ix5 hkl, hld, hne])
   exact ⟨_, rfl, _, _, .weak Ab, lr _, rfl, l, hR, rfl, FrR.refl hC⟩
 ·have hend : commitR (txs l) i ls = (txs l, 7) := by rw [commitR, h2]
  rw [h1, hend]
  simp (disch:=omega) only [BS, Am, ↓reduceIte, show decide ((-1 : Int) < 0) = true by decide]
  repeat (rw [Aa]; simp (disch:=omega) only [BX, ↓reduceIte, nE, BM])
  exact ⟨_, rfl, _, _, .weak Ab, lr _, rfl, l, hR, rfl, FrR.refl hC⟩
end Go.AL.S
namespace Go.AL.S
open Go Go.AL Go.Proofs
variable {E : Env}
theorem new_n (hP : PE E) (W : AW) : ACalls E 27 [] W fun Y W' => ∃ p ra rw, Y = .ptr p 0 ∧ Nw W W' p ra rw [] := by
 refine ACalls.of hP Tryz.func27 ok7e (by simp) fun _ hok => ?_
 refine Af hok ?_
 simp only [c7, BZ, ↓reduceIte, nE, BM, BD, nA, nL]
 refine ⟨_, rfl, _, _, .weak Ab, ?_, rf W.nx 2, rf W.nx 0, rf W.nx 1, rfl, ⟨?_, ?_, ⟨[], 0, ?_, ⟨(fun _ h => by cases h), fun _ _ => rfl⟩⟩, ?_, ?_, ?_, ?_, ⟨by simp, List.Pairwise.nil⟩⟩, Ex.x0, ?_, ?_, ?_⟩
 ·simp [Ci, rf]
 ·simp only [BC, BM]; rfl
 ·simp only [BC, BM, BD]; rfl
 ·simp only [BC, BM]
 all_goals simp [rf, Ci]
structure Sx (W W' : AW) (p ra rw q : Nat) (s : Str) (os : Ods) : Prop where
 nw : Nw W W' p ra rw s
 od : Od W' q os
 hq : W.nx ≤ q
 ne : q ≠ p ∧ q ≠ ra ∧ q ≠ rw
def os0 : Ods := [[], [], [], [], [], [], [], []]
theorem m_rem6 {W : AW} {K : V → AW → Prop} {k : IntKind} {a : Int} : sem E (.bin .rem) [.int k a, .int k 6] W K = K (.int k (a.tmod 6)) W := by
 simp [sem, rsem, tsem, binI]
structure Fa (W W' : AW) (p ra rw q : Nat) : Prop where
 cl : Cl W'
 nx : W.nx ≤ W'.nx
 get : ∀ x, x < W.nx → x ≠ p → x ≠ ra → x ≠ rw → x ≠ q → W'.get x = W.get x
theorem Fa.of {W W1 W2 : AW} {p ra rw q : Nat} (h : Fr W1 W2 p ra rw) (hE : Ex W W1) (hp : p < W1.nx) (ha : ra < W1.nx) (hw : rw < W1.nx) : Fa W W2 p ra rw q :=
 ⟨h.cl hE.cl hp ha hw, by rw [h.nx]; exact hE.nx, fun x hx a b c _ => by rw [h.get x a b c]; exact hE.get x hx⟩
theorem Rk (o : Ods) {l : List Rd} {k : Nat} (hk : k < l.length) : takesR o (l.take (k + 1)) = ((takeR (takesR o (l.take k)).1 (l[k]).1 (nums (l[k]).2)).1, (takesR o (l.take k)).2 && ((takeR (takesR o (l.take k)).1 (l[k]).1 (nums (l[k]).2)).2.1 && decide ((takeR (takesR o (l.take k)).1 (l[k]).1 (nums (l[k]).2)).2.2 = 0))) := by
 rw [tao, gEg hk, Option.toList_some, Rl]
 simp only [takesR, Bool.and_true]
open Go Go.AL Go.AL.SE Go.Proofs
theorem Rs.noq {W : AW} {sp lo q : Nat} {h : V} {l : List Rt} {row : List V} (hR : Rs W sp h l lo) (hq : W.get q = some (.row row)) : ∀ n, h ≠ .slr q 0 n 5 := by
 intro n e
 rcases hR.el with ⟨e2, _⟩ | ⟨r, _, _, e2, _, hg⟩
 ·rw [e2] at e; cases e
 ·rw [e2] at e; cases e; rw [hg] at hq; cases hq
theorem Rs.fo {W W' : AW} {sp lo q : Nat} {h : V} {l : List Rt} {row : List V} (hR : Rs W sp h l lo) (hF : FrO W q W') (hq : W.get q = some (.row row)) (hne : sp ≠ q) : Rs W' sp h l lo where
 hp := (hF.get sp hR.lp hne).trans hR.hp
 lp := by have := hR.lp; have := hF.nx; omega
 el := by
  rcases hR.el with h | ⟨r, h1, h2, h3, h4, h5⟩
  ·exact .inl h
  ·exact .inr ⟨r, h1, by have := hF.nx; omega, h3, h4, by rw [hF.get r h2 (by rintro rfl; rw [hq] at h5; cases h5)]; exact h5⟩
 ok := hR.ok
 so := hR.so
theorem Ro.to {W W' : AW} {q lo N : Nat} {L : List (List (List Int))} {cs : List V} {es : List (List V)} (hO : Ro W q L lo cs es N) (hx : W.nx ≤ W'.nx) (hq : W'.get q = W.get q) (hg : ∀ r, lo ≤ r → r < W.nx → (∃ ys, W.get r = some (.buf true 1 ys)) → W'.get r = W.get r) : Ro W' q L lo cs es N :=
 ⟨hq.trans hO.hp, by have := hO.lp; omega, hO.c8, hO.l8, hO.e8, fun k a b c => (hO.ls k a b c).to hx hg, hO.rg⟩
theorem Ro.fr {W W' : AW} {q lo N sp lo' : Nat} {L : List (List (List Int))} {cs : List V} {es : List (List V)} {h h' : V} {l : List Rt} (hO : Ro W q L lo cs es N) (hR : Rs W sp h l lo') (hF : FrR W h sp W' h') (hne : sp ≠ q) : Ro W' q L lo cs es N :=
 hO.to hF.nx (hF.get q hO.lp (Ne.symm hne) (hR.noq hO.hp)) fun r _ h2 ⟨ys, hy⟩ => hF.get r h2 (by rintro rfl; have := hR.hp; rw [hy] at this; cases this) (fun n e => by
  rcases hR.el with ⟨e2, _⟩ | ⟨r', _, _, e2, _, hg⟩
  ·rw [e2] at e; cases e
  ·rw [e2] at e; cases e; rw [hg] at hy; cases hy)
set_option maxHeartbeats 4000000
def c_act_0 : AC := (.seq (.r [.m 43 9,.m 44 8,.u 45 (.len 1 0) 44,.b 46 (.bin .lss) 43 45] (.w 46 1)) (.seq (.block 2 (.seq (.par (.step 0 (.u 49 (.fld 1) 2) (.step 2 (.m 51 8) (.step 3 (.m 52 9) (.step 7 (.m 56 8) (.step 8 (.m 57 9) (.step 1 (.u 50 (.load false 1) 49) (.step 4 (.b 53 (.idxp 2) 51 52) (.step 5 (.u 54 (.fld 0) 53) (.step 6 (.u 55 (.load false 1) 54) (.step 9 (.b 58 (.idxp 2) 56 57) (.step 10 (.u 59 (.fld 1) 58) (.step 11 (.u 60 (.load false 1) 59) (.step 12 (.p 61 (.call 33) [.t 50,.t 55,.t 60]) .done)))))))))))))) (.par (.step 0 (.u 62 (.fld 3) 2) (.step 2 (.m 64 8) (.step 3 (.m 65 9) (.step 7 (.m 69 8) (.step 8 (.m 70 9) (.step 1 (.u 63 (.load false 1) 62) (.step 4 (.b 66 (.idxp 2) 64 65) (.step 5 (.u 67 (.fld 0) 66) (.step 6 (.u 68 (.load false 1) 67) (.step 9 (.b 71 (.idxp 2) 69 70) (.step 10 (.u 72 (.fld 1) 71) (.step 11 (.u 73 (.load false 1) 72) (.step 12 (.p 74 (.call 34) [.t 63,.t 68,.t 73]) .done)))))))))))))))) (.reg [.m 47 9,.a 48 (.bin .add) 47 1,.m 9 48])))
def c_act : AC := (.r [.u 2 .box 0,.u 3 .box 1,.v 4 (.int .i64 0)] (.seq (.r [.u 10 (.fld 0) 3,.u 11 (.load false 1) 10,.p 12 (.bin .rem) [.t 11,.c (.int .u8 6)]] (.block 0 (.seq (.r [.p 14 (.bin .eql) [.t 12,.c (.int .u8 2)],.m 13 14] (.cond (.t 13) .skip (.reg [.p 15 (.bin .eql) [.t 12,.c (.int .u8 3)],.m 13 15]))) (.cond (.t 13) (.r [.u 16 (.fld 0) 2,.u 17 (.load false 1) 16,.u 18 (.fld 2) 3,.u 19 (.load false 1) 18,.u 20 (.fld 4) 3,.u 21 (.load false 1) 20,.p 22 (.call 30) [.t 17,.t 19,.t 21],.m 5 22] (.r [.u 23 (.fld 2) 2,.u 24 (.load false 1) 23,.u 25 (.fld 2) 3,.u 26 (.load false 1) 25,.u 27 (.fld 4) 3,.u 28 (.load false 1) 27,.p 29 (.call 31) [.t 24,.t 26,.t 28]] (.seq (.r [.m 30 5,.a 31 (.bin .neq) 30 0] (.cond (.t 31) (.r [.m 32 5,.m 4 32] .ret) .skip)) (.r [.u 34 (.fld 0) 2,.u 35 (.load false 1) 34,.u 36 (.fld 2) 3,.u 37 (.load false 1) 36,.b 38 (.call 18) 35 37,.m 33 38,.u 39 (.ext 0) 33,.u 40 (.ext 1) 33,.p 6 (.alloc [.int .u16 0,.int .u8 0,.nilsl,.nilsl,.int .u8 0]) [],⟨none,.store 5, [.t 6,.t 39], none⟩,.m 7 40] (.r [.u 41 (.load true 5) 6,.u 42 (.call 32) 41,.m 8 42] (.seq (.r [.v 9 (.int .i64 0)] (.block 1 (.loop c_act_0))) (.r [.v 4 (.int .i64 0)] .ret))))))) (.r [.p 76 (.bin .eql) [.t 12,.c (.int .u8 4)],.m 75 76] (.cond (.t 75) (.r [.u 77 (.fld 2) 2,.u 78 (.load false 1) 77,.u 79 (.fld 2) 3,.u 80 (.load false 1) 79,.p 81 (.call 35) [.t 78,.t 80,.c (.int .u8 2)]] (.r [.u 82 (.fld 0) 2,.u 83 (.load false 1) 82,.u 84 (.fld 2) 3,.u 85 (.load false 1) 84,.b 86 (.call 36) 83 85,.m 4 86] .ret)) (.r [.p 88 (.bin .eql) [.t 12,.c (.int .u8 5)],.m 87 88] (.cond (.t 87) (.r [.u 89 (.fld 2) 2,.u 90 (.load false 1) 89,.u 91 (.fld 2) 3,.u 92 (.load false 1) 91,.p 93 (.call 35) [.t 90,.t 92,.c (.int .u8 3)]] (.r [.u 94 (.fld 0) 2,.u 95 (.load false 1) 94,.u 96 (.fld 2) 3,.u 97 (.load false 1) 96,.b 98 (.call 37) 95 97,.m 4 98] .ret)) .skip)))))))) (.r [.u 99 (.fld 2) 2,.u 100 (.load false 1) 99,.u 101 (.fld 1) 3,.u 102 (.load false 1) 101,.u 103 (.fld 2) 3,.u 104 (.load false 1) 103,.u 105 (.fld 3) 3,.u 106 (.load false 1) 105,.p 107 (.call 38) [.t 100,.t 102,.t 104,.t 106]] (.r [.u 108 (.fld 0) 2,.u 109 (.load false 1) 108,.u 110 (.fld 1) 3,.u 111 (.load false 1) 110,.u 112 (.fld 2) 3,.u 113 (.load false 1) 112,.u 114 (.fld 3) 3,.u 115 (.load false 1) 114,.p 116 (.call 39) [.t 109,.t 111,.t 113,.t 115],.m 4 116] .ret))))
theorem ok_acte : compF Tryz.prog Tryz.f10 ⟨false, false, []⟩ = some (c_act, [.tmp 4], 117) := by kernel_rfl
def c_fresh : AC := (.r [.p 0 (.alloc [.nilptr,.nilptr,.nilptr,.nilptr]) [],.v 1 (.bool false)] (.r [.p 3 (.call 27) [],.p 4 (.call 28) [],.p 5 (.build [.nilsl] []) [],.u 6 .box 5,.p 7 (.build [.nilsl,.nilsl,.nilsl,.nilsl,.nilsl,.nilsl,.nilsl,.nilsl] []) [],.u 8 .box 7,.p 9 (.build [.nilptr,.nilptr,.nilptr,.nilptr] [(0, 1), (1, 1), (2, 1), (3, 1)]) [.t 3,.t 4,.t 6,.t 8],.p 2 (.alloc [.nilptr,.nilptr,.nilptr,.nilptr]) [],⟨none,.store 4, [.t 2,.t 9], none⟩] (.seq (.par (.step 1 (.u 11 (.fld 0) 2) (.step 0 (.u 10 (.load true 4) 2) (.step 2 (.u 12 (.load false 1) 11) (.step 3 (.p 13 (.eqn true 0) [.t 12,.c (.nilptr)]) (.step 4 (.m 14 13) (.step 5 (.U 15 (.fld 1) 2 14 true) (.alt (.step 6 (.U 16 (.load false 1) 15 14 true) (.step 7 (.P 17 (.eqn true 0) [.t 16,.c (.nilptr)] 14 true) (.step 8 (.p 18 .pick [.t 14,.t 17,.F]) (.step 9 ⟨none,.store 4, [.t 0,.t 10], none⟩ (.step 10 (.m 1 18) .done))))) (.step 9 ⟨none,.store 4, [.t 0,.t 10], none⟩ (.step 6 (.U 16 (.load false 1) 15 14 true) (.step 7 (.P 17 (.eqn true 0) [.t 16,.c (.nilptr)] 14 true) (.step 8 (.p 18 .pick [.t 14,.t 17,.F]) (.step 10 (.m 1 18) .done))))))))))))) .ret)))
theorem Wv : compF Tryz.prog Tryz.f7 ⟨false, false, []⟩ = some (c_fresh, [.cell 0 true 4, .tmp 1], 19) := by kernel_rfl
theorem Sx.fa {W W1 W2 : AW} {p ra rw q : Nat} {s s' : Str} {os os' : Ods} (h : Sx W W1 p ra rw q s os) (hS : St W2 p ra rw s') (hO : Od W2 q os') (hF : Fa W1 W2 p ra rw q) : Sx W W2 p ra rw q s' os' := by
 have a := h.nw.hp
 have b := h.nw.ha
 have c := h.nw.hw
 have d := h.hq
 have hn := h.nw.ex.nx
 exact ⟨⟨hS, ⟨hF.cl, Nat.le_trans hn hF.nx, fun x hx => by rw [hF.get x (by omega) (by omega) (by omega) (by omega) (by omega)]; exact h.nw.ex.get x hx⟩, a, b, c⟩, hO, d, h.ne⟩
theorem Sx.exx {W W1 W2 : AW} {p ra rw q : Nat} {s : Str} {os : Ods} (h : Sx W W1 p ra rw q s os) (hE : Ex W1 W2) : Sx W W2 p ra rw q s os := ⟨h.nw.exx hE, h.od.ex hE, h.hq, h.ne⟩
theorem Sx.same {W W1 W2 : AW} {p ra rw q : Nat} {s : Str} {o : Ods} (h : Sx W W1 p ra rw q s o) (hC : Cl W2) (hn : W1.nx ≤ W2.nx) (hx : ∀ x, x < W1.nx → (x < W.nx ∨ x = p ∨ x = ra ∨ x = rw ∨ x = q) → W2.get x = W1.get x) : Sx W W2 p ra rw q s o := by
 have l1 := h.nw.st.lp
 have l2 := h.nw.st.la
 have l3 := h.nw.st.lw
 have l4 := h.od.lq
 have hn0 := h.nw.ex.nx
 exact ⟨⟨h.nw.st.by hn (hx _ l1 (by simp)) (hx _ l2 (by simp)) (hx _ l3 (by simp)), ⟨hC, Nat.le_trans hn0 hn, fun x hx' => by rw [hx x (by omega) (.inl hx')]; exact h.nw.ex.get x hx'⟩, h.nw.hp, h.nw.ha, h.nw.hw⟩, h.od.by hn (hx _ l4 (by simp)), h.hq, h.ne⟩
theorem Rs.up {W W1 : AW} {sp lo F : Nat} {h : V} {l : List Rt} (hR : Rs W sp h l lo) (hx : W.nx ≤ W1.nx) (hg : ∀ x, F ≤ x → x < W.nx → W1.get x = W.get x) (h1 : F ≤ sp) (h2 : F ≤ lo) : Rs W1 sp h l lo := ⟨(hg _ h1 hR.lp).trans hR.hp, by have := hR.lp; omega, by
   rcases hR.el with h | ⟨r, h1, h2, h3, h4, h5⟩
   ·exact .inl h
   ·exact .inr ⟨r, h1, by omega, h3, h4, by rw [hg _ (by omega) h2]; exact h5⟩, hR.ok, hR.so⟩
theorem Rs.noslr {W : AW} {sp lo x : Nat} {h : V} {l : List Rt} (hR : Rs W sp h l lo) (hx : x < lo) : ∀ n, h ≠ .slr x 0 n 5 := by
 intro n e
 rcases hR.el with ⟨e1, _⟩ | ⟨r, h1, _, h3, _⟩
 ·rw [e1] at e; cases e
 ·rw [h3] at e; cases e; omega
def Av (Xs : Nat → Prop) (cs : List V) (es : List (List V)) : Prop := ∀ r, Xs r → (∀ m, V.buf true r 1 m ∉ cs) ∧ ∀ e ∈ es, ∀ m, V.buf true r 1 m ∉ e
theorem Av.nh {Xs : Nat → Prop} {n : Nat} {cs cs' : List V} {es es' : List (List V)} (h : Av Xs cs es) (hn : Nh n cs es cs' es') (hx : ∀ r, Xs r → r < n) : Av Xs cs' es' := fun r hr =>
 ⟨fun m hm => by obtain ⟨m', h'⟩ := hn.1 r m (hx r hr) hm; exact (h r hr).1 m' h', fun e he m hm => by obtain ⟨e', h1, h2⟩ := hn.2 r m (hx r hr) e he hm; exact (h r hr).2 e' h1 m h2⟩
structure BtX (Xs : Nat → Prop) (Wb : AW) (F p ra rw q : Nat) (W : AW) (s : Str) (o : Ods) (N : Nat) : Prop where
 sx : Sx Wb W p ra rw q s o
 lt : p < F ∧ ra < F ∧ rw < F ∧ q < F ∧ Wb.nx ≤ F
 nx : F + 2 ≤ W.nx
 doc : ∃ h l L cs es, Rs W F h l (F + 2) ∧ Ro W (F + 1) L (F + 2) cs es N ∧ Av Xs cs es
 xl : ∀ r, Xs r → r < W.nx
abbrev Bt := BtX fun _ => False
section
variable {Xs : Nat → Prop} {Wb W W1 : AW} {F p ra rw q N : Nat} {s s' : Str} {o o' : Ods}
theorem BtX.ex (B : BtX Xs Wb F p ra rw q W s o N) (hE : Ex W W1) : BtX Xs Wb F p ra rw q W1 s o N := by
 obtain ⟨h, l, L, cs, es, hR, hO, hA⟩ := B.doc
 exact ⟨B.sx.exx hE, B.lt, by have := B.nx; have := hE.nx; omega, ⟨h, l, L, cs, es, hR.ex hE, hO.to hE.nx (hE.get _ hO.lp) fun r _ h2 _ => hE.get r h2, hA⟩, fun r hr => Nat.lt_of_lt_of_le (B.xl r hr) hE.nx⟩
theorem BtX.cl (B : BtX Xs Wb F p ra rw q W s o N) : Cl W := B.sx.nw.ex.cl
theorem BtX.lib (B : BtX Xs Wb F p ra rw q W s o N) (hS : St W1 p ra rw s') (hO : Od W1 q o') (hF : Fa W W1 p ra rw q) : BtX Xs Wb F p ra rw q W1 s' o' N := by
 obtain ⟨l1, l2, l3, l4, l5⟩ := B.lt
 obtain ⟨h, l, L, cs, es, hR, hRo, hA⟩ := B.doc
 have hn := B.nx
 have hup : ∀ x, F ≤ x → x < W.nx → W1.get x = W.get x := fun x h1 h2 => hF.get x h2 (by omega) (by omega) (by omega) (by omega)
 exact ⟨B.sx.fa hS hO hF, B.lt, by have := hF.nx; omega, ⟨h, l, L, cs, es, hR.up hF.nx hup (lr _) (by omega), hRo.to hF.nx (hup _ (by omega) hRo.lp) fun r h1 h2 _ => hup r (by omega) h2, hA⟩, fun r hr => Nat.lt_of_lt_of_le (B.xl r hr) hF.nx⟩
theorem BtX.rs (B : BtX Xs Wb F p ra rw q W s o N) {h h' : V} {l l' : List Rt} {L : List (List (List Int))} {cs : List V} {es : List (List V)} (hR0 : Rs W F h l (F + 2)) (hO0 : Ro W (F + 1) L (F + 2) cs es N) (hA : Av Xs cs es) (hR : Rs W1 F h' l' (F + 2)) (hF : FrR W h F W1 h') : BtX Xs Wb F p ra rw q W1 s o N := by
 obtain ⟨l1, l2, l3, l4, l5⟩ := B.lt
 have hn := B.nx
 have hg : ∀ x, x < F → W1.get x = W.get x := fun x hx => hF.get x (by omega) (by omega) (hR0.noslr (by omega))
 exact ⟨B.sx.same hF.cl hF.nx fun x hx hc => hg x (by omega), B.lt, by have := hF.nx; omega, ⟨h', l', L, cs, es, hR, hO0.fr hR0 hF (by omega), hA⟩, fun r hr => Nat.lt_of_lt_of_le (B.xl r hr) hF.nx⟩
theorem BtX.ro (B : BtX Xs Wb F p ra rw q W s o N) {h : V} {l : List Rt} {L L' : List (List (List Int))} {cs cs' : List V} {es es' : List (List V)} {M : Nat} (hR0 : Rs W F h l (F + 2)) (hO0 : Ro W (F + 1) L (F + 2) cs es N) (hO : Ro W1 (F + 1) L' (F + 2) cs' es' M) (hF : FrO W (F + 1) W1) (hA : Av Xs cs' es') : BtX Xs Wb F p ra rw q W1 s o M := by
 obtain ⟨l1, l2, l3, l4, l5⟩ := B.lt
 have hn := B.nx
 have hg : ∀ x, x < F → W1.get x = W.get x := fun x hx => hF.get x (by omega) (by omega)
 exact ⟨B.sx.same hF.cl hF.nx fun x hx hc => hg x (by omega), B.lt, by have := hF.nx; omega, ⟨h, l, L', cs', es', hR0.fo hF hO0.hp (by omega), hO, hA⟩, fun r hr => Nat.lt_of_lt_of_le (B.xl r hr) hF.nx⟩
theorem BtX.more (B : BtX Xs Wb F p ra rw q W s o N) {M : Nat} (h : N ≤ M) : BtX Xs Wb F p ra rw q W s o M := by
 obtain ⟨h', l, L, cs, es, hR, hO, hA⟩ := B.doc
 exact ⟨B.sx, B.lt, B.nx, ⟨h', l, L, cs, es, hR, ⟨hO.hp, hO.lp, hO.c8, hO.l8, hO.e8, hO.ls, fun ll hl => ⟨by have := (hO.rg ll hl).1; omega, (hO.rg ll hl).2⟩⟩, hA⟩, B.xl⟩
end
theorem LsV0 {W : AW} {lo : Nat} : LsV W .nilsl [] lo [] := by
 exact ⟨.inl ⟨rfl, rfl⟩, rfl, fun j h => (by cases h)⟩
theorem U4 (hP : PE E) (W : AW) : ACalls E 7 [] W fun Y W' => ∃ F p ra rw q, Y = .tuple [.agg [.ptr p 0, .ptr q 0, .ptr F 0, .ptr (F + 1) 0], .bool true] ∧ Bt W F p ra rw q W' [] os0 0 := by
 refine ACalls.of hP Tryz.func7 Wv (by simp) fun _ hok => ?_
 refine Af hok ?_
 simp (disch:=omega) only [BZ, BM, BD, c_fresh]
 refine (new_n hP _).mono ?_
 rintro _ W1 ⟨p, ra, rw, rfl, h⟩
 simp (disch:=omega) only [BS, BC, ]
 refine (newO_c hP _).mono ?_
 rintro _ W2 ⟨q, rfl, hO, hE, hq⟩
 have hn0 : (X W W.nx [.row [.nilptr, .nilptr, .nilptr, .nilptr]]).nx = W.nx + 1 := rfl
 have h2 := h.exx hE
 have hlp := h.st.lp
 have hla := h.st.la
 have hlw := h.st.lw
 have r0 : rf W.nx 0 = W.nx := rfl
 have g0 : W2.get (rf W.nx 0) = some (.row [.nilptr, .nilptr, .nilptr, .nilptr]) := by rw [h2.ex.get _ (by rw [hn0]; omega), Ao]; rfl
 have hn2 := h2.ex.nx
 rw [hn0] at hn2
 have hp := h.hp
 have ha := h.ha
 have hw := h.hw
 rw [hn0] at hp ha hw
 have hE2 : Ex W W2 := Ex.x0.trans h2.ex
 rw [h2.ex.cl.start]
 have hlq := hO.lq
 have hS : ∀ ob tl, Bt W W2.nx p ra rw q (X (W2.put (rf W.nx 0) ob) W2.nx (.row [.nilsl] :: .row [.nilsl, .nilsl, .nilsl, .nilsl, .nilsl, .nilsl, .nilsl, .nilsl] :: tl)) [] os0 0 := fun ob tl => by
  obtain ⟨W3, hW3⟩ : ∃ W3, W3 = X (W2.put (rf W.nx 0) ob) W2.nx (.row [.nilsl] :: .row [.nilsl, .nilsl, .nilsl, .nilsl, .nilsl, .nilsl, .nilsl, .nilsl] :: tl) := ⟨_, rfl⟩
  have hgg : ∀ x, x < W2.nx → x ≠ rf W.nx 0 → W3.get x = W2.get x := fun x h1 h2 => by rw [hW3, Aj h1, put_ne h2]
  have hnx : W2.nx + 2 ≤ W3.nx := by rw [hW3]; simp only [Ci, rf, lcs]; omega
  have hC3 : Cl W3 := by rw [hW3]; exact Cl.X
  have g8 : W3.get W2.nx = some (.row [.nilsl]) := by rw [hW3]; exact Ao (k := 0)
  have g9 : W3.get (W2.nx + 1) = some (.row (List.replicate 8 .nilsl)) := by rw [hW3]; exact Ao (k := 1)
  rw [← hW3]
  clear hW3
  have l1 := h2.st.lp
  have l2 := h2.st.la
  have l3 := h2.st.lw
  refine ⟨⟨⟨h2.st.by (by omega) (hgg _ l1 (by omega)) (hgg _ l2 (by omega)) (hgg _ l3 (by omega)), ⟨hC3, by omega, fun x hx => by rw [hgg x (by omega) (by omega)]; exact hE2.get x hx⟩, by omega, by omega, by omega⟩, hO.by (by omega) (hgg _ hlq (by omega)), by omega, by omega, by omega, by omega⟩, ⟨by omega, by omega, by omega, by omega, by omega⟩, hnx, ⟨.nilsl, [], List.replicate 8 [], List.replicate 8 .nilsl, List.replicate 8 [], ⟨g8, by omega, .inl ⟨rfl, rfl⟩, fun t ht => (by cases ht), ?_⟩, ⟨g9, by omega, rfl, rfl, rfl, fun k h h' h'' => ?_, fun ll hll => ?_⟩, fun r hr => hr.elim⟩, fun r hr => hr.elim⟩
  ·exact ⟨by simp [txs], List.Pairwise.nil⟩
  ·rw [List.getElem_replicate, List.getElem_replicate, List.getElem_replicate]; exact LsV0
  ·rw [List.eq_of_mem_replicate hll]; exact ⟨lr _, fun l hl => by cases hl⟩
 simp (disch:=omega) only [BZ, ↓reduceIte, nE, BM, BD, nA, nL, nT]
 (rw [Aa]; simp (disch:=omega) only [BS, ↓reduceIte, nE, reduceCtorEq, BM, BD, nA, nL, g0])
 constructor
 ·(rw [Aa]; simp (disch:=omega) only [BS, BC, ↓reduceIte, nE, BM])
  (rw [Aa]; simp (disch:=omega) only [BS, BC, ↓reduceIte, nE, reduceCtorEq, BM, BD, nA, nL, g0, put_at])
  exact ⟨_, rfl, _, _, .weak Ab, by simp only [Ci, rf]; omega, W2.nx, p, ra, rw, q, rfl, hS _ _⟩
 ·(rw [Aa]; simp (disch:=omega) only [BS, BC, ↓reduceIte, nE, BM])
  (rw [Aa]; simp (disch:=omega) only [BS, BC, ↓reduceIte, nE, reduceCtorEq, BM, BD, nA, nL, put_at])
  exact ⟨_, rfl, _, _, .weak Ab, by simp only [Ci, rf]; omega, W2.nx, p, ra, rw, q, rfl, hS _ _⟩
theorem Fa.q {W W1 : AW} {p ra rw q : Nat} (hC : Cl W1) (hn : W1.nx = W.nx) (hg : ∀ x, x ≠ q → W1.get x = W.get x) : Fa W W1 p ra rw q := ⟨hC, by omega, fun x _ _ _ _ h => hg x h⟩
structure FrB (W W' : AW) (F p ra rw q : Nat) : Prop where
 nx : W.nx ≤ W'.nx
 get : ∀ y, y < W.nx → y ≠ p → y ≠ ra → y ≠ rw → y ≠ q → y ≠ F → y ≠ F + 1 → (∀ cs, W.get y ≠ some (.vec 5 cs)) → W'.get y = W.get y
theorem FrB.refl (W : AW) (F p ra rw q : Nat) : FrB W W F p ra rw q := ⟨lr _, fun _ _ _ _ _ _ _ _ _ => rfl⟩
theorem FrB.trans {W W1 W2 : AW} {F p ra rw q : Nat} (a : FrB W W1 F p ra rw q) (b : FrB W1 W2 F p ra rw q) : FrB W W2 F p ra rw q :=
 ⟨Nat.le_trans a.nx b.nx, fun y hy h1 h2 h3 h4 h5 h6 h7 => by
  have e := a.get y hy h1 h2 h3 h4 h5 h6 h7
  rw [b.get y (by have := a.nx; omega) h1 h2 h3 h4 h5 h6 (by rw [e]; exact h7), e]⟩
theorem FrB.fa {W W1 : AW} {F p ra rw q : Nat} (h : Fa W W1 p ra rw q) : FrB W W1 F p ra rw q := ⟨h.nx, fun y hy h1 h2 h3 h4 _ _ _ => h.get y hy h1 h2 h3 h4⟩
theorem FrB.ex {W W1 : AW} {F p ra rw q : Nat} (h : Ex W W1) : FrB W W1 F p ra rw q := ⟨h.nx, fun y hy _ _ _ _ _ _ _ => h.get y hy⟩
theorem FrB.fo {W W1 : AW} {F p ra rw q : Nat} (h : FrO W (F + 1) W1) : FrB W W1 F p ra rw q := ⟨h.nx, fun y hy _ _ _ _ _ h6 _ => h.get y hy h6⟩
theorem FrB.rs {W W1 : AW} {F p ra rw q : Nat} {h h' : V} {l : List Rt} (hR : Rs W F h l (F + 2)) (hF : FrR W h F W1 h') : FrB W W1 F p ra rw q := ⟨hF.nx, fun y hy _ _ _ _ h5 _ h7 => hF.get y hy h5 fun n e => by
  rcases hR.el with ⟨e1, _⟩ | ⟨r, _, _, e1, _, hg⟩
  ·rw [e1] at e; cases e
  ·rw [e1] at e; cases e; exact h7 _ hg⟩
theorem tk_go (hP : PE E) {Xs : Nat → Prop} {Wb W : AW} {F p ra rw q N b2 : Nat} {s : Str} {o : Ods} (B : BtX Xs Wb F p ra rw q W s o N) (hN : N + 8 < 2 ^ 30) {l : List Rd} (hl : l.length ≤ 8) (hk : ∀ r ∈ l, 0 ≤ r.1 ∧ r.1 < 256) (hn : ∀ r ∈ l, (nums r.2).length ≤ 32 ∧ ∀ n ∈ nums r.2, 0 ≤ n ∧ n < 65536) (h2 : W.get b2 = some (.row [.ptr p 0, .ptr q 0, .ptr F 0, .ptr (F + 1) 0])) (hb2 : F + 2 ≤ b2 ∧ b2 < W.nx) {A : AFr} {Q : Exit → AFr → AW → Prop}
  (_ : ∀ h : V, ∀ l' : List Rt, Rs W F h l' (F + 2) → ∀ n, h ≠ .slr b2 0 n 5)
  (a2 : A 2 = some (.ptr b2 0)) (a8 : A 8 = some (nowGS 2 (l.map rdV))) (a9 : A 9 = some (.int .i64 0))
  (hQ : ∀ A' W', BtX Xs Wb F p ra rw q W' s (takesR o l).1 (N + 8) → FrB W W' F p ra rw q → Q (.exit 1) A' W') : awp E (.loop c_act_0) Q A W := by
 have hs := Cr 2 (l.map rdV)
 rw [Ai]
 refine alp (fun (k : Nat) A1 W1 => A1 2 = some (.ptr b2 0) ∧ A1 8 = some (nowGS 2 (l.map rdV)) ∧ A1 9 = some (.int .i64 k) ∧ k ≤ l.length ∧ BtX Xs Wb F p ra rw q W1 s (takesR o (l.take k)).1 (N + k) ∧ W1.get b2 = some (.row [.ptr p 0, .ptr q 0, .ptr F 0, .ptr (F + 1) 0]) ∧ FrB W W1 F p ra rw q) (fun k => l.length - k) 0
  ⟨a2, a8, a9, Nat.zero_le _, B, h2, FrB.refl _ _ _ _ _ _⟩ ?_
 rintro k A1 W1 ⟨g2, g8, g9, gk, gB, gb, gF⟩ _
 have gn := gF.nx
 obtain ⟨l1, l2, l3, l4, l5⟩ := gB.lt
 by_cases hk1 : k < l.length
 ·have hkr := hk _ (gmm hk1)
  have hnr := hn _ (gmm hk1)
  have hst := Rk o hk1
  have hat := Rv hk1
  generalize l[k] = r at hkr hnr hst hat
  have hre := (Cm r.2).isS
  have hfz := fun W => hre.frz (W := W)
  simp (disch:=omega) only [BX, ↓reduceIte, nE, BM, BD, nA, nL, c_act_0, g2, g8, g9, hs.len, lmp, clt, hk1, dT, hs.idx hat, Gu, gb, hre.frz]
  refine (take_c hP _ gB.sx.od r.1 hkr.1 hkr.2 hre (by have := hnr.1; omega) hnr.2).mono ?_
  rintro _ W3 ⟨rfl, hO3, hn3, hg3⟩
  have hC3 : Cl W3 := fun x hx => by rw [hg3 x (by have := gB.nx; omega)]; exact gB.cl x (by omega)
  have hFa3 : Fa W1 W3 p ra rw q := Fa.q hC3 hn3 hg3
  have hB3 := gB.lib (gB.sx.nw.st.by (by omega) (hg3 _ gB.sx.ne.1.symm) (hg3 _ gB.sx.ne.2.1.symm) (hg3 _ gB.sx.ne.2.2.symm)) hO3 hFa3
  have gb3 : W3.get b2 = some (.row [.ptr p 0, .ptr q 0, .ptr F 0, .ptr (F + 1) 0]) := by rw [hg3 _ (by omega)]; exact gb
  simp (disch:=omega) only [BS, BC, ↓reduceIte, nE, BM, BD, nA, nL, g2, g8, g9, gb3, hs.idx hat, Gu, hre.frz]
  obtain ⟨h', l', L, cs, es, hR, hRo, hAv⟩ := hB3.doc
  refine (oTake_c hP _ hRo (by omega) (by have := hB3.nx; omega) r.1 hkr.1 hre (by have := hnr.1; omega) hnr.2).mono ?_
  rintro _ W4 ⟨cs', es', v1, v2, v3⟩
  have hB4 := hB3.ro hR hRo v1 v2 (hAv.nh v3 hB3.xl)
  have hn4 := v2.nx
  simp (disch:=omega) only [BS, ↓reduceIte, nE, g2, g8, g9, Ah]
  refine ⟨k + 1, ⟨tt, tt, tt, hk1, by rw [hst]; exact hB4, ?_, (gF.trans (.fa hFa3)).trans (.fo v2)⟩, by omega, by omega⟩
  rw [v2.get b2 (by omega) (by omega)]; exact gb3
 ·obtain rfl : k = l.length := by omega
  rw [tkl] at gB
  simp (disch:=omega) only [BX, ↓reduceIte, nE, c_act_0, g8, g9, hs.len, lmp, clt, hk1, dF]
  exact hQ _ _ (gB.more (by omega)) gF
def Ac.smalm (a : Ac) : Prop := a.txl.length ≤ 20 ∧ a.rdl.length ≤ 20 ∧ ∀ o ∈ a.rdl, (nums o).length < 2 ^ 30
theorem Ac.small.m {a : Ac} (h : a.small) : a.smalm := ⟨h.1, h.2.1, fun o ho => Nat.lt_of_le_of_lt (h.2.2 o ho) (by decide)⟩
theorem Vu (hP : PE E) (W : AW) {Xs : Nat → Prop} {Wb : AW} {F p ra rw q N : Nat} {s : Str} {o : Ods} (B : BtX Xs Wb F p ra rw q W s o N) (hN : N + 8 < 2 ^ 30) {a : Ac} (ha : a.ok) (hsm : a.smalm) :
  ACalls E 10 [.agg [.ptr p 0, .ptr q 0, .ptr F 0, .ptr (F + 1) 0], a.V] W fun Y W' => Y = .int .i64 (actG s o a).2.2.1 ∧ BtX Xs Wb F p ra rw q W' (actG s o a).1 (actG s o a).2.1 (N + 8) ∧ FrB W W' F p ra rw q := by
 refine ACalls.of hP Tryz.func10 ok_acte (by simp [Ac.V]) fun _ hok => ?_
 refine Af hok ?_
 obtain ⟨xs, i1, i2, i3⟩ := ha.rdS
 obtain ⟨z1, z2, z3⟩ := hsm
 obtain ⟨l1, l2, l3, l4, l5⟩ := B.lt
 have hnx := B.nx
 obtain ⟨Wc, hWc⟩ : ∃ Wc, Wc = X W W.nx [.row [.ptr p 0, .ptr q 0, .ptr F 0, .ptr (F + 1) 0], .row [.int .u8 a.what, .int .u8 a.client, .int .u16 a.id, a.tx, a.rd]] := ⟨_, rfl⟩
 have hEc : Ex W Wc := by rw [hWc]; exact .x0
 have gb2 : Wc.get (rf W.nx 0) = some (.row [.ptr p 0, .ptr q 0, .ptr F 0, .ptr (F + 1) 0]) := by rw [hWc, Ao]; rfl
 have gb3 : Wc.get (rf W.nx 1) = some (.row [.int .u8 a.what, .int .u8 a.client, .int .u16 a.id, a.tx, a.rd]) := by rw [hWc, Ao]; rfl
 have hnc : Wc.nx = W.nx + 2 := by rw [hWc]; rfl
 have r0 : rf W.nx 0 = W.nx := rfl
 have r1 : rf W.nx 1 = W.nx + 1 := rfl
 have B0 := B.ex hEc
 -- what the document's store does not touch
 have hold : ∀ {h : V} {l : List Rt}, Rs W F h l (F + 2) → Rs Wc F h l (F + 2) := fun hR => hR.ex hEc
 simp only [BX, ↓reduceIte, nE, BM, BD, c_act, Ac.V, m_rem6]
 rw [← hWc]
 clear hWc
 -- the library's own part, then the document's: what a row of this call's keeps
 have lib1 : ∀ {W1 : AW} {s' : Str}, St W1 p ra rw s' → Fr Wc W1 p ra rw → BtX Xs Wb F p ra rw q W1 s' o N ∧ W1.nx = Wc.nx ∧ (∀ x, F ≤ x → W1.get x = Wc.get x) ∧ FrB Wc W1 F p ra rw q := fun {W1 s'} hS1 hf => by
  have a1 := B0.sx.nw.st.lp
  have a2 := B0.sx.nw.st.la
  have a3 := B0.sx.nw.st.lw
  have ne := B0.sx.ne
  have hFa : Fa Wc W1 p ra rw q := Fa.of hf (Ex.refl B0.cl) a1 a2 a3
  exact ⟨B0.lib hS1 (B0.sx.od.by (by rw [hf.nx]; exact lr _) (hf.get q ne.1 ne.2.1 ne.2.2)) hFa, hf.nx, fun x hx => hf.get x (by omega) (by omega) (by omega), .fa hFa⟩
 have fin : ∀ (W' : AW) (s' : Str) (o' : Ods) (e : Int) (b : Bool), actG s o a = (s', o', e, b) → BtX Xs Wb F p ra rw q W' s' o' (N + 8) → FrB Wc W' F p ra rw q → ∃ X0, some (V.int .i64 e) = some X0 ∧ ∃ Y W2, RetV X0 W' Y W2 ∧ W.nx ≤ W2.nx ∧ Y = .int .i64 (actG s o a).2.2.1 ∧ BtX Xs Wb F p ra rw q W2 (actG s o a).1 (actG s o a).2.1 (N + 8) ∧ FrB W W2 F p ra rw q := by
  intro W' s' o' e b he hB hn
  rw [he]
  exact ⟨_, rfl, _, _, .weak Ab, by have := hn.nx; omega, rfl, hB, (FrB.ex hEc).trans hn⟩
 by_cases h23 : w6 a = 2 ∨ w6 a = 3
 ·have e : actG s o a = (if (commitR s a.id a.rdl).2 = 0 then ((commitR s a.id a.rdl).1, (takesR o (readsR ((find (commitR s a.id a.rdl).1 a.id).getD Tx.zero))).1, 0, (takesR o (readsR ((find (commitR s a.id a.rdl).1 a.id).getD Tx.zero))).2) else ((commitR s a.id a.rdl).1, o, (commitR s a.id a.rdl).2, true)) := by
   simp only [actG, if_pos h23]
  have hcc := commit_c hP _ B0.sx.nw.st a.id ha.id.1 ha.id.2 ha.rd ha.bel (by omega) fun o ho => ⟨by have := z3 o ho; omega, ha.ns o ho⟩
  have main : ∀ (A : AFr), True := fun _ => trivial
  rcases h23 with h2 | h3
  ·have b2 : (a.what.tmod 6 == 2) = true := by simp [w6] at h2; simp [h2]
   simp only [↓reduceIte, b2, i1.frz]
   refine hcc.mono ?_
   rintro _ W1 ⟨rfl, g1, g2⟩
   obtain ⟨B1, n1, k1, f1⟩ := lib1 g1 g2
   have u2 := (k1 (rf W.nx 0) (by omega)).trans gb2
   have u3 := (k1 (rf W.nx 1) (by omega)).trans gb3
   obtain ⟨h', l', L, cs, es, hR, hRo, hAv⟩ := B1.doc
   simp only [BZ, ↓reduceIte, nE, BM, BD, u2, u3, i1.frz]
   refine (Lx hP _ hR a.id ha.rd ha.bel (by omega) ha.ns).mono ?_
   rintro _ W2 ⟨rfl, l2', c1, c2, c3⟩
   have B2 := B1.rs hR hRo hAv c1 c3
   have f2 : FrB Wc W2 F p ra rw q := f1.trans (.rs hR c3)
   have n2 := c3.nx
   have v2 : W2.get (rf W.nx 0) = some (.row [.ptr p 0, .ptr q 0, .ptr F 0, .ptr (F + 1) 0]) := by rw [c3.get _ (by omega) (by omega) (hR.noq u2)]; exact u2
   have v3 : W2.get (rf W.nx 1) = some (.row [.int .u8 a.what, .int .u8 a.client, .int .u16 a.id, a.tx, a.rd]) := by rw [c3.get _ (by omega) (by omega) (hR.noq u3)]; exact u3
   by_cases hc : (commitR s a.id a.rdl).2 = 0
   ·rw [if_pos hc] at e
    obtain ⟨t, d1, d2, d3, d4⟩ := E0.1 hc
    obtain ⟨t', ht'⟩ : ∃ t', find (commitR s a.id a.rdl).1 a.id = some t' := by
     rw [C6 B.sx.nw.st.ok.lt, Fz (G2 _), d1]; exact ⟨_, rfl⟩
    have hto := (G0 g1.ok ht').2.2
    rw [ht', Option.getD_some] at e
    simp only [BX, ↓reduceIte, nE, BM, BD, hc, show ((0 : Int) != 0) = false by decide, v2, v3]
    refine pc (S3 hP _ B2.sx.nw.st a.id ha.id.1 ha.id.2) ?_
    rw [ht', Option.getD_some, B2.cl.start]
    simp only [BZ, ↓reduceIte, nE, BM, BD, nA, nL, nT, Ce, Cb, Tx.V, Option.isSome_some]
    refine pc (Js hP _ hto) ?_
    simp only [BS, Am, ↓reduceIte, ]
    have hE5 : Ex W2 (X W2 W2.nx [.row [.int .u16 t'.id, .int .u8 t'.client, msV t'.ms, lsV t'.ls, .int .u8 t'.st]]) := (Ex.refl B2.cl).X
    refine tk_go hP (b2 := rf W.nx 0) (B2.ex hE5) hN (Df hto) (Dg hto.ms) (D5 hto) (by rw [Aj (by omega)]; exact v2) ⟨by omega, by simp only [Ci, rf]; omega⟩ (fun h l hR n => by
     intro e'
     rcases hR.el with ⟨e1, _⟩ | ⟨r, _, _, e1, _, hg⟩
     ·rw [e1] at e'; cases e'
     ·rw [e1] at e'; cases e'
      rw [Aj (by omega), v2] at hg; cases hg) tt tt tt ?_
    intro A' W5 hB5 hn5
    simp only [BZ, ↓reduceIte, ]
    exact fin _ _ _ _ _ e hB5 ((f2.trans (.ex hE5)).trans hn5)
   ·rw [if_neg hc] at e
    simp only [BX, ↓reduceIte, nE, show ((commitR s a.id a.rdl).2 != 0) = true by simp [hc]]
    exact fin _ _ _ _ _ e (B2.more (by omega)) f2
  ·have b2 : (a.what.tmod 6 == 2) = false := by simp [w6] at h3; simp [h3]
   have b3 : (a.what.tmod 6 == 3) = true := by simp [w6] at h3; simp [h3]
   simp only [BC, ↓reduceIte, b2, b3, i1.frz]
   refine hcc.mono ?_
   rintro _ W1 ⟨rfl, g1, g2⟩
   obtain ⟨B1, n1, k1, f1⟩ := lib1 g1 g2
   have u2 := (k1 (rf W.nx 0) (by omega)).trans gb2
   have u3 := (k1 (rf W.nx 1) (by omega)).trans gb3
   obtain ⟨h', l', L, cs, es, hR, hRo, hAv⟩ := B1.doc
   simp only [BZ, ↓reduceIte, nE, BM, BD, u2, u3, i1.frz]
   refine (Lx hP _ hR a.id ha.rd ha.bel (by omega) ha.ns).mono ?_
   rintro _ W2 ⟨rfl, l2', c1, c2, c3⟩
   have B2 := B1.rs hR hRo hAv c1 c3
   have f2 : FrB Wc W2 F p ra rw q := f1.trans (.rs hR c3)
   have n2 := c3.nx
   have v2 : W2.get (rf W.nx 0) = some (.row [.ptr p 0, .ptr q 0, .ptr F 0, .ptr (F + 1) 0]) := by rw [c3.get _ (by omega) (by omega) (hR.noq u2)]; exact u2
   have v3 : W2.get (rf W.nx 1) = some (.row [.int .u8 a.what, .int .u8 a.client, .int .u16 a.id, a.tx, a.rd]) := by rw [c3.get _ (by omega) (by omega) (hR.noq u3)]; exact u3
   by_cases hc : (commitR s a.id a.rdl).2 = 0
   ·rw [if_pos hc] at e
    obtain ⟨t, d1, d2, d3, d4⟩ := E0.1 hc
    obtain ⟨t', ht'⟩ : ∃ t', find (commitR s a.id a.rdl).1 a.id = some t' := by
     rw [C6 B.sx.nw.st.ok.lt, Fz (G2 _), d1]; exact ⟨_, rfl⟩
    have hto := (G0 g1.ok ht').2.2
    rw [ht', Option.getD_some] at e
    simp only [BX, ↓reduceIte, nE, BM, BD, hc, show ((0 : Int) != 0) = false by decide, v2, v3]
    refine pc (S3 hP _ B2.sx.nw.st a.id ha.id.1 ha.id.2) ?_
    rw [ht', Option.getD_some, B2.cl.start]
    simp only [BZ, ↓reduceIte, nE, BM, BD, nA, nL, nT, Ce, Cb, Tx.V, Option.isSome_some]
    refine pc (Js hP _ hto) ?_
    simp only [BS, Am, ↓reduceIte, ]
    have hE5 : Ex W2 (X W2 W2.nx [.row [.int .u16 t'.id, .int .u8 t'.client, msV t'.ms, lsV t'.ls, .int .u8 t'.st]]) := (Ex.refl B2.cl).X
    refine tk_go hP (b2 := rf W.nx 0) (B2.ex hE5) hN (Df hto) (Dg hto.ms) (D5 hto) (by rw [Aj (by omega)]; exact v2) ⟨by omega, by simp only [Ci, rf]; omega⟩ (fun h l hR n => by
     intro e'
     rcases hR.el with ⟨e1, _⟩ | ⟨r, _, _, e1, _, hg⟩
     ·rw [e1] at e'; cases e'
     ·rw [e1] at e'; cases e'
      rw [Aj (by omega), v2] at hg; cases hg) tt tt tt ?_
    intro A' W5 hB5 hn5
    simp only [BZ, ↓reduceIte, ]
    exact fin _ _ _ _ _ e hB5 ((f2.trans (.ex hE5)).trans hn5)
   ·rw [if_neg hc] at e
    simp only [BX, ↓reduceIte, nE, show ((commitR s a.id a.rdl).2 != 0) = true by simp [hc]]
    exact fin _ _ _ _ _ e (B2.more (by omega)) f2
 have e23 : ¬ w6 a = 2 ∧ ¬ w6 a = 3 := by omega
 have b2 : (a.what.tmod 6 == 2) = false := by simp [w6] at e23; simp [e23.1]
 have b3 : (a.what.tmod 6 == 3) = false := by simp [w6] at e23; simp [e23.2]
 obtain ⟨h', l', L, cs, es, hR, hRo, hAv⟩ := B0.doc
 by_cases h4 : w6 a = 4
 ·have e : actG s o a = ((endR s a.id 2).1, o, (endR s a.id 2).2, true) := by simp only [actG, if_neg h23, if_pos h4]
  have b4 : (a.what.tmod 6 == 4) = true := by simp [w6] at h4; simp [h4]
  simp only [BC, ↓reduceIte, b2, b3, b4]
  refine (Zb hP _ hR a.id 2 (by decide)).mono ?_
  rintro _ W2 ⟨rfl, l2', c1, c2, c3⟩
  have B2 := B0.rs hR hRo hAv c1 c3
  have n2 := c3.nx
  have v2 : W2.get (rf W.nx 0) = some (.row [.ptr p 0, .ptr q 0, .ptr F 0, .ptr (F + 1) 0]) := by rw [c3.get _ (by omega) (by omega) (hR.noq gb2)]; exact gb2
  have v3 : W2.get (rf W.nx 1) = some (.row [.int .u8 a.what, .int .u8 a.client, .int .u16 a.id, a.tx, a.rd]) := by rw [c3.get _ (by omega) (by omega) (hR.noq gb3)]; exact gb3
  simp only [BZ, ↓reduceIte, nE, BM, BD, v2, v3]
  refine (abort_c hP _ B2.sx.nw.st a.id ha.id.1 ha.id.2).mono ?_
  rintro _ W1 ⟨rfl, g1, g2⟩
  have a1 := B2.sx.nw.st.lp
  have a2 := B2.sx.nw.st.la
  have a3 := B2.sx.nw.st.lw
  have ne := B2.sx.ne
  have hFa : Fa W2 W1 p ra rw q := Fa.of g2 (Ex.refl B2.cl) a1 a2 a3
  have B1 := B2.lib g1 (B2.sx.od.by (by rw [g2.nx]; exact lr _) (g2.get q ne.1 ne.2.1 ne.2.2)) hFa
  simp only [BS, BC, ↓reduceIte, ]
  exact fin _ _ _ _ _ e (B1.more (by omega)) ((FrB.rs hR c3).trans (.fa hFa))
 have b4 : (a.what.tmod 6 == 4) = false := by simp [w6] at h4; simp [h4]
 by_cases h5 : w6 a = 5
 ·have e : actG s o a = ((endR s a.id 3).1, o, (endR s a.id 3).2, true) := by simp only [actG, if_neg h23, if_neg h4, if_pos h5]
  have b5 : (a.what.tmod 6 == 5) = true := by simp [w6] at h5; simp [h5]
  simp only [BC, ↓reduceIte, b2, b3, b4, b5]
  refine (Zb hP _ hR a.id 3 (by decide)).mono ?_
  rintro _ W2 ⟨rfl, l2', c1, c2, c3⟩
  have B2 := B0.rs hR hRo hAv c1 c3
  have n2 := c3.nx
  have v2 : W2.get (rf W.nx 0) = some (.row [.ptr p 0, .ptr q 0, .ptr F 0, .ptr (F + 1) 0]) := by rw [c3.get _ (by omega) (by omega) (hR.noq gb2)]; exact gb2
  have v3 : W2.get (rf W.nx 1) = some (.row [.int .u8 a.what, .int .u8 a.client, .int .u16 a.id, a.tx, a.rd]) := by rw [c3.get _ (by omega) (by omega) (hR.noq gb3)]; exact gb3
  simp only [BZ, ↓reduceIte, nE, BM, BD, v2, v3]
  refine (info_c hP _ B2.sx.nw.st a.id ha.id.1 ha.id.2).mono ?_
  rintro _ W1 ⟨rfl, g1, g2⟩
  have a1 := B2.sx.nw.st.lp
  have a2 := B2.sx.nw.st.la
  have a3 := B2.sx.nw.st.lw
  have ne := B2.sx.ne
  have hFa : Fa W2 W1 p ra rw q := Fa.of g2 (Ex.refl B2.cl) a1 a2 a3
  have B1 := B2.lib g1 (B2.sx.od.by (by rw [g2.nx]; exact lr _) (g2.get q ne.1 ne.2.1 ne.2.2)) hFa
  simp only [BS, BC, ↓reduceIte, ]
  exact fin _ _ _ _ _ e (B1.more (by omega)) ((FrB.rs hR c3).trans (.fa hFa))
 have b5 : (a.what.tmod 6 == 5) = false := by simp [w6] at h5; simp [h5]
 have e : actG s o a = ((beginR s a.client a.id a.txl).1, o, (beginR s a.client a.id a.txl).2, true) := by simp only [actG, if_neg h23, if_neg h4, if_neg h5]
 simp only [BC, ↓reduceIte, b2, b3, b4, b5, ha.tx.frz]
 refine (rbeg_c hP _ hR (by have := B0.nx; omega) a.client a.id ha.cl ha.id ha.tx ha.ms (by omega)).mono ?_
 rintro _ W2 ⟨rfl, h2', l2', c1, c2, c3⟩
 have B2 := B0.rs hR hRo hAv c1 c3
 have n2 := c3.nx
 have v2 : W2.get (rf W.nx 0) = some (.row [.ptr p 0, .ptr q 0, .ptr F 0, .ptr (F + 1) 0]) := by rw [c3.get _ (by omega) (by omega) (hR.noq gb2)]; exact gb2
 have v3 : W2.get (rf W.nx 1) = some (.row [.int .u8 a.what, .int .u8 a.client, .int .u16 a.id, a.tx, a.rd]) := by rw [c3.get _ (by omega) (by omega) (hR.noq gb3)]; exact gb3
 simp only [BZ, ↓reduceIte, nE, BM, BD, v2, v3, ha.tx.frz]
 refine (begin_c hP _ B2.sx.nw.st a.client a.id ha.id.1 ha.id.2 ha.cl.1 ha.cl.2 ha.tx ha.ms (by omega)).mono ?_
 rintro _ W1 ⟨rfl, g1, g2⟩
 have a1 := B2.sx.nw.st.lp
 have a2 := B2.sx.nw.st.la
 have a3 := B2.sx.nw.st.lw
 have ne := B2.sx.ne
 have hFa : Fa W2 W1 p ra rw q := Fa.of g2 (Ex.refl B2.cl) a1 a2 a3
 have B1 := B2.lib g1 (B2.sx.od.by (by rw [g2.nx]; exact lr _) (g2.get q ne.1 ne.2.1 ne.2.2)) hFa
 simp only [BS, BC, ↓reduceIte, ]
 exact fin _ _ _ _ _ e (B1.more (by omega)) ((FrB.rs hR c3).trans (.fa hFa))
def hitB (P : List Ek) (kinds : List Int) (wk : Int) : Bool := P.any fun x => decide (x.2.2 = wk) && decide (x.1 ∈ roundsM (prs (P.map toEd) (kin kinds)) x.2.1 ((prs (P.map toEd) (kin kinds)).length + 1))
theorem Lu {α : Type} [DecidableEq α] {L : List (α × α)} {a b : α} : b ∈ roundsM L a (L.length + 1) ↔ Rch (outE L) a b := ⟨M8 _ b, Rn⟩
theorem Ua {P : List Ek} {ks : Int → Bool} {a b : Int} : (a, b) ∈ prs (edL P) ks ↔ (a, b) ∈ prs (P.map toEd) ks := by
 rw [Fs, Fs]
 constructor
 ·rintro ⟨e, he, h⟩
  exact ⟨e, List.mem_map.2 ⟨ofEd e, E7.1 he, rfl⟩, h⟩
 ·rintro ⟨e, he, h⟩
  obtain ⟨x, hx, rfl⟩ := List.mem_map.1 he
  exact ⟨_, E7.2 (by rw [of_to]; exact hx), h⟩
theorem T8 {P : List Ek} {ks : Int → Bool} {a b : Int} : Rch (outE (prs (edL P) ks)) a b ↔ Rch (outE (prs (P.map toEd) ks)) a b :=
 ⟨Rch.mono fun _ _ h => Dr.2 (Ua.1 (Dr.1 h)), Rch.mono fun _ _ h => Dr.2 (Ua.2 (Dr.1 h))⟩
theorem H6 {P : List Ek} {kinds : List Int} {wk : Int} : hitB P kinds wk = true ↔ ∃ e ∈ edL P, hitT P kinds wk e := by
 rw [hitB, aet]
 constructor
 ·rintro ⟨x, hx, h⟩
  simp only [Bool.and_eq_true, decide_eq_true_eq] at h
  exact ⟨toEd x, E7.2 (by rw [of_to]; exact hx), h.1, T8.2 (Lu.1 h.2)⟩
 ·rintro ⟨e, he, h1, h2⟩
  refine ⟨ofEd e, E7.1 he, ?_⟩
  simp only [Bool.and_eq_true, decide_eq_true_eq]
  exact ⟨h1, Lu.2 (T8.1 h2)⟩
def cycN (s : Str) (o : Ods) : Nat := flagN (hitB (buildP s o) [0] 0) (hitB (buildP s o) [0, 1] 1) (hitB (buildP s o) [0, 1, 2] 2)
def ofN (s : Str) (o : Ods) : Nat := orF (cycN s o) (faultsR s o)
theorem Oj {b c : Bool} {p : Prop} (h1 : b = true ↔ p) (h2 : c = true ↔ p) : b = c := by
 cases b <;> cases c <;> simp_all
theorem OfR.eq {s : Str} {o : Ods} {n : Nat} (h : OfR s o n) : n = ofN s o := by
 obtain ⟨b0, b1, b2, rfl, h0, h1, h2⟩ := h.ex
 rw [ofN, cycN, Oj h0 H6, Oj h1 H6, Oj h2 H6]
theorem of_c29 (hP : PE E) (W : AW) {p ra rw q : Nat} {s : Str} {os : Ods} (hS : St W p ra rw s) (hO : Od W q os) : ACalls E 16 [.ptr p 0, .ptr q 0] W fun Y W' => Y = .int .u8 (ofN s os) ∧ W' = W := by
 refine (ofA_c hP W hS hO).mono ?_
 rintro _ W' ⟨rfl, n, rfl, h⟩
 exact ⟨by rw [h.eq], rfl⟩
theorem Vx {a b : List Int} (h : a <+: b) (ht : twiceB a = true) : twiceB b = true := by
 simp only [twiceB, Bool.not_eq_true', decide_eq_false_iff_not] at ht ⊢
 exact fun hb => ht (hb.sublist h.sublist)
def Gd (o : Ods) (k : Int) (l : List Int) : Prop := k ≥ 8 ∨ l <+: keyO o k ∨ twiceB l = true ∨ (¬ l <+: keyO o k ∧ ¬ keyO o k <+: l)
theorem Gd.grow {o o' : Ods} {k : Int} {l : List Int} (h : Gd o k l) (hg : keyO o k <+: keyO o' k) : Gd o' k l := by
 rcases h with h | h | h | ⟨h1, h2⟩
 ·exact .inl h
 ·exact .inr (.inl (h.trans hg))
 ·exact .inr (.inr (.inl h))
 ·refine .inr (.inr (.inr ⟨fun h => ?_, fun h => h2 (hg.trans h)⟩))
  rcases List.prefix_or_prefix_of_prefix h hg with h' | h'
  ·exact h1 h'
  ·exact h2 h'
theorem take_gd {o : Ods} (h8 : o.length = 8) (ht : ∀ j, 0 ≤ j → twiceB (keyO o j) = false) {k : Int} (h0 : 0 ≤ k) {l : List Int} (hl : l.length ≤ 32) : Gd (takeR o k l).1 k l ∧ ∀ j, 0 ≤ j → twiceB (keyO (takeR o k l).1 j) = false := by
 unfold takeR
 by_cases c1 : k ≥ 8
 ·simp only [if_pos c1]; exact ⟨.inl c1, ht⟩
 simp only [if_neg c1, if_neg (show ¬ l.length > 32 by omega)]
 by_cases c3 : twiceB l = true
 ·simp only [if_pos c3]; exact ⟨.inr (.inr (.inl c3)), ht⟩
 simp only [if_neg c3]
 by_cases c4 : begins l (keyO o k) = true
 ·simp only [if_pos c4]; exact ⟨.inr (.inl (C7.1 c4)), ht⟩
 simp only [if_neg c4]
 by_cases c5 : begins (keyO o k) l = true
 ·simp only [if_pos c5]
  have hs := fun {j : Int} (j0 : 0 ≤ j) => Qd h8 h0 (by omega) l j0
  refine ⟨.inr (.inl (by rw [hs h0, if_pos rfl]; exact List.prefix_refl _)), fun j j0 => ?_⟩
  rw [hs j0]
  split
  ·simpa using c3
  ·exact ht j j0
 ·simp only [if_neg c5]
  exact ⟨.inr (.inr (.inr ⟨fun h => c4 (C7.2 h), fun h => c5 (C7.2 h)⟩)), ht⟩
theorem O3 : ∀ {l : List Rd} {o : Ods}, o.length = 8 → (∀ j, 0 ≤ j → twiceB (keyO o j) = false) → (∀ r ∈ l, 0 ≤ r.1 ∧ (nums r.2).length ≤ 32) → (∀ r ∈ l, Gd (takesR o l).1 r.1 (nums r.2)) ∧ ∀ j, 0 ≤ j → twiceB (keyO (takesR o l).1 j) = false
 | [], o, _, ht, _ => ⟨fun r hr => (by cases hr), ht⟩
 | r :: l, o, h8, ht, hr => by
  obtain ⟨k0, kl⟩ := hr r (by simp)
  obtain ⟨g1, g2⟩ := take_gd h8 ht k0 kl
  obtain ⟨q1, q2, _⟩ := I6 h8 k0 (nums r.2)
  obtain ⟨i1, i2⟩ := O3 (l := l) q1 g2 fun x hx => hr x (by simp [hx])
  have hg := (Ha (l := l) q1 fun x hx => (hr x (by simp [hx])).1).2.1
  refine ⟨fun x hx => ?_, i2⟩
  rcases List.mem_cons.1 hx with rfl | hx
  ·exact g1.grow (hg _ k0)
  ·exact i1 x hx
theorem flt_mem {s : Str} {o : Ods} {f : Flt} : f ∈ faultsR s o ↔ ∃ t ∈ s, ∃ r ∈ readsR t, ∃ c, c < 4 ∧ chkR s o t.id r c = some f.v ∧ f.fl = flC c ∧ f.id = t.id ∧ f.key = r.1 := by
 simp only [faultsR, fltR, List.mem_flatMap, List.mem_range]
 constructor
 ·rintro ⟨t, h1, r, h2, c, h3, h4⟩
  unfold fltC at h4
  split at h4
  ·rename_i v hv
   rw [List.mem_singleton.1 h4]
   exact ⟨t, h1, r, h2, c, h3, hv, rfl, rfl, rfl⟩
  ·cases h4
 ·rintro ⟨t, h1, r, h2, c, h3, h4, h5, h6, h7⟩
  refine ⟨t, h1, r, h2, c, h3, ?_⟩
  unfold fltC
  rw [h4]
  cases f
  simp only at h5 h6 h7
  subst h5 h6 h7
  simp
theorem ab_some {s : Str} {k : Int} {l : List Int} : (abR s k l).isSome = true ↔ ∃ v ∈ l, ∃ w, who s k v = some w ∧ w.st = 2 := by
 unfold abR
 rw [List.find?_isSome]
 refine ⟨fun ⟨v, h1, h2⟩ => ⟨v, h1, ?_⟩, fun ⟨v, h1, w, h2, h3⟩ => ⟨v, h1, by rw [h2]; simp [h3]⟩⟩
 cases hw : who s k v with
 | none => rw [hw] at h2; simp at h2
 | some w => rw [hw] at h2; exact ⟨w, rfl, by simpa using h2⟩
theorem ga_some {s : Str} {k : Int} {l : List Int} : (gaR s k l).isSome = true ↔ ∃ v ∈ l, who s k v = none := by
 unfold gaR
 rw [List.find?_isSome]
 refine ⟨fun ⟨v, h1, h2⟩ => ⟨v, h1, by simpa using h2⟩, fun ⟨v, h1, h2⟩ => ⟨v, h1, by simp [h2]⟩⟩
theorem be_some {s : Str} {i k : Int} {l : List Int} : (beR s i k l).isSome = true ↔ ∃ v w, l.getLast? = some v ∧ who s k v = some w ∧ w.st ≠ 2 ∧ w.id ≠ i ∧ (appR w.ms k).getLast? ≠ some v := by
 unfold beR
 cases hl : l.getLast? with
 | none => simp
 | some v =>
  cases hw : who s k v with
  | none => simp [hw]
  | some w =>
   simp only [hw]
   by_cases h : w.st = 2 ∨ w.id = i ∨ (appR w.ms k).getLast? = some v
   ·rw [if_pos h]
    simp only [Option.isSome_none, Bool.false_eq_true, false_iff]
    rintro ⟨v', w', e1, e2, h1, h2, h3⟩
    cases e1
    rw [hw] at e2
    cases e2
    rcases h with h | h | h
    ·exact h1 h
    ·exact h2 h
    ·exact h3 h
   ·rw [if_neg h]
    simp only [Option.isSome_some, true_iff]
    exact ⟨v, w, rfl, hw, fun e => h (.inl e), fun e => h (.inr (.inl e)), fun e => h (.inr (.inr e))⟩
theorem ap_some {o : Ods} {k : Int} {l : List Int} : (apR o k l).isSome = true ↔ begins l (keyO o k) = false := by
 unfold apR
 cases h : begins l (keyO o k) <;> simp
structure SI (s : Str) (o : Ods) (nw : Int → List (Int × Int)) : Prop where
 wr : ∀ k, ∀ x ∈ nw k, ∃ w, who s k x.2 = some w ∧ w.id = x.1 ∧ w.st ≠ 2
 up : ∀ k, (nw k).Pairwise fun a b => a.1 ≤ b.1
 rd : ∀ t ∈ s, ∀ r ∈ readsR t, ∃ a b, nw r.1 = a ++ b ∧ nums r.2 = a.map (·.2) ∧ (∀ x ∈ a, x.1 ≤ t.id) ∧ (∀ x ∈ b, t.id ≤ x.1) ∧ ∀ x, a.getLast? = some x → x.1 = t.id ∨ ∃ w, who s r.1 x.2 = some w ∧ (appR w.ms r.1).getLast? = some x.2
 ko : ∀ k, 0 ≤ k → keyO o k <+: (nw k).map (·.2)
 rk : ∀ t ∈ s, ∀ r ∈ readsR t, nums r.2 <+: keyO o r.1
theorem SI.wrR {s : Str} {o : Ods} {nw : Int → List (Int × Int)} (h : SI s o nw) {k : Int} {x : Int × Int} (hx : x ∈ nw k) : wrR s k x.2 = (x.1, true) := by
 obtain ⟨w, h1, h2, h3⟩ := h.wr k x hx
 unfold S.wrR
 rw [h1]
 simp [h2, h3]
theorem SI.clean {s : Str} {o : Ods} {nw : Int → List (Int × Int)} (h : SI s o nw) : faultsR s o = [] := by
 rw [List.eq_nil_iff_forall_not_mem]
 intro f hf
 obtain ⟨t, ht, r, hr, c, hc, hk, _, _, _⟩ := flt_mem.1 hf
 obtain ⟨a, b, e1, e2, h1, h2, h3⟩ := h.rd t ht r hr
 have hks : (chkR s o t.id r c).isSome = true := by rw [hk]; rfl
 have hin : ∀ v ∈ nums r.2, ∃ x ∈ nw r.1, x.2 = v := fun v hv => by
  rw [e2] at hv
  obtain ⟨x, hx, rfl⟩ := List.mem_map.1 hv
  exact ⟨x, by rw [e1]; exact List.mem_append_left _ hx, rfl⟩
 have hc' : c = 0 ∨ c = 1 ∨ c = 2 ∨ c = 3 := by omega
 rcases hc' with rfl | rfl | rfl | rfl
 ·obtain ⟨v, q1, w, q2, q3⟩ := ab_some.1 hks
  obtain ⟨x, hx, rfl⟩ := hin v q1
  obtain ⟨w', a1, _, a3⟩ := h.wr _ x hx
  rw [q2] at a1; cases a1
  exact a3 q3
 ·obtain ⟨v, w, q1, q2, q3, q4, q5⟩ := be_some.1 hks
  rw [e2, List.getLast?_map] at q1
  cases hl : a.getLast? with
  | none => rw [hl] at q1; cases q1
  | some x =>
   rw [hl] at q1
   cases q1
   have hx : x ∈ nw r.1 := by rw [e1]; exact List.mem_append_left _ (List.mem_of_getLast? hl)
   obtain ⟨w', a1, a2, _⟩ := h.wr _ x hx
   rw [q2] at a1; cases a1
   rcases h3 x hl with e | ⟨w', b1, b2⟩
   ·exact q4 (by rw [a2]; exact e)
   ·rw [q2] at b1; cases b1
    exact q5 b2
 ·have := ap_some.1 hks
  rw [C7.2 (h.rk t ht r hr)] at this; cases this
 ·obtain ⟨v, q1, q2⟩ := ga_some.1 hks
  obtain ⟨x, hx, rfl⟩ := hin v q1
  obtain ⟨w', a1, _⟩ := h.wr _ x hx
  rw [q2] at a1; cases a1
theorem SI.edge {s : Str} {o : Ods} {nw : Int → List (Int × Int)} (hs : SOk s) (h : SI s o nw) {x : Ek} (hx : x ∈ buildP s o) : x.1 < x.2.1 := by
 rw [Sj] at hx
 rcases hx with ⟨k, hk, hx⟩ | ⟨t, ht, hx⟩
 ·obtain ⟨u, v, h1, _, _, h4, rfl⟩ := mem_keyP.1 hx
  have hz := zip_pre (h.ko (k : Int) (by omega)) h1
  obtain ⟨i, hi, e⟩ := List.mem_iff_getElem.1 hz
  simp only [List.length_zip, lmp, List.length_tail] at hi
  rw [List.getElem_zip, List.getElem_tail, List.getElem_map, List.getElem_map] at e
  have eu := congrArg Prod.fst e
  have ev := congrArg Prod.snd e
  simp only at eu ev
  have w1 := h.wrR (gmm (show i < (nw k).length by omega))
  have w2 := h.wrR (gmm (show i + 1 < (nw k).length by omega))
  rw [eu] at w1
  rw [ev] at w2
  have hp := List.pairwise_iff_getElem.1 (h.up k) i (i + 1) (by omega) (by omega) (by omega)
  rw [w1, w2] at h4
  simp only [w1, w2] at h4 ⊢
  omega
 ·obtain ⟨_, r, hr, _, hx⟩ := mem_txnP.1 hx
  obtain ⟨a, b, e1, e2, h1, h2, _⟩ := h.rd t ht r hr
  rcases hx with hx | hx
  ·obtain ⟨v, q1, _, q3, rfl⟩ := L8.1 hx
   rw [e2, List.getLast?_map] at q1
   cases hl : a.getLast? with
   | none => rw [hl] at q1; cases q1
   | some y =>
    rw [hl] at q1
    cases q1
    have hy := List.mem_of_getLast? hl
    have w1 := h.wrR (show y ∈ nw r.1 by rw [e1]; exact List.mem_append_left _ hy)
    have := h1 y hy
    rw [w1] at q3
    simp only [w1] at q3 ⊢
    omega
  ·obtain ⟨v, q1, _, q3, rfl⟩ := L7.1 hx
   have k0 := (Dg (hs.ok t ht).ms r hr).1
   obtain ⟨m, hm⟩ := h.ko r.1 k0
   have hlen : (nums r.2).length = a.length := by rw [e2, lmp]
   have q1' : ((nw r.1).map (·.2))[a.length]? = some v := by
    rw [← hm, List.getElem?_append_left (by
     rcases Nat.lt_or_ge a.length (keyO o r.1).length with h | h
     ·exact h
     ·rw [hlen, List.getElem?_eq_none h] at q1; cases q1), ← hlen]
    exact q1
   rw [e1, mpp, List.getElem?_append_right (by simp), lmp, Nat.sub_self] at q1'
   cases b with
   | nil => simp at q1'
   | cons y b =>
    simp only [mcs, List.getElem?_cons_zero, Option.some.injEq] at q1'
    subst q1'
    have w1 := h.wrR (show y ∈ nw r.1 by rw [e1]; simp)
    have := h2 y (by simp)
    rw [w1] at q3
    simp only [w1] at q3 ⊢
    omega
theorem rch_le {P : List Ek} (h : ∀ x ∈ P, x.1 < x.2.1) {ks : Int → Bool} {a b : Int} (hr : Rch (outE (prs (edL P) ks)) a b) : a ≤ b := by
 induction hr with
 | refl => exact Int.le_refl _
 | step h1 _ ih =>
  obtain ⟨e, he, rfl, rfl, _⟩ := Fs.1 (Dr.1 h1)
  have := h _ (E7.1 he)
  simp only [ofEd] at this
  omega
theorem SI.none {s : Str} {o : Ods} {nw : Int → List (Int × Int)} (hs : SOk s) (h : SI s o nw) : ofN s o = 0 := by
 have hh : ∀ kinds wk, hitB (buildP s o) kinds wk = false := fun kinds wk => by
  rw [Bool.eq_false_iff]
  intro hb
  obtain ⟨e, he, _, hr⟩ := H6.1 hb
  have h1 := rch_le (fun x hx => h.edge hs hx) hr
  have h2 := h.edge hs (E7.1 he)
  simp only [ofEd] at h2
  omega
 rw [ofN, h.clean, cycN, hh, hh, hh]
 rfl
abbrev Nl := Int → List (Int × Int)
def addN (nw : Nl) (k : Int) (x : Int × Int) : Nl := fun j => if j = k then nw j ++ [x] else nw j
def micN (ap : Bool) (i : Int) : Nl → List Mi → Nl × List (List Int)
 | nw, [] => (nw, [])
 | nw, m :: ms => if m.read = true then ((micN ap i nw ms).1, (nw m.key).map (·.2) :: (micN ap i nw ms).2) else if ap = true then micN ap i (addN nw m.key (i, m.v)) ms else micN ap i nw ms
def ownN (ap : Bool) (i : Int) (ms : List Mi) (k : Int) : List (Int × Int) := if ap = true then (appR ms k).map fun v => (i, v) else []
theorem X9 (m : Mi) (ms : List Mi) (k : Int) : appR (m :: ms) k = (if m.read = false ∧ m.key = k then [m.v] else []) ++ appR ms k := by
 unfold appR
 rw [List.filter_cons]
 cases m.read <;> by_cases h : m.key = k <;> simp [h]
theorem Gj (ap : Bool) (i : Int) : ∀ (ms : List Mi) (nw : Nl) (k : Int), (micN ap i nw ms).1 k = nw k ++ ownN ap i ms k
 | [], nw, k => by simp [micN, ownN, appR]
 | m :: ms, nw, k => by
  have ih := Gj ap i ms
  rw [micN, ownN, X9]
  cases hm : m.read with
  | true => simp only [if_true, ih, ownN, Bool.true_eq_false, false_and, if_false, List.nil_append]
  | false =>
   cases ap with
   | false => simp [ih, ownN]
   | true =>
    simp only [Bool.false_eq_true, if_false, if_true, ih, ownN, addN, true_and]
    by_cases h : k = m.key
    ·subst h; simp
    ·have : ¬ m.key = k := fun e => h e.symm
     simp [h, this]
theorem Kr (ap : Bool) (i : Int) : ∀ (ms : List Mi) (nw : Nl), (micN ap i nw ms).2.length = (rkeys ms).length
 | [], nw => rfl
 | m :: ms, nw => by
  have ih := Kr ap i ms
  rw [micN]
  cases hm : m.read with
  | true => simp [ih, rkeys, hm]
  | false => cases ap <;> simp [ih, rkeys, hm]
theorem Nk (ap : Bool) (i : Int) : ∀ (ms : List Mi) (nw : Nl), ∀ r ∈ (rkeys ms).zip (micN ap i nw ms).2, ∃ c d, (micN ap i nw ms).1 r.1 = nw r.1 ++ c ++ d ∧ r.2 = (nw r.1 ++ c).map (·.2) ∧ (∀ x ∈ c, x.1 = i) ∧ ∀ x ∈ d, x.1 = i
 | [], nw, r, hr => by simp [rkeys] at hr
 | m :: ms, nw, r, hr => by
  have ih := Nk ap i ms
  have own : ∀ k, ∀ x ∈ ownN ap i ms k, x.1 = i := fun k x hx => by
   unfold ownN at hx
   split at hx
   ·obtain ⟨v, _, rfl⟩ := List.mem_map.1 hx; rfl
   ·cases hx
  cases hm : m.read with
  | true =>
   have e1 : rkeys (m :: ms) = m.key :: rkeys ms := by simp [rkeys, hm]
   have e2 : micN ap i nw (m :: ms) = ((micN ap i nw ms).1, (nw m.key).map (·.2) :: (micN ap i nw ms).2) := by rw [micN, if_pos hm]
   rw [e1, e2] at hr
   rw [e2]
   rcases List.mem_cons.1 hr with rfl | hr
   ·exact ⟨[], ownN ap i ms m.key, by rw [apn]; exact Gj ap i ms nw m.key, by rw [apn], (fun x hx => by cases hx), own _⟩
   ·exact ih nw r hr
  | false =>
   have e1 : rkeys (m :: ms) = rkeys ms := by simp [rkeys, hm]
   cases ap with
   | false =>
    have e2 : micN false i nw (m :: ms) = micN false i nw ms := by rw [micN]; simp [hm]
    rw [e1, e2] at hr
    rw [e2]
    exact ih nw r hr
   | true =>
    have e2 : micN true i nw (m :: ms) = micN true i (addN nw m.key (i, m.v)) ms := by rw [micN]; simp [hm]
    rw [e1, e2] at hr
    rw [e2]
    obtain ⟨c, d, h1, h2, h3, h4⟩ := ih _ r hr
    by_cases hk : r.1 = m.key
    ·refine ⟨(i, m.v) :: c, d, ?_, ?_, fun x hx => ?_, h4⟩
     ·rw [h1, addN, if_pos hk]; simp
     ·rw [h2, addN, if_pos hk]; simp
     ·rcases List.mem_cons.1 hx with rfl | hx
      ·rfl
      ·exact h3 x hx
    ·refine ⟨c, d, ?_, ?_, h3, h4⟩
     ·rw [h1, addN, if_neg hk]
     ·rw [h2, addN, if_neg hk]
theorem Ny {t : Tx} {k v : Int} : S.has t k v = true ↔ v ∈ appR t.ms k := by
 unfold S.has appR
 simp only [aet, Bool.and_eq_true, Bool.not_eq_true', decide_eq_true_eq, mmp, mfl]
 constructor
 ·rintro ⟨m, h1, h2, h3, h4⟩; exact ⟨m, ⟨h1, h2, h3⟩, h4⟩
 ·rintro ⟨m, ⟨h1, h2, h3⟩, h4⟩; exact ⟨m, h1, h2, h3, h4⟩
structure SB (s : Str) (o : Ods) (nw : Nl) (i : Int) : Prop where
 si : SI s o nw
 un : ∀ t ∈ s, ∀ k v, S.has t k v = true → who s k v = some t
 op : ∀ t ∈ s, i ≤ t.id → t.st = 0
 lt : ∀ k, ∀ x ∈ nw k, x.1 < i
 nd : ∀ k, ((nw k).map (·.2)).Nodup
 la : ∀ k x, (nw k).getLast? = some x → ∃ w, who s k x.2 = some w ∧ (appR w.ms k).getLast? = some x.2
 l8 : o.length = 8
 ky : ∀ t ∈ s, ∀ m ∈ t.ms, m.key < 8
 na : ∀ t ∈ s, ∀ k, (appR t.ms k).Nodup
theorem Gh {ap : Bool} {i : Int} {ms : List Mi} {k : Int} {x : Int × Int} (hx : x ∈ ownN ap i ms k) : x.1 = i ∧ x.2 ∈ appR ms k ∧ ap = true := by
 unfold ownN at hx
 split at hx
 ·rename_i h
  obtain ⟨v, hv, rfl⟩ := List.mem_map.1 hx
  exact ⟨rfl, hv, h⟩
 ·cases hx
theorem Ub {ap : Bool} {i : Int} {ms : List Mi} {k : Int} : (ownN ap i ms k).map (·.2) = if ap = true then appR ms k else [] := by
 unfold ownN
 split <;> simp [Function.comp_def]
theorem SB.step {s : Str} {o o' : Ods} {nw : Nl} {i : Int} {t0 : Tx} {f : Tx → Tx} {ap : Bool} (hs : SOk s) (h : SB s o nw i) (ht0 : find s i = some t0) (hid : ∀ t, (f t).id = t.id) (hms : ∀ t, (f t).ms = t.ms) (hap : ap = true → (f t0).st ≠ 2)
  (hrd : ∀ r ∈ readsR (f t0), ∃ r2, (r.1, r2) ∈ (rkeys t0.ms).zip (micN ap i nw t0.ms).2 ∧ nums r.2 = r2)
  (hg : ∀ j, 0 ≤ j → keyO o j <+: keyO o' j) (hko : ∀ j, 0 ≤ j → keyO o' j = keyO o j ∨ ∃ r ∈ readsR (f t0), r.1 = j ∧ nums r.2 = keyO o' j) (hgd : ∀ r ∈ readsR (f t0), r.1 < 8 ∧ Gd o' r.1 (nums r.2)) (h8 : o'.length = 8) :
  SB (mapId s i f) o' (micN ap i nw t0.ms).1 (i + 1) := by
 obtain ⟨hm0, hi0⟩ := E6 ht0
 have hfst := fun k => Gj ap i t0.ms nw k
 have huq : ∀ t ∈ s, t.id = i → t = t0 := fun t ht e => by
  have := Ep hs.lt ht e; rw [ht0] at this; exact (Option.some.inj this).symm
 -- writers of what lay there ahead
 have hold : ∀ k, ∀ x ∈ nw k, ∃ w, who s k x.2 = some w ∧ who (mapId s i f) k x.2 = some w ∧ w.id = x.1 ∧ w.st ≠ 2 := fun k x hx => by
  obtain ⟨w, a1, a2, a3⟩ := h.si.wr k x hx
  refine ⟨w, a1, ?_, a2, a3⟩
  rw [Ie hms, a1, Option.map_some, if_neg (by have := h.lt k x hx; omega)]
 have hnew : ∀ k v, v ∈ appR t0.ms k → who s k v = some t0 ∧ who (mapId s i f) k v = some (f t0) := fun k v hv => by
  have := h.un t0 hm0 k v (Ny.2 hv)
  exact ⟨this, by rw [Ie hms, this, Option.map_some, if_pos hi0]⟩
 have hlast : ∀ k x, (nw k).getLast? = some x → ∃ w, who (mapId s i f) k x.2 = some w ∧ (appR w.ms k).getLast? = some x.2 := fun k x hx => by
  obtain ⟨w, a1, a2⟩ := h.la k x hx
  obtain ⟨w', b1, b2, _⟩ := hold k x (List.mem_of_getLast? hx)
  rw [a1] at b1; cases b1
  exact ⟨w, b2, a2⟩
 -- a read of the one that is done now
 have hrnew : ∀ r ∈ readsR (f t0), ∃ a b, (micN ap i nw t0.ms).1 r.1 = a ++ b ∧ nums r.2 = a.map (·.2) ∧ (∀ x ∈ a, x.1 ≤ i) ∧ (∀ x ∈ b, i ≤ x.1) ∧ ∀ x, a.getLast? = some x → x.1 = i ∨ ∃ w, who (mapId s i f) r.1 x.2 = some w ∧ (appR w.ms r.1).getLast? = some x.2 := fun r hr => by
  obtain ⟨r2, q1, q2⟩ := hrd r hr
  obtain ⟨c, d, e1, e2, e3, e4⟩ := Nk ap i t0.ms nw _ q1
  refine ⟨nw r.1 ++ c, d, e1, by rw [q2]; exact e2, fun x hx => ?_, fun x hx => by rw [e4 x hx]; exact Int.le_refl _, fun x hx => ?_⟩
  ·rcases List.mem_append.1 hx with hx | hx
   ·have := h.lt _ x hx; omega
   ·rw [e3 x hx]; exact Int.le_refl _
  ·rw [List.getLast?_append] at hx
   cases hc : c.getLast? with
   | some y =>
    rw [hc] at hx
    simp only [Option.some_or, Option.some.injEq] at hx
    subst hx
    exact .inl (e3 _ (List.mem_of_getLast? hc))
   | none =>
    rw [hc, Option.none_or] at hx
    exact .inr (hlast _ _ hx)
 have hkpre : ∀ k, (nw k).map (·.2) <+: ((micN ap i nw t0.ms).1 k).map (·.2) := fun k => by
  rw [hfst, mpp]; exact List.prefix_append _ _
 have hko' : ∀ k, 0 ≤ k → keyO o' k <+: ((micN ap i nw t0.ms).1 k).map (·.2) := fun k hk => by
  rcases hko k hk with e | ⟨r, hr, rfl, e⟩
  ·rw [e]; exact (h.si.ko k hk).trans (hkpre k)
  ·obtain ⟨a, b, e1, e2, _⟩ := hrnew r hr
   rw [← e, e1, e2, mpp]; exact List.prefix_append _ _
 have hnd : ∀ k, (((micN ap i nw t0.ms).1 k).map (·.2)).Nodup := fun k => by
  rw [hfst, mpp, Ub]
  refine List.nodup_append.2 ⟨h.nd k, ?_, fun v hv v' hv' e => ?_⟩
  ·split
   ·exact h.na t0 hm0 k
   ·exact List.nodup_nil
  ·subst e
   split at hv'
   ·obtain ⟨x, hx, rfl⟩ := List.mem_map.1 hv
    obtain ⟨w, a1, _, a2, _⟩ := hold k x hx
    rw [(hnew k _ hv').1] at a1; cases a1
    have := h.lt k x hx
    omega
   ·cases hv'
 refine ⟨⟨fun k x hx => ?_, fun k => ?_, fun t' ht' r hr => ?_, hko', fun t' ht' r hr => ?_⟩, fun t' ht' k v hv => ?_, fun t' ht' hi => ?_, fun k x hx => ?_, hnd, fun k x hx => ?_, h8, fun t' ht' m hm => ?_, fun t' ht' k => ?_⟩
 ·rw [hfst] at hx
  rcases List.mem_append.1 hx with hx | hx
  ·obtain ⟨w, _, a2, a3, a4⟩ := hold k x hx
   exact ⟨w, a2, a3, a4⟩
  ·obtain ⟨e1, e2, e3⟩ := Gh hx
   exact ⟨f t0, (hnew k _ e2).2, by rw [hid, hi0, e1], hap e3⟩
 ·rw [hfst]
  refine List.pairwise_append.2 ⟨h.si.up k, ?_, fun x hx y hy => ?_⟩
  ·exact List.pairwise_of_forall_mem_list fun x hx y hy => by rw [(Gh hx).1, (Gh hy).1]; exact Int.le_refl _
  ·have := h.lt k x hx; rw [(Gh hy).1]; omega
 ·obtain ⟨t, ht, rfl⟩ := List.mem_map.1 ht'
  split at hr
  ·rename_i e
   have := huq t ht e
   subst this
   rw [if_pos e, hid, e]
   exact hrnew r hr
  ·rename_i e
   rw [if_neg e]
   obtain ⟨a, b, e1, e2, e3, e4, e5⟩ := h.si.rd t ht r hr
   have hti : t.id < i := by
    refine Classical.byContradiction fun hn => ?_
    have h1 := h.op t ht (by omega)
    have h2 := Wg hr
    omega
   refine ⟨a, b ++ ownN ap i t0.ms r.1, by rw [hfst, e1, List.append_assoc], e2, e3, fun x hx => ?_, fun x hx => ?_⟩
   ·rcases List.mem_append.1 hx with hx | hx
    ·exact e4 x hx
    ·rw [(Gh hx).1]; omega
   ·rcases e5 x hx with e | ⟨w, a1, a2⟩
    ·exact .inl e
    ·obtain ⟨w', b1, b2, _⟩ := hold r.1 x (by rw [e1]; exact List.mem_append_left _ (List.mem_of_getLast? hx))
     rw [a1] at b1; cases b1
     exact .inr ⟨w, b2, a2⟩
 ·obtain ⟨t, ht, rfl⟩ := List.mem_map.1 ht'
  split at hr
  ·rename_i e
   have := huq t ht e
   subst this
   obtain ⟨k8, hgr⟩ := hgd r hr
   obtain ⟨a, b, e1, e2, _⟩ := hrnew r hr
   have hpre : nums r.2 <+: ((micN ap i nw t.ms).1 r.1).map (·.2) := by rw [e1, e2, mpp]; exact List.prefix_append _ _
   rcases hgr with q | q | q | ⟨q1, q2⟩
   ·omega
   ·exact q
   ·have := Vx hpre q
    simp only [twiceB, Bool.not_eq_true', decide_eq_false_iff_not] at this
    exact absurd (hnd r.1) this
   ·have k0 : 0 ≤ r.1 := by
     obtain ⟨r2, p1, _⟩ := hrd r hr
     obtain ⟨m, hm, e⟩ := Rq (List.of_mem_zip p1).1
     have := ((hs.ok t ht).ms m hm).1
     omega
    rcases List.prefix_or_prefix_of_prefix hpre (hko' _ k0) with q | q
    ·exact absurd q q1
    ·exact absurd q q2
  ·exact (h.si.rk t ht r hr).trans (hg _ (Dg (hs.ok t ht).ms r hr).1)
 ·obtain ⟨t, ht, rfl⟩ := List.mem_map.1 ht'
  have hv' : S.has t k v = true := by
   rw [Ny] at hv ⊢
   split at hv
   ·rw [hms] at hv; exact hv
   ·exact hv
  rw [Ie hms, h.un t ht k v hv']; rfl
 ·obtain ⟨t, ht, rfl⟩ := List.mem_map.1 ht'
  split at hi
  ·rename_i e; rw [hid] at hi; omega
  ·rename_i e; rw [if_neg e]; exact h.op t ht (by omega)
 ·rw [hfst] at hx
  rcases List.mem_append.1 hx with hx | hx
  ·have := h.lt k x hx; omega
  ·rw [(Gh hx).1]; omega
 ·rw [hfst, List.getLast?_append] at hx
  cases hc : (ownN ap i t0.ms k).getLast? with
  | none => rw [hc, Option.none_or] at hx; exact hlast k x hx
  | some y =>
   rw [hc] at hx
   simp only [Option.some_or, Option.some.injEq] at hx
   subst hx
   obtain ⟨e1, e2, e3⟩ := Gh (List.mem_of_getLast? hc)
   refine ⟨f t0, (hnew k _ e2).2, ?_⟩
   rw [hms]
   have := congrArg (Option.map (·.2)) hc
   rw [← List.getLast?_map, Ub, if_pos e3] at this
   exact this
 ·obtain ⟨t, ht, rfl⟩ := List.mem_map.1 ht'
  split at hm
  ·rw [hms] at hm; exact h.ky t ht m hm
  ·exact h.ky t ht m hm
 ·obtain ⟨t, ht, rfl⟩ := List.mem_map.1 ht'
  split
  ·rw [hms]; exact h.na t ht k
  ·exact h.na t ht k
theorem Uc (j : Int) : keyO os0 j = [] := by
 unfold keyO os0
 split
 ·rfl
 ·generalize j.toNat = n
  rw [List.getD_eq_getElem?_getD]
  cases hh : ([[], [], [], [], [], [], [], []] : Ods)[n]? with
  | none => rfl
  | some l =>
   have := List.mem_of_getElem? hh
   simp at this
   simp [this]
def nw0 : Nl := fun _ => []
theorem SB.zero : SB [] os0 nw0 0 :=
 ⟨⟨fun k x hx => (by cases hx), fun k => List.Pairwise.nil, fun t ht => (by cases ht), fun k _ => by rw [Uc]; exact List.nil_prefix, fun t ht => (by cases ht)⟩, fun t ht => (by cases ht), fun t ht => (by cases ht), fun k x hx => (by cases hx), fun k => List.nodup_nil, fun k x hx => (by cases hx), rfl, fun t ht => (by cases ht), fun t ht => (by cases ht)⟩
theorem adds_app {l : List Mi} (h : (addsOf l).Nodup) (k : Int) : (appR l k).Nodup := by
 unfold addsOf at h
 unfold appR
 have h1 : (l.filter (!·.read)).Pairwise fun a b => (a.key, a.v) ≠ (b.key, b.v) := List.pairwise_map.1 h
 have e : (l.filter fun m => !m.read && decide (m.key = k)) = (l.filter (!·.read)).filter fun m => decide (m.key = k) := by
  rw [List.filter_filter]
  refine List.filter_congr fun m _ => Bool.and_comm _ _
 rw [e]
 refine List.pairwise_map.2 ?_
 refine ((h1.filter _).imp_of_mem fun {a b} ha hb hn e => hn ?_)
 have ka := (List.mem_filter.1 ha).2
 have kb := (List.mem_filter.1 hb).2
 simp only [decide_eq_true_eq] at ka kb
 rw [ka, kb, e]
theorem SB.begin {s : Str} (hs : SOk s) (h : SB s os0 nw0 0) {c i : Int} {l : List Mi} (he : (beginR s c i l).2 = 0) : SB (beginR s c i l).1 os0 nw0 0 := by
 unfold beginR at he ⊢
 by_cases h1 : okB c l = true
 ·simp only [if_pos h1] at he ⊢
  by_cases h2 : i ≤ lastId s
  ·simp [h2] at he
  ·simp only [if_neg h2] at he ⊢
   by_cases h3 : freshB s l = true
   ·simp only [if_pos h3] at he ⊢
    simp only [freshB, Bool.and_eq_true, decide_eq_true_eq, List.all_eq_true] at h3
    have hno : ∀ t ∈ s ++ [⟨i, c, l, [], 0⟩], readsR t = [] := fun t ht => by
     rcases List.mem_append.1 ht with ht | ht
     ·exact Gb (by have := h.op t ht (hs.ok t ht).id0; omega)
     ·rw [List.mem_singleton.1 ht]; rfl
    refine ⟨⟨fun k x hx => (by cases hx), fun k => List.Pairwise.nil, fun t ht r hr => (by rw [hno t ht] at hr; cases hr), fun k _ => (by rw [Uc]; exact List.nil_prefix), fun t ht r hr => (by rw [hno t ht] at hr; cases hr)⟩, fun t ht k v hv => ?_, fun t ht hi => ?_, fun k x hx => (by cases hx), fun k => List.nodup_nil, fun k x hx => (by cases hx), rfl, fun t ht m hm => ?_, fun t ht k => ?_⟩
    ·rw [who_app]
     rcases List.mem_append.1 ht with ht | ht
     ·rw [h.un t ht k v hv]; rfl
     ·have e := List.mem_singleton.1 ht
      rw [e] at hv ⊢
      have hin : (k, v) ∈ addsOf l := by
       have := Ny.1 hv
       unfold appR at this
       obtain ⟨m, hm, rfl⟩ := List.mem_map.1 this
       obtain ⟨a1, a2⟩ := List.mem_filter.1 hm
       simp only [Bool.and_eq_true, decide_eq_true_eq] at a2
       exact List.mem_map.2 ⟨m, List.mem_filter.2 ⟨a1, a2.1⟩, by rw [a2.2]⟩
      have hn := h3.2 _ hin
      simp only [Option.isNone_iff_eq_none] at hn
      rw [hn, Option.none_or, if_pos hv]
    ·rcases List.mem_append.1 ht with ht | ht
     ·exact h.op t ht hi
     ·rw [List.mem_singleton.1 ht]
    ·rcases List.mem_append.1 ht with ht | ht
     ·exact h.ky t ht m hm
     ·rw [List.mem_singleton.1 ht] at hm
      simp only [okB, Bool.and_eq_true, Bool.not_eq_true', List.any_eq_false] at h1
      have := h1.1.2 m hm
      simp only [badMi, Bool.or_eq_true, decide_eq_true_eq, not_or] at this
      omega
    ·rcases List.mem_append.1 ht with ht | ht
     ·exact h.na t ht k
     ·rw [List.mem_singleton.1 ht]; exact adds_app h3.1 k
   ·simp [h3] at he
 ·simp [h1] at he
theorem SB.commit {s : Str} {o : Ods} {nw : Nl} {i : Int} {t0 : Tx} {a : Ac} (hs : SOk s) (h : SB s o nw i) (hw : w6 a = 2 ∨ w6 a = 3) (hi : a.id = i) (ht0 : find s i = some t0) (hl : a.rdl.map nums = (micN true i nw t0.ms).2) (he : (actG s o a).2.2.1 = 0) (hs' : SOk (actG s o a).1) : SB (actG s o a).1 (actG s o a).2.1 (micN true i nw t0.ms).1 (i + 1) := by
 subst hi
 unfold actG at he hs' ⊢
 simp only [if_pos hw] at he hs' ⊢
 by_cases hc : (commitR s a.id a.rdl).2 = 0
 ·simp only [if_pos hc] at hs' ⊢
  obtain ⟨t, c1, c2, c3, c4⟩ := E0.1 hc
  rw [ht0] at c1; cases c1
  have hti := (E6 ht0).2
  have hfd : find (commitR s a.id a.rdl).1 a.id = some (comT a.rdl t0) := by
   rw [C6 hs.lt, Fz (G2 _), ht0]
   simp [hti]
  have hok' := (G0 hs' hfd).2.2
  rw [hfd, Option.getD_some, C6 hs.lt]
  have hcom : comT a.rdl t0 = { t0 with st := 1, ls := a.rdl } := by unfold comT; rw [if_pos ⟨c2, c3, c4⟩]
  have hrs : readsR (comT a.rdl t0) = (rkeys t0.ms).zip a.rdl := by rw [hcom]; simp [readsR]
  have hk : ∀ r ∈ readsR (comT a.rdl t0), 0 ≤ r.1 ∧ (nums r.2).length ≤ 32 := fun r hr => ⟨(Dg hok'.ms r hr).1, (D5 hok' r hr).1⟩
  have htw : ∀ j, 0 ≤ j → twiceB (keyO o j) = false := fun j hj => by
   simp only [twiceB, Bool.not_eq_false', decide_eq_true_eq]
   exact (h.nd j).sublist (h.si.ko j hj).sublist
  have hgr := Ha h.l8 fun r hr => (hk r hr).1
  obtain ⟨g1, g2⟩ := O3 h.l8 htw hk
  refine SB.step (ap := true) hs h ht0 (G2 _) (Vm _) (fun _ => by rw [hcom]; exact (show (1 : Int) ≠ 2 by decide)) (fun r hr => ?_) hgr.2.1 hgr.2.2.1 (fun r hr => ⟨?_, g1 r hr⟩) hgr.1
  ·rw [hrs] at hr
   refine ⟨nums r.2, ?_, rfl⟩
   rw [← hl, List.zip_map_right]
   exact List.mem_map.2 ⟨r, hr, rfl⟩
  ·rw [hrs] at hr
   obtain ⟨m, hm, e⟩ := Rq (List.of_mem_zip hr).1
   have := h.ky t0 (E6 ht0).1 m hm
   omega
 ·simp only [if_neg hc] at he
  exact absurd he hc
theorem SB.ends {s : Str} {o : Ods} {nw : Nl} {i st : Int} {t0 : Tx} {ap : Bool} (hs : SOk s) (h : SB s o nw i) (ht0 : find s i = some t0) (h1 : st ≠ 1) (h2 : ap = true → st ≠ 2) (h0 : t0.st = 0) : SB (endR s i st).1 o (micN ap i nw t0.ms).1 (i + 1) := by
 rw [K2 hs.lt]
 have he : endT st t0 = { t0 with st := st } := by unfold endT; rw [if_pos h0]
 have hr : readsR (endT st t0) = [] := by rw [he]; exact Gb h1
 exact SB.step hs h ht0 (Vf _) (Ve _) (fun hap => by rw [he]; exact h2 hap) (fun r hr' => by rw [hr] at hr'; cases hr') (fun j _ => List.prefix_refl _) (fun j _ => .inl rfl) (fun r hr' => by rw [hr] at hr'; cases hr') h.l8
def c_hist_0 : AC := (.seq (.r [.m 13 6,.m 14 0,.u 15 (.len 1 0) 14,.b 16 (.bin .lss) 13 15,.m 17 16,.M 18 5 17 true,.p 19 .pick [.t 17,.t 18,.F]] (.w 19 0)) (.seq (.block 1 (.par (.step 1 (.m 23 6) (.step 2 (.a 24 (.bin .add) 23 1) (.step 3 (.u 25 (.conv .u16) 24) (.step 4 (.m 26 0) (.step 5 (.m 27 6) (.step 0 (.u 22 (.load true 4) 4) (.step 6 (.b 28 (.idxp 2) 26 27) (.step 7 (.u 29 (.fld 0) 28) (.step 8 (.u 30 (.load false 1) 29) (.step 9 (.b 31 (.build [.int .u8 0,.int .u8 0,.int .u16 0,.nilsl,.nilsl] [(2, 1), (3, 1)]) 25 30) (.step 10 (.b 32 (.call 10) 22 31) (.step 11 (.a 33 (.bin .eql) 32 0) (.step 12 (.m 5 33) .done))))))))))))))) (.reg [.m 20 6,.a 21 (.bin .add) 20 1,.m 6 21])))
def c_hist_1 : AC := (.seq (.r [.m 34 7,.m 35 0,.u 36 (.len 1 0) 35,.b 37 (.bin .lss) 34 36,.m 38 37,.M 39 5 38 true,.p 40 .pick [.t 38,.t 39,.F]] (.w 40 2)) (.seq (.block 3 (.r [.m 43 7,.a 44 (.bin .add) 43 1,.u 45 (.conv .u16) 44,.m 46 0,.m 47 7,.b 48 (.idxp 2) 46 47,.u 49 (.fld 1) 48,.u 50 (.load false 1) 49,.p 51 (.build [.int .u8 0,.int .u8 0,.int .u16 0,.nilsl,.nilsl] [(0, 1), (2, 1), (4, 1)]) [.c (.int .u8 2),.t 45,.t 50],.p 8 (.alloc [.int .u8 0,.int .u8 0,.int .u16 0,.nilsl,.nilsl]) [],⟨none,.store 5, [.t 8,.t 51], none⟩] (.seq (.r [.m 52 0,.m 53 7,.b 54 (.idxp 2) 52 53,.u 55 (.fld 1) 54,.u 56 (.load false 1) 55,.u 57 (.len 1 0) 56,.a 58 (.bin .eql) 57 1,.m 59 58,.M 60 0 59 true,.M 61 7 59 true,.B 62 (.idxp 2) 60 61 59 true,.U 63 (.fld 1) 62 59 true,.U 64 (.load false 1) 63 59 true,.P 65 (.idxp 1) [.t 64,.i 0] 59 true,.U 66 (.load false 1) 65 59 true,.U 67 (.len 1 0) 66 59 true,.P 68 (.bin .eql) [.t 67,.i 1] 59 true,.p 69 .pick [.t 59,.t 68,.F],.m 70 69,.M 71 0 70 true,.M 72 7 70 true,.B 73 (.idxp 2) 71 72 70 true,.U 74 (.fld 1) 73 70 true,.U 75 (.load false 1) 74 70 true,.P 76 (.idxp 1) [.t 75,.i 0] 70 true,.U 77 (.load false 1) 76 70 true,.P 78 (.idxp 1) [.t 77,.i 0] 70 true,.U 79 (.load false 1) 78 70 true,.P 80 (.bin .eql) [.t 79,.c (.int .u16 9999)] 70 true,.p 81 .pick [.t 70,.t 80,.F]] (.cond (.t 81) (.reg [.m 82 7,.a 83 (.bin .add) 82 1,.u 84 (.conv .u16) 83,.p 85 (.build [.int .u8 0,.int .u8 0,.int .u16 0,.nilsl,.nilsl] [(0, 1), (2, 1)]) [.c (.int .u8 4),.t 84],⟨none,.store 5, [.t 8,.t 85], none⟩]) .skip)) (.reg [.u 86 (.load true 4) 4,.u 87 (.load true 5) 8,.b 88 (.call 10) 86 87,.a 89 (.bin .eql) 88 0,.m 5 89])))) (.reg [.m 41 7,.a 42 (.bin .add) 41 1,.m 7 42])))
def c_hist : AC := (.r [.v 2 (.nilptr),.v 3 (.nilptr)] (.r [.p 10 (.call 7) [],.m 9 10,.u 11 (.ext 0) 9,.u 12 (.ext 1) 9,.p 4 (.alloc [.nilptr,.nilptr,.nilptr,.nilptr]) [],⟨none,.store 4, [.t 4,.t 11], none⟩,.m 5 12] (.seq (.r [.v 6 (.int .i64 0)] (.block 0 (.loop c_hist_0))) (.seq (.r [.v 7 (.int .i64 0)] (.block 2 (.loop c_hist_1))) (.seq (.r [.m 90 5,.u 91 (.un .not) 90] (.cond (.t 91) (.r [.v 2 (.nilptr),.v 3 (.nilptr)] .ret) .skip)) (.seq (.par (.step 0 (.u 92 (.fld 0) 4) (.step 2 (.u 94 (.fld 1) 4) (.step 1 (.u 93 (.load false 1) 92) (.step 4 (.m 2 93) (.step 3 (.u 95 (.load false 1) 94) (.step 5 (.m 3 95) .done))))))) .ret))))))
theorem Z1 : compF Tryz.prog Tryz.f24 ⟨false, false, []⟩ = some (c_hist, [.tmp 2, .tmp 3], 96) := by kernel_rfl
def c_flagsL : AC := (.r [.v 2 (.int .u8 0)] (.r [.m 6 0,.u 7 (.call 24) 6,.m 5 7,.u 8 (.ext 0) 5,.u 9 (.ext 1) 5,.m 3 8,.m 4 9] (.seq (.r [.m 10 3,.p 11 (.eqn false 0) [.t 10,.c (.nilptr)]] (.cond (.t 11) (.r [.v 2 (.int .u8 255)] .ret) .skip)) (.r [.m 12 3,.m 13 4,.b 14 (.call 16) 12 13,.m 2 14] .ret))))
theorem Sa : compF Tryz.prog Tryz.f23 ⟨false, false, []⟩ = some (c_flagsL, [.tmp 2], 15) := by kernel_rfl
structure Dn where
 mv : V
 ml : List Mi
 rv : V
 rl : List (Option (List Int))
def Dn.V (d : Dn) : V := .agg [d.mv, d.rv]
structure Dn.ok (d : Dn) : Prop where
 ms : isMs d.mv d.ml
 ls : isLs d.rv d.rl
 mi : ∀ m ∈ d.ml, m.ok
 ns : ∀ o ∈ d.rl, ∀ n ∈ nums o, 0 ≤ n ∧ n < 65536
 bel : d.rv.bel 0 = true
 sm : d.ml.length ≤ 20 ∧ d.rl.length ≤ 20 ∧ ∀ o ∈ d.rl, (nums o).length ≤ 40
def deadB : List (Option (List Int)) → Bool
 | [o] => decide (nums o = [9999])
 | _ => false
def begA (d : Dn) (i : Int) : Ac := ⟨0, 0, i, d.mv, d.ml, .nilsl, []⟩
def endA (d : Dn) (i : Int) : Ac := if deadB d.rl = true then ⟨4, 0, i, .nilsl, [], .nilsl, []⟩ else ⟨2, 0, i, .nilsl, [], d.rv, d.rl⟩
def stepG (x : Str × Ods) (a : Ac) : Str × Ods := ((actG x.1 x.2 a).1, (actG x.1 x.2 a).2.1)
def runG (x : Str × Ods) (l : List Ac) : Str × Ods := l.foldl stepG x
def okH : Str × Ods → List Ac → Bool
 | _, [] => true
 | x, a :: l => decide ((actG x.1 x.2 a).2.2.1 = 0) && okH (stepG x a) l
theorem okH_at {l : List Ac} : ∀ {x : Str × Ods}, okH x l = true → ∀ k (h : k < l.length), (actG (runG x (l.take k)).1 (runG x (l.take k)).2 l[k]).2.2.1 = 0 := by
 induction l with
 | nil => intro x _ k h; simp at h
 | cons a l ih =>
  intro x h k hk
  simp only [okH, Bool.and_eq_true, decide_eq_true_eq] at h
  cases k with
  | zero => exact h.1
  | succ k => exact ih h.2 k (by simpa using hk)
theorem Pj {l : List Ac} {x : Str × Ods} {k : Nat} (h : k < l.length) : runG x (l.take (k + 1)) = stepG (runG x (l.take k)) l[k] := by
 rw [tao, gEg h, runG, List.foldl_append]; rfl
def begsA (ds : List Dn) : List Ac := ds.mapIdx fun k d => begA d ((k + 1 : Nat) : Int)
def endsA (ds : List Dn) : List Ac := ds.mapIdx fun k d => endA d ((k + 1 : Nat) : Int)
theorem nil_ms : isMs .nilsl [] := .inl ⟨rfl, rfl⟩
theorem Ni : isLs .nilsl [] := ⟨[], .inl ⟨rfl, rfl⟩, rfl, fun k h => by simp at h⟩
theorem begA_ok {d : Dn} (h : d.ok) {i : Int} (hi : 0 ≤ i ∧ i < 65536) : (begA d i).ok ∧ (begA d i).small :=
 ⟨⟨⟨Int.le_refl 0, by show (0 : Int) < 256; decide⟩, ⟨Int.le_refl 0, by show (0 : Int) < 256; decide⟩, hi, h.ms, Ni, h.mi, fun o ho => (by cases ho), rfl⟩, h.sm.1, by simp [begA], fun o ho => (by cases ho)⟩
theorem endA_ok {d : Dn} (h : d.ok) {i : Int} (hi : 0 ≤ i ∧ i < 65536) : (endA d i).ok ∧ (endA d i).small := by
 unfold endA
 split
 ·exact ⟨⟨⟨by show (0 : Int) ≤ 4; decide, by show (4 : Int) < 256; decide⟩, ⟨Int.le_refl 0, by show (0 : Int) < 256; decide⟩, hi, nil_ms, Ni, (fun m hm => by cases hm), (fun o ho => by cases ho), rfl⟩, by simp, by simp, fun o ho => by cases ho⟩
 ·exact ⟨⟨⟨by show (0 : Int) ≤ 2; decide, by show (2 : Int) < 256; decide⟩, ⟨Int.le_refl 0, by show (0 : Int) < 256; decide⟩, hi, nil_ms, h.ls, (fun m hm => by cases hm), h.ns, h.bel⟩, by simp, h.sm.2.1, h.sm.2.2⟩
theorem fdD0 {W : AW} {K : V → AW → Prop} {d : Dn} : sem E (.fld 0) [.cptr d.V.cells] W K = K (.cptr [d.mv, d.rv]) W := by
 simp [Dn.V, V.cells, sem, rsem, tsem]
theorem S4 {W : AW} {K : V → AW → Prop} {d : Dn} : sem E (.fld 1) [.cptr d.V.cells] W K = K (.cptr [d.rv]) W := by
 simp [Dn.V, V.cells, sem, rsem, tsem]
theorem Vw {k : Nat} (h : k < 1000) : IntKind.u16.wrap ((k + 1 : Nat) : Int) = ((k + 1 : Nat) : Int) := IntWalk.u16_in _ (by omega)
theorem Qf {s : Nat} {v : V} {xs : List V} {W : AW} {K : V → AW → Prop} (h : isS s v xs) {x : V} (hx : xs[0]? = some x) : sem E (.idxp s) [v, .int .i64 0] W K = K (.cptr x.cells) W := h.idx (k := 0) hx
theorem Xr (hP : PE E) (W : AW) {v : V} {ds : List Dn} (hv : isS 2 v (ds.map Dn.V)) (hd : ∀ d ∈ ds, d.ok) (hl : ds.length ≤ 100) (hok1 : okH ([], os0) (begsA ds) = true) (hok2 : okH (runG ([], os0) (begsA ds)) (endsA ds) = true) :
  ACalls E 24 [v] W fun Y W' => ∃ p ra rw q, Y = .tuple [.ptr p 0, .ptr q 0] ∧ Sx W W' p ra rw q (runG (runG ([], os0) (begsA ds)) (endsA ds)).1 (runG (runG ([], os0) (begsA ds)) (endsA ds)).2 := by
 refine ACalls.of hP Tryz.func24 Z1 (by simp) fun _ hok => ?_
 refine Af hok ?_
 have hbl : (begsA ds).length = ds.length := by simp [begsA]
 have hel : (endsA ds).length = ds.length := by simp [endsA]
 simp (disch:=omega) only [BZ, c_hist]
 refine (U4 hP _).mono ?_
 rintro _ W1 ⟨F, p, ra, rw, q, rfl, hB⟩
 have hst := Oq hok
 rw [← hst] at hB
 rw [hB.cl.start]
 simp (disch:=omega) only [BZ, ↓reduceIte, nE, BM, BD, nA, nL, nT, ]
 have hE1 : Ex W1 (X W1 W1.nx [.row [.ptr p 0, .ptr q 0, .ptr F 0, .ptr (F + 1) 0]]) := (Ex.refl hB.cl).X
 have hB1 := hB.ex hE1
 have g4 : (X W1 W1.nx [.row [.ptr p 0, .ptr q 0, .ptr F 0, .ptr (F + 1) 0]]).get (rf W1.nx 0) = some (.row [.ptr p 0, .ptr q 0, .ptr F 0, .ptr (F + 1) 0]) := by rw [Ao]; rfl
 have r0 : rf W1.nx 0 = W1.nx := rfl
 have l1 := hB.lt
 have l2 := hB.nx
 have n2 : (X W1 W1.nx [.row [.ptr p 0, .ptr q 0, .ptr F 0, .ptr (F + 1) 0]]).nx = W1.nx + 1 := rfl
 obtain ⟨W2, hW2⟩ : ∃ W2, W2 = X W1 W1.nx [.row [.ptr p 0, .ptr q 0, .ptr F 0, .ptr (F + 1) 0]] := ⟨_, rfl⟩
 rw [← hW2] at hB1 g4 n2 ⊢
 clear hW2
 have keep : ∀ {Wa Wb : AW}, FrB Wa Wb F p ra rw q → W1.nx < Wa.nx → Wa.get (rf W1.nx 0) = some (.row [.ptr p 0, .ptr q 0, .ptr F 0, .ptr (F + 1) 0]) → Wb.get (rf W1.nx 0) = some (.row [.ptr p 0, .ptr q 0, .ptr F 0, .ptr (F + 1) 0]) := fun hF hx hg => by
  rw [hF.get _ (by omega) (by omega) (by omega) (by omega) (by omega) (by omega) (by omega) (fun cs => by rw [hg]; simp)]; exact hg
 rw [Ai]
 refine alp (fun (k : Nat) A1 Wa => A1 0 = some v ∧ A1 4 = some (.ptr (rf W1.nx 0) 0) ∧ A1 5 = some (.bool true) ∧ A1 6 = some (.int .i64 k) ∧ k ≤ ds.length ∧ W1.nx < Wa.nx ∧ Wa.get (rf W1.nx 0) = some (.row [.ptr p 0, .ptr q 0, .ptr F 0, .ptr (F + 1) 0]) ∧ Bt W F p ra rw q Wa (runG ([], os0) ((begsA ds).take k)).1 (runG ([], os0) ((begsA ds).take k)).2 (8 * k)) (fun k => ds.length - k) 0
  ⟨rfl, rfl, rfl, rfl, Nat.zero_le _, by omega, g4, hB1⟩ ?_
 rintro k A1 Wa ⟨g0, ga4, g5, g6, gk, gn, gr, gB⟩ gW
 by_cases hk : k < ds.length
 ·have hkb : k < (begsA ds).length := by omega
  have hat : (ds.map Dn.V)[k]? = some (ds[k]).V := by simp [hk]
  have hdk := hd _ (gmm hk)
  have hbk : (begsA ds)[k] = begA ds[k] ((k + 1 : Nat) : Int) := by simp [begsA]
  have hzr := okH_at hok1 k hkb
  have hsn := Pj (x := ([], os0)) hkb
  rw [hbk] at hzr hsn
  generalize ds[k] = d at hat hdk hzr hsn
  obtain ⟨ha, hs⟩ := begA_ok hdk (i := ((k + 1 : Nat) : Int)) (by omega)
  have hms : isS 3 d.mv (d.ml.map Mi.V) := hdk.ms
  have hz : ((0 : Int) == 0) = true := rfl
  have hact := Vu (E := E) hP Wa gB (by omega) ha hs.m
  simp only [Ac.V, begA] at hact
  simp (disch:=omega) only [BS, Am, ↓reduceIte, nE, reduceCtorEq, c_hist_0, g0, g6, hv.len, lmp, clt, hk, dT]
  repeat (rw [Aa]; simp (disch:=omega) only [BS, Am, Ad, ↓reduceIte, nE, g5])
  simp (disch:=omega) only [BS, BC, ↓reduceIte, nE, reduceCtorEq, BM, BD, nA, nL, g0, ga4, g6, gr, hv.idx hat, fdD0, hms.cells, Ah, Vw]
  refine hact.mono ?_
  rintro _ Wc ⟨rfl, hB', hF'⟩
  have hzr' : (actG (runG ([], os0) ((begsA ds).take k)).1 (runG ([], os0) ((begsA ds).take k)).2 ⟨0, 0, ((k + 1 : Nat) : Int), d.mv, d.ml, .nilsl, []⟩).2.2.1 = 0 := hzr
  rw [hzr']
  simp (disch:=omega) only [BS, ↓reduceIte, nE, reduceCtorEq, g0, ga4, g6, hz, Ah]
  refine ⟨k + 1, ⟨tt, tt, tt, tt, hk, by have := hF'.nx; omega, keep hF' gn gr, by rw [hsn]; exact hB'⟩, by omega, ?_⟩
  have := hF'.nx; omega
 ·obtain rfl : k = ds.length := by omega
  rw [List.take_of_length_le (by omega)] at gB
  simp (disch:=omega) only [BS, Am, ↓reduceIte, nE, reduceCtorEq, c_hist_0, g0, g6, hv.len, lmp, clt, hk, dF]
  repeat (rw [Aa]; simp (disch:=omega) only [BX, ↓reduceIte, nE, BM])
  rw [Ai]
  refine alp (fun (k : Nat) A1 Wc => A1 0 = some v ∧ A1 4 = some (.ptr (rf W1.nx 0) 0) ∧ A1 5 = some (.bool true) ∧ A1 7 = some (.int .i64 k) ∧ k ≤ ds.length ∧ Wa.nx ≤ Wc.nx ∧ Wc.get (rf W1.nx 0) = some (.row [.ptr p 0, .ptr q 0, .ptr F 0, .ptr (F + 1) 0]) ∧ Bt W F p ra rw q Wc (runG (runG ([], os0) (begsA ds)) ((endsA ds).take k)).1 (runG (runG ([], os0) (begsA ds)) ((endsA ds).take k)).2 (8 * ds.length + 8 * k)) (fun k => ds.length - k) 0
   ⟨g0, ga4, g5, rfl, Nat.zero_le _, lr _, gr, gB⟩ ?_
  rintro k A2 Wc ⟨q0, qa4, q5, q7, qk, qn, qr, qB⟩ _
  by_cases hk : k < ds.length
  ·have hkb : k < (endsA ds).length := by omega
   have hat : (ds.map Dn.V)[k]? = some (ds[k]).V := by simp [hk]
   have hdk := hd _ (gmm hk)
   have hbk : (endsA ds)[k] = endA ds[k] ((k + 1 : Nat) : Int) := by simp [endsA]
   have hzr := okH_at hok2 k hkb
   have hsn := Pj (x := runG ([], os0) (begsA ds)) hkb
   rw [hbk] at hzr hsn
   generalize ds[k] = d at hat hdk hzr hsn
   obtain ⟨ha, hs⟩ := endA_ok hdk (i := ((k + 1 : Nat) : Int)) (by omega)
   obtain ⟨xs, i1, i2, i3⟩ := id hdk.ls
   have hz : ((0 : Int) == 0) = true := rfl
   have hbc : rf W1.nx 0 < Wc.nx := by omega
   have hEc : ∀ l, Ex Wc (X Wc Wc.nx l) := fun l => (Ex.refl qB.cl).X
   have hXr : ∀ l, (X Wc Wc.nx l).get (rf W1.nx 0) = some (.row [.ptr p 0, .ptr q 0, .ptr F 0, .ptr (F + 1) 0]) := fun l => (Aj hbc).trans qr
   have hact := fun l => Vu (E := E) hP (X Wc Wc.nx l) (qB.ex (hEc l)) (by omega) ha hs.m
   refine Au qB.cl ?_
   have done : ∀ (l : List AObj) (Wd : AW), Bt W F p ra rw q Wd (actG (runG (runG ([], os0) (begsA ds)) ((endsA ds).take k)).1 (runG (runG ([], os0) (begsA ds)) ((endsA ds).take k)).2 (endA d ((k + 1 : Nat) : Int))).1 (actG (runG (runG ([], os0) (begsA ds)) ((endsA ds).take k)).1 (runG (runG ([], os0) (begsA ds)) ((endsA ds).take k)).2 (endA d ((k + 1 : Nat) : Int))).2.1 (8 * ds.length + 8 * k + 8) → FrB (X Wc Wc.nx l) Wd F p ra rw q →
     (k + 1 ≤ ds.length ∧ Wa.nx ≤ Wd.nx ∧ Wd.get (rf W1.nx 0) = some (.row [.ptr p 0, .ptr q 0, .ptr F 0, .ptr (F + 1) 0]) ∧ Bt W F p ra rw q Wd (runG (runG ([], os0) (begsA ds)) ((endsA ds).take (k + 1))).1 (runG (runG ([], os0) (begsA ds)) ((endsA ds).take (k + 1))).2 (8 * ds.length + 8 * (k + 1))) ∧ ds.length - (k + 1) < ds.length - k ∧ Wa.nx ≤ Wd.nx := by
    intro l Wd hB' hF'
    have hx := hF'.nx
    have hxl : Wc.nx ≤ (X Wc Wc.nx l).nx := (hEc l).nx
    exact ⟨⟨hk, by omega, keep hF' (by omega) (hXr l), by rw [hsn]; exact hB'⟩, by omega, by omega⟩
   by_cases hdb : deadB d.rl = true
   ·have hle : d.rl.length = 1 ∧ ∃ o, d.rl = [o] ∧ nums o = [9999] := by
     unfold deadB at hdb
     split at hdb
     ·rename_i o ho
      exact ⟨by rw [ho]; rfl, o, ho, of_decide_eq_true hdb⟩
     ·cases hdb
    obtain ⟨h1, o, ho, hn9⟩ := hle
    have hx1 : xs.length = 1 := by omega
    have e1 : (((xs.length : Nat) : Int) == 1) = true := by rw [hx1]; rfl
    have ex : xs[0]? = some (xs[0]'(by omega)) := gEg _
    have t := i3 0 (by omega) (by omega)
    have ho' : d.rl[0]'(by omega) = o := by simp [ho]
    rw [ho'] at t
    generalize xs[0]'(by omega) = x0 at ex t
    have hxs := t.isS
    rw [hn9] at hxs
    have e2 : ((((intsV [9999]).length : Nat) : Int) == 1) = true := rfl
    have e3 : ((9999 : Int) == 9999) = true := rfl
    have ev : endA d ((k + 1 : Nat) : Int) = ⟨4, 0, ((k + 1 : Nat) : Int), .nilsl, [], .nilsl, []⟩ := by rw [endA, if_pos hdb]
    rw [ev] at hact hzr done
    simp only [Ac.V] at hact
    simp (disch:=omega) only [BS, Am, ↓reduceIte, nE, reduceCtorEq, c_hist_1, q0, q7, hv.len, lmp, clt, hk, dT]
    repeat (rw [Aa]; simp (disch:=omega) only [BS, Am, Ad, ↓reduceIte, nE, q5])
    simp (disch:=omega) only [BZ, ↓reduceIte, nE, reduceCtorEq, BM, BD, nA, nL, nT, q0, q7, hv.idx hat, S4, i1.cells, i1.one, i1.len, e1, Ah, Vw]
    repeat (rw [Aa]; simp (disch:=omega) only [BS, BC, Ad, ↓reduceIte, nE, reduceCtorEq, BM, BD, nA, nL, nT, q0, qa4, q7, hv.idx hat, S4, Ah, Vw, Qf i1 ex, hxs.loadf, hxs.len, e2, Qf hxs (show (intsV [9999])[0]? = some (.int .u16 9999) from rfl), e3, qr])
    refine (hact _).mono ?_
    rintro _ Wd ⟨rfl, hB', hF'⟩
    rw [hzr]
    simp (disch:=omega) only [BS, ↓reduceIte, nE, reduceCtorEq, q0, qa4, q7, hz, Ah]
    exact ⟨k + 1, ⟨tt, tt, tt, tt, (done _ _ hB' hF').1⟩, (done _ _ hB' hF').2⟩
   ·have ev : endA d ((k + 1 : Nat) : Int) = ⟨2, 0, ((k + 1 : Nat) : Int), .nilsl, [], d.rv, d.rl⟩ := by rw [endA, if_neg hdb]
    rw [ev] at hact hzr done
    simp only [Ac.V] at hact
    have hfz := fun W => i1.frz (W := W)
    by_cases h1 : d.rl.length = 1
    ·obtain ⟨o, ho⟩ : ∃ o, d.rl = [o] := by
      match hh : d.rl, h1 with
      | [o], _ => exact ⟨o, rfl⟩
     have hx1 : xs.length = 1 := by omega
     have e1 : (((xs.length : Nat) : Int) == 1) = true := by rw [hx1]; rfl
     have ex : xs[0]? = some (xs[0]'(by omega)) := gEg _
     have t := i3 0 (by omega) (by omega)
     have ho' : d.rl[0]'(by omega) = o := by simp [ho]
     rw [ho'] at t
     generalize xs[0]'(by omega) = x0 at ex t
     have hxs := t.isS
     have hnd : nums o ≠ [9999] := fun e => hdb (by simp [deadB, ho, e])
     by_cases h2 : (nums o).length = 1
     ·obtain ⟨z, hz1⟩ : ∃ z, nums o = [z] := by
       match hh : nums o, h2 with
       | [z], _ => exact ⟨z, rfl⟩
      rw [hz1] at hxs
      have e2 : ((((intsV [z]).length : Nat) : Int) == 1) = true := rfl
      have e3 : (z == 9999) = false := by
       have : z ≠ 9999 := fun e => hnd (by rw [hz1, e])
       simpa using this
      simp (disch:=omega) only [BS, Am, ↓reduceIte, nE, reduceCtorEq, c_hist_1, q0, q7, hv.len, lmp, clt, hk, dT]
      repeat (rw [Aa]; simp (disch:=omega) only [BS, Am, Ad, ↓reduceIte, nE, q5])
      simp (disch:=omega) only [BZ, ↓reduceIte, nE, reduceCtorEq, BM, BD, nA, nL, nT, q0, q7, hv.idx hat, S4, i1.cells, i1.one, i1.len, e1, Ah, Vw]
      repeat (rw [Aa]; simp (disch:=omega) only [BS, BC, Ad, ↓reduceIte, nE, reduceCtorEq, BM, BD, nA, nL, q0, qa4, q7, hv.idx hat, S4, Qf i1 ex, hxs.loadf, hxs.len, e2, Qf hxs (show (intsV [z])[0]? = some (.int .u16 z) from rfl), e3, qr])
      refine (hact _).mono ?_
      rintro _ Wd ⟨rfl, hB', hF'⟩
      rw [hzr]
      simp (disch:=omega) only [BS, ↓reduceIte, nE, reduceCtorEq, q0, qa4, q7, hz, Ah]
      exact ⟨k + 1, ⟨tt, tt, tt, tt, (done _ _ hB' hF').1⟩, (done _ _ hB' hF').2⟩
     ·have e2 : ((((intsV (nums o)).length : Nat) : Int) == 1) = false := by rw [Ak]; simp; omega
      simp (disch:=omega) only [BS, Am, ↓reduceIte, nE, reduceCtorEq, c_hist_1, q0, q7, hv.len, lmp, clt, hk, dT]
      repeat (rw [Aa]; simp (disch:=omega) only [BS, Am, Ad, ↓reduceIte, nE, q5])
      simp (disch:=omega) only [BZ, ↓reduceIte, nE, reduceCtorEq, BM, BD, nA, nL, nT, q0, q7, hv.idx hat, S4, i1.cells, i1.one, i1.len, e1, Ah, Vw]
      repeat (rw [Aa]; simp (disch:=omega) only [BS, BC, Ad, ↓reduceIte, nE, reduceCtorEq, BM, BD, nA, nL, q0, qa4, q7, hv.idx hat, S4, Qf i1 ex, hxs.loadf, hxs.len, e2, qr])
      refine (hact _).mono ?_
      rintro _ Wd ⟨rfl, hB', hF'⟩
      rw [hzr]
      simp (disch:=omega) only [BS, ↓reduceIte, nE, reduceCtorEq, q0, qa4, q7, hz, Ah]
      exact ⟨k + 1, ⟨tt, tt, tt, tt, (done _ _ hB' hF').1⟩, (done _ _ hB' hF').2⟩
    ·have e1 : (((xs.length : Nat) : Int) == 1) = false := by simp; omega
     simp (disch:=omega) only [BS, Am, ↓reduceIte, nE, reduceCtorEq, c_hist_1, q0, q7, hv.len, lmp, clt, hk, dT]
     repeat (rw [Aa]; simp (disch:=omega) only [BS, Am, Ad, ↓reduceIte, nE, q5])
     simp (disch:=omega) only [BZ, ↓reduceIte, nE, reduceCtorEq, BM, BD, nA, nL, nT, q0, q7, hv.idx hat, S4, i1.cells, i1.one, i1.len, e1, Ah, Vw]
     repeat (rw [Aa]; simp (disch:=omega) only [BS, BC, Ad, ↓reduceIte, nE, BM, BD, nA, nL, qa4, qr])
     refine (hact _).mono ?_
     rintro _ Wd ⟨rfl, hB', hF'⟩
     rw [hzr]
     simp (disch:=omega) only [BS, ↓reduceIte, nE, reduceCtorEq, q0, qa4, q7, hz, Ah]
     exact ⟨k + 1, ⟨tt, tt, tt, tt, (done _ _ hB' hF').1⟩, (done _ _ hB' hF').2⟩
  ·obtain rfl : k = ds.length := by omega
   rw [List.take_of_length_le (by omega)] at qB
   simp (disch:=omega) only [BS, Am, ↓reduceIte, nE, reduceCtorEq, c_hist_1, q0, q7, hv.len, lmp, clt, hk, dF]
   repeat (rw [Aa]; simp (disch:=omega) only [BX, ↓reduceIte, nE, BM, BD, q5])
   simp (disch:=omega) only [BS, BC, ↓reduceIte, nE, BM, BD, qa4, qr]
   exact ⟨_, rfl, _, _, .weak Ab, by have := qB.sx.nw.ex.nx; omega, p, ra, rw, q, rfl, qB.sx⟩
end Go.AL.S
