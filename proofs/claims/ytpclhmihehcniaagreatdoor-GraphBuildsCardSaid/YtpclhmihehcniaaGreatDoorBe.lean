/- What the program's functions do, part 5. Conditions: none. -/
import Derived.Test.YtpclhmihehcniaaGreatDoorBd
open Nat renaming reduceEqDiff → nE, reduceLeDiff → nL, reduceAdd → nA, reduceLT → nT, le_refl → lr
open List renaming getElem?_eq_getElem → gEg, length_map → lmp, getElem_mem → gmm, length_append → lap, length_cons → lcs, mem_singleton → msg, append_nil → apn, mem_append → map', take_length → tkl, map_cons → mcs, map_append → mpp, mem_map → mmp, any_eq_true → aet, length_replicate → lrp, take_add_one → tao, length_take → ltk, mem_filter → mfl
set_option maxRecDepth 100000
set_option maxHeartbeats 2000000
namespace Go.AL.S
open Go Go.AL Go.AL.SE Go.Proofs
def c_rTimes_0 : AC := (.seq (.r [.m 11 8,.m 12 1,.u 13 (.len 1 0) 12,.b 14 (.bin .lss) 11 13] (.w 14 0)) (.seq (.block 1 (.seq (.par (.step 0 (.m 17 1) (.step 1 (.m 18 8) (.step 2 (.b 19 (.idxp 3) 17 18) (.step 3 (.u 20 (.load true 3) 19) (.step 4 (.u 21 (.load true 3) 5) (.step 5 (.b 22 (.eqv false (true, [.b,.i .u8,.i .u16])) 20 21) .done))))))) (.cond (.t 22) (.reg [.m 23 7,.a 24 (.bin .add) 23 1,.m 7 24]) .skip))) (.reg [.m 15 8,.a 16 (.bin .add) 15 1,.m 8 16])))
def c_rTimes_2 : AC := (.seq (.r [.m 34 10,.m 35 0,.u 36 .nilck 35,.u 37 (.fld 0) 36,.u 38 (.load false 1) 37,.m 39 9,.b 40 (.idxp 5) 38 39,.u 41 (.fld 2) 40,.u 42 (.load false 1) 41,.u 43 (.len 1 0) 42,.b 44 (.bin .lss) 34 43] (.w 44 4)) (.seq (.block 5 (.seq (.par (.step 0 (.m 47 0) (.step 1 (.u 48 .nilck 47) (.step 2 (.u 49 (.fld 0) 48) (.step 4 (.m 51 9) (.step 8 (.m 55 10) (.step 3 (.u 50 (.load false 1) 49) (.step 5 (.b 52 (.idxp 5) 50 51) (.step 6 (.u 53 (.fld 2) 52) (.step 7 (.u 54 (.load false 1) 53) (.step 9 (.b 56 (.idxp 3) 54 55) (.step 10 (.u 57 (.load true 3) 56) (.step 11 (.u 58 (.load true 3) 5) (.step 12 (.b 59 (.eqv false (true, [.b,.i .u8,.i .u16])) 57 58) .done)))))))))))))) (.cond (.t 59) (.reg [.m 60 7,.a 61 (.bin .add) 60 1,.m 7 61]) .skip))) (.reg [.m 45 10,.a 46 (.bin .add) 45 1,.m 10 46])))
def c_rTimes_1 : AC := (.seq (.r [.m 25 9,.m 26 0,.u 27 .nilck 26,.u 28 (.fld 0) 27,.u 29 (.load false 1) 28,.u 30 (.len 1 0) 29,.b 31 (.bin .lss) 25 30] (.w 31 2)) (.seq (.block 3 (.r [.v 10 (.int .i64 0)] (.block 4 (.loop c_rTimes_2)))) (.reg [.m 32 9,.a 33 (.bin .add) 32 1,.m 9 33])))
def c_rTimes : AC := (.r [.u 5 .box 2,.v 6 (.int .i64 0)] (.r [.v 7 (.int .i64 0)] (.seq (.r [.v 8 (.int .i64 0)] (.block 0 (.loop c_rTimes_0))) (.seq (.r [.v 9 (.int .i64 0)] (.block 2 (.loop c_rTimes_1))) (.r [.m 62 7,.m 6 62] .ret)))))
theorem ok_rTimese : compF Tryz.prog Tryz.f93 ⟨false, false, []⟩ = some (c_rTimes, [.tmp 6], 63) := by kernel_rfl
variable {E : Env}
def tmN (l : List Mi) (m : Mi) : Nat := l.countP fun x => decide (x = m)
def tmS (s : Str) (m : Mi) : Nat := (s.map fun t => tmN t.ms m).sum
theorem tmN_take {l : List Mi} {m : Mi} {k : Nat} (h : k < l.length) : tmN (l.take (k + 1)) m = tmN (l.take k) m + (if l[k] = m then 1 else 0) := by
 unfold tmN
 rw [tao, gEg h, Option.toList_some, List.countP_append, List.countP_cons, List.countP_nil]
 simp
theorem tmN_le (l : List Mi) (m : Mi) : tmN l m ≤ l.length := List.countP_le_length
theorem tmS_take {s : Str} {m : Mi} {k : Nat} (h : k < s.length) : tmS (s.take (k + 1)) m = tmS (s.take k) m + tmN s[k].ms m := by
 unfold tmS
 rw [tao, gEg h, Option.toList_some, mpp, List.sum_append]
 simp
theorem tmS_le {s : Str} (hs : ∀ t ∈ s, t.ok) (m : Mi) : tmS s m ≤ s.length * 8 := by
 induction s with
 | nil => simp [tmS]
 | cons t s ih =>
  have h1 := tmN_le t.ms m
  have h2 := (hs t (by simp)).msl
  have h3 := ih fun x hx => hs x (by simp [hx])
  simp only [tmS, mcs, List.sum_cons, lcs] at h3 ⊢
  omega
theorem rTimes_c (hP : PE E) (W : AW) {sp lo : Nat} {h : V} {l : List Rt} (hR : Rs W sp h l lo) {lv : V} {ml : List Mi} (hv : isMs lv ml) (hm : ∀ m ∈ ml, m.ok) (hml : ml.length ≤ 8) {m : Mi} (ho : m.ok) :
  ACalls E 93 [.ptr sp 0, lv, m.V] W fun Y W' => Y = .int .i64 ((tmN ml m + tmS (txs l) m : Nat) : Int) ∧ W' = W := by
 refine ACalls.of hP Tryz.func93 ok_rTimese (by simp) fun _ hok => ?_
 refine awp_start hok ?_
 have hms : isS 3 lv (ml.map Mi.V) := hv
 have hs := hR.small
 have htl : (txs l).length = l.length := by simp [txs]
 simp (maxSteps:=9^9) (disch:=omega) only [BZ, BM, BD, c_rTimes, Mi.V]
 obtain ⟨W0, hW0⟩ : ∃ W0, W0 = X W W.nx [.row [.bool m.read, .int .u8 m.key, .int .u16 m.v]] := ⟨_, rfl⟩
 rw [← hW0]
 have k5 : W0.get (rf W.nx 0) = some (.row [.bool m.read, .int .u8 m.key, .int .u16 m.v]) := by rw [hW0, X_get]; rfl
 have hE : Ex W W0 := by rw [hW0]; exact .x0
 have kp : W0.get sp = some (.row [h]) := (hE.get _ hR.lp).trans hR.hp
 clear hW0
 have hld : ∀ K, sem E (.load true 3) [.ptr (rf W.nx 0) 0] W0 K = K m.V W0 := fun K => by
  rw [m_load, k5, loadK_t]; rfl
 rw [e_loop]
 refine alp (fun (k : Nat) A1 W1 => A1 0 = some (.ptr sp 0) ∧ A1 1 = some lv ∧ A1 5 = some (.ptr (rf W.nx 0) 0) ∧ A1 7 = some (.int .i64 (tmN (ml.take k) m : Nat)) ∧ A1 8 = some (.int .i64 k) ∧ k ≤ ml.length ∧ W1 = W0) (fun k => ml.length - k) 0
  ⟨rfl, rfl, rfl, rfl, rfl, Nat.zero_le _, rfl⟩ ?_
 rintro k A1 W1 ⟨g0, g1, g5, g7, g8, gk, rfl⟩ _
 by_cases hk1 : k < ml.length
 ·have hmo := hm _ (gmm hk1)
  have htk := tmN_take (m := m) hk1
  have hle := tmN_le (ml.take k) m
  have hle2 : (ml.take k).length ≤ k := by simp; omega
  simp (maxSteps:=9^9) (disch:=omega) only [BX, ↓reduceIte, nE, reduceCtorEq, c_rTimes_0, g0, g1, g5, g7, g8, hms.len, lmp, clt, hk1, dT, hms.idx (mi_at hk1), mi_load, hld, mi_eqv hmo ho]
  by_cases he : ml[k] = m
  ·rw [if_pos he] at htk
   simp (maxSteps:=9^9) (disch:=omega) only [↓reduceIte, he, dT, wadd1]
   exact ⟨k + 1, ⟨tt, tt, tt, by rw [htk], tt, hk1, tt⟩, by omega, lr _⟩
  ·rw [if_neg he] at htk
   simp (maxSteps:=9^9) (disch:=omega) only [BC, ↓reduceIte, he, dF, wadd1]
   exact ⟨k + 1, ⟨tt, tt, tt, by rw [htk]; rfl, tt, hk1, tt⟩, by omega, lr _⟩
 ·obtain rfl : k = ml.length := by omega
  rw [tkl] at g7
  simp (maxSteps:=9^9) (disch:=omega) only [BX, ↓reduceIte, nE, c_rTimes_0, g1, g8, hms.len, lmp, clt, hk1, dF]
  rw [e_loop]
  refine alp (fun (i : Nat) A2 W2 => A2 0 = some (.ptr sp 0) ∧ A2 5 = some (.ptr (rf W.nx 0) 0) ∧ A2 7 = some (.int .i64 (tmN ml m + tmS ((txs l).take i) m : Nat)) ∧ A2 9 = some (.int .i64 i) ∧ i ≤ l.length ∧ W2 = W1) (fun i => l.length - i) 0
   ⟨tt, tt, tt, rfl, Nat.zero_le _, rfl⟩ ?_
  rintro i A2 W2 ⟨q0, q5, q7, q9, qi, rfl⟩ _
  by_cases hi : i < l.length
  ·obtain ⟨r, r1, r2, rfl, r4⟩ := hR.at hi
   have r4' : W2.get r = some (.vec 5 (cellsT l)) := (hE.get _ r2).trans r4
   have hti : (txs l)[i] = l[i].tx := by simp [txs]
   have hto := hR.ok l[i] (gmm hi)
   have hst := tmS_take (s := txs l) (m := m) (k := i) (by omega)
   rw [hti] at hst
   have hsl := tmS_le (s := (txs l).take i) (fun t ht => by
    obtain ⟨x, hx, rfl⟩ := List.mem_map.1 (List.mem_of_mem_take ht)
    exact (hR.ok x hx).tx) m
   have hsl2 : ((txs l).take i).length ≤ i := by simp; omega
   have hmm := tmN_le ml m
   have hms2 : isS 3 l[i].mv (l[i].tx.ms.map Mi.V) := hto.ms
   have hml2 := hto.tx.msl
   have hmo2 := hto.tx.ms
   have hld2 := fun (K : V → AW → Prop) => ldc (E := E) (W := W2) (K := K) (j := 2) (c := l[i].mv) r4' hi (by decide) rfl
   simp (maxSteps:=9^9) (disch:=omega) only [BX, ↓reduceIte, nE, reduceCtorEq, BM, BD, c_rTimes_1, q0, q9, kp, hR.len, clt, hi, dT]
   generalize tmS ((txs l).take i) m = base at q7 hst hsl
   rw [e_loop]
   refine alp (fun (j : Nat) A3 W3 => A3 0 = some (.ptr sp 0) ∧ A3 5 = some (.ptr (rf W.nx 0) 0) ∧ A3 7 = some (.int .i64 (tmN ml m + base + tmN (l[i].tx.ms.take j) m : Nat)) ∧ A3 9 = some (.int .i64 i) ∧ A3 10 = some (.int .i64 j) ∧ j ≤ l[i].tx.ms.length ∧ W3 = W2) (fun j => l[i].tx.ms.length - j) 0
    ⟨tt, tt, tt, tt, tt, Nat.zero_le _, rfl⟩ ?_
   rintro j A3 W3 ⟨p0, p5, p7, p9, p10, pj, rfl⟩ _
   by_cases hj : j < l[i].tx.ms.length
   ·have hmo := hmo2 _ (gmm hj)
    have htk := tmN_take (m := m) hj
    have hle := tmN_le (l[i].tx.ms.take j) m
    have hle2 : (l[i].tx.ms.take j).length ≤ j := by simp; omega
    simp (maxSteps:=9^9) (disch:=omega) only [BX, ↓reduceIte, nE, reduceCtorEq, BM, BD, c_rTimes_2, p0, p5, p7, p9, p10, kp, ix5 hi, hld2, hms2.len, lmp, clt, hj, dT, hms2.idx (mi_at hj), mi_load, hld, mi_eqv hmo ho]
    by_cases he : l[i].tx.ms[j] = m
    ·rw [if_pos he] at htk
     simp (maxSteps:=9^9) (disch:=omega) only [↓reduceIte, he, dT, wadd1]
     exact ⟨j + 1, ⟨tt, tt, by rw [htk]; rfl, tt, tt, hj, tt⟩, by omega, lr _⟩
    ·rw [if_neg he] at htk
     simp (maxSteps:=9^9) (disch:=omega) only [BC, ↓reduceIte, he, dF, wadd1]
     exact ⟨j + 1, ⟨tt, tt, by rw [htk]; rfl, tt, tt, hj, tt⟩, by omega, lr _⟩
   ·obtain rfl : j = l[i].tx.ms.length := by omega
    rw [tkl] at p7
    simp (maxSteps:=9^9) (disch:=omega) only [BX, ↓reduceIte, nE, reduceCtorEq, BM, BD, c_rTimes_2, p0, p5, p7, p9, p10, kp, ix5 hi, hld2, hms2.len, lmp, clt, hj, dF, wadd1]
    exact ⟨i + 1, ⟨tt, tt, by rw [hst, Nat.add_assoc], tt, hi, tt⟩, by omega, lr _⟩
  ·obtain rfl : i = l.length := by omega
   rw [List.take_of_length_le (by omega)] at q7
   simp (maxSteps:=9^9) (disch:=omega) only [BX, ↓reduceIte, nE, reduceCtorEq, BM, BD, c_rTimes_1, q0, q7, q9, kp, hR.len, clt, hi, dF]
   exact ⟨_, rfl, _, W, hE.back hok rfl, lr _, rfl, rfl⟩
def c_rbeg_0 : AC := (.seq (.r [.m 39 9,.m 40 3,.u 41 (.len 1 0) 40,.b 42 (.bin .lss) 39 41] (.w 42 0)) (.seq (.block 1 (.r [.m 45 3,.m 46 9,.b 47 (.idxp 3) 45 46,.u 48 (.fld 0) 47,.u 49 (.load false 1) 48,.u 50 (.un .not) 49,.m 51 50,.M 52 0 51 true,.M 53 3 51 true,.M 54 3 51 true,.M 55 9 51 true,.B 56 (.idxp 3) 54 55 51 true,.U 57 (.load true 3) 56 51 true,.P 58 (.call 93) [.t 52,.t 53,.t 57] 51 true,.P 59 (.bin .gtr) [.t 58,.i 1] 51 true,.p 60 .pick [.t 51,.t 59,.F]] (.cond (.t 60) (.r [.v 8 (.int .i64 8)] .ret) .skip))) (.reg [.m 43 9,.a 44 (.bin .add) 43 1,.m 9 44])))
def c_rbeg : AC := (.r [.v 8 (.int .i64 0)] (.seq (.r [.m 10 1,.m 11 2,.m 12 3,.p 13 (.build [.int .u8 0,.int .u8 0,.int .u16 0,.int .u8 0,.int .u8 0,.int .u8 0,.int .u16 0,.int .u16 0,.int .u8 0,.int .u16 0,.nilsl,.nilsl,.int .u8 0,.int .i64 0,.int .i64 0,.int .i64 0,.bool false,.bool false,.bool false] [(0, 1), (1, 1), (2, 1), (10, 1)]) [.c (.int .u8 5),.t 10,.t 11,.t 12],.u 14 (.call 91) 13,.u 15 (.un .not) 14] (.cond (.t 15) (.r [.v 8 (.int .i64 4)] .ret) .skip)) (.seq (.seq (.par (.step 0 (.m 16 0) (.step 1 (.u 17 .nilck 16) (.step 2 (.u 18 (.fld 0) 17) (.step 3 (.u 19 (.load false 1) 18) (.step 4 (.u 20 (.len 1 0) 19) (.step 5 (.a 21 (.bin .gtr) 20 0) (.step 6 (.m 22 21) (.step 7 (.M 23 0 22 true) (.step 8 (.U 24 .nilck 23 22 true) (.step 9 (.U 25 (.fld 0) 24 22 true) (.step 11 (.M 27 0 22 true) (.step 12 (.U 28 .nilck 27 22 true) (.step 13 (.U 29 (.fld 0) 28 22 true) (.step 20 (.M 36 2 22 true) (.step 10 (.U 26 (.load false 1) 25 22 true) (.step 14 (.U 30 (.load false 1) 29 22 true) (.step 15 (.U 31 (.len 1 0) 30 22 true) (.step 16 (.P 32 (.bin .sub) [.t 31,.i 1] 22 true) (.step 17 (.B 33 (.idxp 5) 26 32 22 true) (.step 18 (.U 34 (.fld 0) 33 22 true) (.step 19 (.U 35 (.load false 1) 34 22 true) (.step 21 (.B 37 (.bin .geq) 35 36 22 true) (.step 22 (.p 38 .pick [.t 22,.t 37,.F]) .done)))))))))))))))))))))))) (.cond (.t 38) (.r [.v 8 (.int .i64 8)] .ret) .skip)) (.seq (.r [.v 9 (.int .i64 0)] (.block 0 (.loop c_rbeg_0))) (.r [.m 61 0,.m 62 0,.u 63 .nilck 62,.u 64 (.fld 0) 63,.u 65 (.load false 1) 64,.m 66 2,.m 67 1,.m 68 3,.p 69 (.build [.int .u16 0,.int .u8 0,.nilsl,.nilsl,.int .u8 0] [(0, 1), (1, 1), (2, 1)]) [.t 66,.t 67,.t 68],.u 70 (.bslice 5 1 (.agg [.int .u16 0,.int .u8 0,.nilsl,.nilsl,.int .u8 0]) [0]) 69,.b 71 (.appendx 5 64 [.int .u16 0,.int .u8 0,.nilsl,.nilsl,.int .u8 0]) 65 70,.u 72 .nilck 61,.u 73 (.fld 0) 72,⟨none,.store 1, [.t 73,.t 71], none⟩] (.r [.v 8 (.int .i64 0)] .ret))))))
theorem ok_rbege : compF Tryz.prog Tryz.f57 ⟨true, false, []⟩ = some (c_rbeg, [.tmp 8], 74) := by kernel_rfl
structure FrR (W : AW) (h : V) (sp : Nat) (W' : AW) (h' : V) : Prop where
 cl : Cl W'
 nx : W.nx ≤ W'.nx
 get : ∀ x, x < W.nx → x ≠ sp → (∀ n, h ≠ .slr x 0 n 5) → W'.get x = W.get x
 ne : ∀ x, x < W.nx → (∀ n, h ≠ .slr x 0 n 5) → ∀ n, h' ≠ .slr x 0 n 5
theorem FrR.refl {W : AW} {h : V} {sp : Nat} (hC : Cl W) : FrR W h sp W h := ⟨hC, lr _, fun _ _ _ _ => rfl, fun _ _ hn n => hn n⟩
theorem FrR.ex {W W1 : AW} {h : V} {sp : Nat} (hE : Ex W W1) : FrR W h sp W1 h := ⟨hE.cl, hE.nx, fun x hx _ _ => hE.get x hx, fun _ _ hn n => hn n⟩
theorem Rs.ex {W W1 : AW} {sp lo : Nat} {h : V} {l : List Rt} (hR : Rs W sp h l lo) (hE : Ex W W1) : Rs W1 sp h l lo where
 hp := (hE.get _ hR.lp).trans hR.hp
 lp := by have := hR.lp; have := hE.nx; omega
 el := by
  rcases hR.el with h | ⟨r, h1, h2, h3, h4, h5⟩
  ·exact .inl h
  ·exact .inr ⟨r, h1, by have := hE.nx; omega, h3, h4, by rw [hE.get _ h2]; exact h5⟩
 ok := hR.ok
 so := hR.so
theorem Rt.cs_ones {t : Rt} (ht : t.ok) : t.cs.all V.one = true := by
 obtain ⟨xs, hls, _⟩ := ht.ls
 have h1 : t.mv.one = true := isS.one (s := 3) ht.ms
 have h2 : t.lv.one = true := hls.one
 simp only [Rt.cs, List.all_cons, h1, h2, List.all_nil, Bool.and_true]
 rfl
theorem app5x {W : AW} {K : V → AW → Prop} {h : V} {l : List Rt} {sp lo : Nat} (hR : Rs W sp h l lo) {t : Rt} (ht : t.ok) (hC : Cl W) (hlo : lo ≤ W.nx) (hso : SOk (txs (l ++ [t])))
  (hk : ∀ h' W', Rs (W'.put sp (.row [h'])) sp h' (l ++ [t]) lo → h'.cells = [h'] → h'.one = true → W'.get sp = some (.row [h]) → FrR W h sp (W'.put sp (.row [h'])) h' → K h' W') : sem E (.appendx 5 64 [.int .u16 0, .int .u8 0, .nilsl, .nilsl, .int .u8 0]) [h, .sl 5 true [t.V]] W K := by
 have hsm := hR.small
 have hlp := hR.lp
 have hfl : [t.V].flatMap V.cells = t.cs := by simp [Rt.V, V.cells]
 have hok' : ∀ x ∈ l ++ [t], x.ok := fun x hx => (List.mem_append.1 hx).elim (hR.ok x) (fun h => by rw [List.mem_singleton.1 h]; exact ht)
 have hct : cellsT (l ++ [t]) = cellsT l ++ t.cs := by simp [cellsT]
 rcases hR.el with ⟨rfl, rfl⟩ | ⟨r, h1, h2, rfl, h4, h5⟩
 ·simp only [sem, elemsV, if_true]
  refine ⟨by decide, by simp, ?_⟩
  rw [if_neg (by simp), hfl]
  have hn : W.nx ≠ sp := by omega
  refine hk _ _ ⟨put_at, by rw [put_nx, alloc_nx]; omega, .inr ⟨W.nx, hlo, by rw [put_nx, alloc_nx]; omega, rfl, by simp, by rw [put_ne hn, alloc_at]; simp [cellsT]⟩, hok', hso⟩ rfl rfl (by rw [alloc_lt hlp]; exact hR.hp) ⟨?_, by rw [put_nx, alloc_nx]; omega, fun x hx hc _ => by rw [put_ne hc, alloc_lt hx], fun x hx _ n e => by cases e; omega⟩
  exact Cl.put (fun x hx => by rw [alloc_nx] at hx; rw [al_gets, if_neg (by omega)]; exact hC x (by omega)) (by rw [alloc_nx]; omega)
 ·have hrs : sp ≠ r := by rintro rfl; have := hR.hp; rw [h5] at this; cases this
  simp only [sem, elemsV, if_true, h5]
  refine ⟨by decide, tt, tt, by rw [cellsT_len]; omega, by simp; omega, ?_, ?_⟩
  ·simp only [List.all_cons, List.all_nil, Bool.and_true]
   exact Rt.cs_ones ht
  rw [if_neg (by simp), hfl, Nat.zero_mul, List.drop_zero, ← hct]
  have hn : W.nx ≠ sp := by omega
  refine hk _ _ ⟨put_at, by rw [put_nx, move_nx]; omega, .inr ⟨W.nx, hlo, by rw [put_nx, move_nx]; omega, by rw [lap]; rfl, by simp, by rw [put_ne hn, move_at]⟩, hok', hso⟩ rfl rfl (by rw [move_ne hrs (by omega)]; exact hR.hp) ⟨?_, by rw [put_nx, move_nx]; omega, fun x hx hc hnr => by
   have hxr : x ≠ r := fun e => hnr l.length (by rw [e])
   rw [put_ne hc, move_ne hxr (by omega)], fun x hx _ n e => by cases e; omega⟩
  exact Cl.put (fun x hx => by rw [move_nx] at hx; rw [move_ne (by omega) (by omega)]; exact hC x (by omega)) (by rw [move_nx]; omega)
theorem adds_count (l : List Mi) (k v : Int) : (addsOf l).count (k, v) = tmN l ⟨false, k, v⟩ := by
 unfold addsOf tmN
 induction l with
 | nil => rfl
 | cons m l ih =>
  rw [List.countP_cons, ← ih]
  cases m with
  | mk b k' v' =>
   cases b with
   | true => simp
   | false => simp [List.count_cons]
theorem has_tm {t : Tx} {k v : Int} : S.has t k v = true ↔ 1 ≤ tmN t.ms ⟨false, k, v⟩ := by
 rw [has_iff, decide_eq_true_eq, ← adds_count, ← List.count_pos_iff]; exact Iff.rfl
theorem tmS_zero {s : Str} {k v : Int} : tmS s ⟨false, k, v⟩ = 0 ↔ who s k v = none := by
 induction s with
 | nil => simp [tmS, who]
 | cons t s ih =>
  have e : who (t :: s) k v = if S.has t k v = true then some t else who s k v := by
   unfold who; rw [List.find?_cons]; cases S.has t k v <;> rfl
  have e2 : tmS (t :: s) ⟨false, k, v⟩ = tmN t.ms ⟨false, k, v⟩ + tmS s ⟨false, k, v⟩ := by simp [tmS]
  rw [e, e2]
  by_cases h : S.has t k v = true
  ·have := has_tm.1 h
   rw [if_pos h]
   constructor
   ·intro h; omega
   ·intro h; cases h
  ·have h0 : ¬ 1 ≤ tmN t.ms ⟨false, k, v⟩ := fun x => h (has_tm.2 x)
   rw [if_neg h, ← ih]; omega
theorem rbeg_iff {s : Str} {l : List Mi} : (∀ m ∈ l, m.read = false → tmN l m + tmS s m ≤ 1) ↔ freshB s l = true := by
 unfold freshB
 rw [Bool.and_eq_true, decide_eq_true_eq, List.all_eq_true]
 have hpos : ∀ m ∈ l, m.read = false → 1 ≤ tmN l m := fun m hm hr => by
  cases m with
  | mk b k v =>
   obtain rfl : b = false := hr
   rw [← adds_count]
   exact List.count_pos_iff.2 (adds_mem.2 ⟨_, hm, rfl, rfl, rfl⟩)
 constructor
 ·intro h
  refine ⟨List.nodup_iff_count.2 fun a => ?_, fun a ha => ?_⟩
  ·by_cases ha : a ∈ addsOf l
   ·obtain ⟨m, hm, h1, h2, h3⟩ := adds_mem.1 (show (a.1, a.2) ∈ addsOf l from ha)
    have := h m hm h1
    have e : m = ⟨false, a.1, a.2⟩ := by cases m; simp_all
    rw [e] at this
    rw [show a = (a.1, a.2) from rfl, adds_count]; omega
   ·rw [List.count_eq_zero_of_not_mem ha]; omega
  ·obtain ⟨m, hm, h1, h2, h3⟩ := adds_mem.1 (show (a.1, a.2) ∈ addsOf l from ha)
   have := h m hm h1
   have h0 := hpos m hm h1
   have e : m = ⟨false, a.1, a.2⟩ := by cases m; simp_all
   rw [e] at this h0
   have : tmS s ⟨false, a.1, a.2⟩ = 0 := by omega
   rw [tmS_zero.1 this]; rfl
 ·rintro ⟨h1, h2⟩ m hm hr
  cases m with
  | mk b k v =>
   obtain rfl : b = false := hr
   have hin := adds_mem.2 ⟨_, hm, rfl, rfl, rfl⟩
   have c1 := List.nodup_iff_count.1 h1 (k, v)
   rw [adds_count] at c1
   have := h2 _ hin
   rw [Option.isNone_iff_eq_none] at this
   rw [tmS_zero.2 this]; exact c1
theorem rbeg_loop (hP : PE E) {W : AW} {sp lo : Nat} {h : V} {l : List Rt} (hR : Rs W sp h l lo) {c i : Int} {lv : V} {ml : List Mi} (hv : isMs lv ml) (hm : ∀ m ∈ ml, m.ok) (hml : ml.length ≤ 8) {A : AFr} {Q : Exit → AFr → AW → Prop}
  (a0 : A 0 = some (.ptr sp 0)) (a1 : A 1 = some (.int .u8 c)) (a2 : A 2 = some (.int .u16 i)) (a3 : A 3 = some lv) (a9 : A 9 = some (.int .i64 0))
  (hret : ∀ A', A' 8 = some (.int .i64 8) → freshB (txs l) ml = false → Q .ret A' W)
  (hq : ∀ A', A' 0 = some (.ptr sp 0) → A' 1 = some (.int .u8 c) → A' 2 = some (.int .u16 i) → A' 3 = some lv → freshB (txs l) ml = true → Q (.exit 0) A' W) : awp E (.loop c_rbeg_0) Q A W := by
 have hms : isS 3 lv (ml.map Mi.V) := hv
 rw [e_loop]
 refine alp (fun (k : Nat) A1 W1 => A1 0 = some (.ptr sp 0) ∧ A1 1 = some (.int .u8 c) ∧ A1 2 = some (.int .u16 i) ∧ A1 3 = some lv ∧ A1 9 = some (.int .i64 k) ∧ k ≤ ml.length ∧ W1 = W ∧ ∀ j (hj : j < ml.length), j < k → ml[j].read = false → tmN ml ml[j] + tmS (txs l) ml[j] ≤ 1) (fun k => ml.length - k) 0
  ⟨a0, a1, a2, a3, a9, Nat.zero_le _, rfl, fun j _ hj => by omega⟩ ?_
 rintro k A1 W1 ⟨g0, g1, g2, g3, g9, gk, rfl, gj⟩ _
 by_cases hk : k < ml.length
 ·have hmi : ∀ K, sem E (.idxp 3) [lv, .int .i64 (k : Int)] W1 K = K (.cptr [.bool (ml[k]).read, .int .u8 (ml[k]).key, .int .u16 (ml[k]).v]) W1 := fun K => hms.idx (mi_at hk)
  have hmk := gmm hk
  have hmo := hm _ hmk
  have hgo : (ml[k].read = false → tmN ml ml[k] + tmS (txs l) ml[k] ≤ 1) → ∀ j (hj : j < ml.length), j < k + 1 → ml[j].read = false → tmN ml ml[j] + tmS (txs l) ml[j] ≤ 1 := fun h j hj hjk => by
   by_cases e1 : j = k
   ·subst e1; exact h
   ·exact gj j hj (by omega)
  generalize ml[k] = m at hmi hmo hmk hgo
  have hld : ∀ K, sem E (.load true 3) [.cptr [.bool m.read, .int .u8 m.key, .int .u16 m.v]] W1 K = K m.V W1 := fun K => rfl
  cases hmr : m.read with
  | true =>
   rw [hmr] at hmi
   simp (maxSteps:=9^9) (disch:=omega) only [BS, e_seq, cond_if, ↓reduceIte, nE, BM, BD, nA, nL, c_rbeg_0, g3, g9, hms.len, lmp, clt, hk, dT, hmi]
   repeat (rw [guard_if]; simp (maxSteps:=9^9) (disch:=omega) only [BS, BC, cond_if, ↓reduceIte, nE, reduceCtorEq, BM, g0, g1, g2, g3, g9, wadd1])
   exact ⟨k + 1, ⟨tt, tt, tt, tt, tt, by omega, tt, hgo (fun h => by rw [hmr] at h; cases h)⟩, by omega, lr _⟩
  | false =>
   have hmi2 := hmi
   rw [hmr] at hmi2
   have hmV : m.V = .agg [.bool false, .int .u8 m.key, .int .u16 m.v] := by rw [Mi.V, hmr]
   have hld2 : ∀ K, sem E (.load true 3) [.cptr [.bool false, .int .u8 m.key, .int .u16 m.v]] W1 K = K m.V W1 := fun K => by rw [hmV]; rfl
   simp (maxSteps:=9^9) (disch:=omega) only [BS, e_seq, cond_if, ↓reduceIte, nE, BM, BD, nA, nL, c_rbeg_0, g3, g9, hms.len, lmp, clt, hk, dT, hmi2]
   repeat (rw [guard_if]; simp (maxSteps:=9^9) (disch:=omega) only [BS, BC, ↓reduceIte, nE, reduceCtorEq, g0, g3, g9, hmi2, hld2, hms.frz, mi_frz])
   refine pc (rTimes_c hP _ hR hv hm hml hmo) ?_
   by_cases h1 : tmN ml m + tmS (txs l) m ≤ 1
   ·simp (maxSteps:=9^9) (disch:=omega) only [BS]
    repeat (rw [guard_if]; simp (maxSteps:=9^9) (disch:=omega) only [BS, BC, cond_if, ↓reduceIte, nE, reduceCtorEq, show decide ((((tmN ml m + tmS (txs l) m : Nat)) : Int) > 1) = false from decide_eq_false (by omega), g0, g1, g2, g3, g9, wadd1])
    exact ⟨k + 1, ⟨tt, tt, tt, tt, tt, by omega, tt, hgo (fun _ => h1)⟩, by omega, lr _⟩
   ·simp (maxSteps:=9^9) (disch:=omega) only [BS]
    repeat (rw [guard_if]; simp (maxSteps:=9^9) (disch:=omega) only [BS, e_seq, cond_if, ↓reduceIte, nE, show decide ((((tmN ml m + tmS (txs l) m : Nat)) : Int) > 1) = true from decide_eq_true (by omega)])
    refine hret _ rfl ?_
    rw [← Bool.not_eq_true, ← rbeg_iff]
    exact fun h => h1 (h m hmk hmr)
 ·obtain rfl : k = ml.length := by omega
  simp (maxSteps:=9^9) (disch:=omega) only [BX, ↓reduceIte, nE, c_rbeg_0, g3, g9, hms.len, lmp, clt, hk, dF]
  refine hq _ g0 g1 g2 g3 (rbeg_iff.1 fun m hm hr => ?_)
  obtain ⟨j, hj, rfl⟩ := List.getElem_of_mem hm
  exact gj j hj hj hr
theorem rbeg_c (hP : PE E) (W : AW) {sp lo : Nat} {h : V} {l : List Rt} (hR : Rs W sp h l lo) (hlo : lo ≤ W.nx) (c i : Int) (hc : 0 ≤ c ∧ c < 256) (hi : 0 ≤ i ∧ i < 65536) {lv : V} {ml : List Mi} (hv : isMs lv ml) (hm : ∀ m ∈ ml, m.ok) (hml : ml.length < 2 ^ 40) :
  ACalls E 57 [.ptr sp 0, .int .u8 c, .int .u16 i, lv] W fun Y W' => Y = .int .i64 (beginR (txs l) c i ml).2 ∧ ∃ h' l', Rs W' sp h' l' lo ∧ txs l' = (beginR (txs l) c i ml).1 ∧ FrR W h sp W' h' := by
 refine ACalls.of hP Tryz.func57 ok_rbege (by simp) fun _ hok => ?_
 have hms : isS 3 lv (ml.map Mi.V) := hv
 have f1 := hms.cells
 have hC := ok_Cl hok
 have hsm := hR.small
 have htl : (txs l).length = l.length := by simp [txs]
 simp (maxSteps:=9^9) (disch:=omega) only [BZ, ↓reduceIte, nE, BM, BD, nA, nL, c_rbeg, f1]
 refine pc (rMayB_c hP _ c i hv hm (by omega)) ?_
 cases hB : okB c ml with
 | false =>
  simp (maxSteps:=9^9) (disch:=omega) only [BX, ↓reduceIte, BD]
  have : beginR (txs l) c i ml = (txs l, 4) := by rw [beginR, hB, if_neg (by decide)]
  rw [this]
  exact ⟨_, rfl, _, _, .weak weak_id, lr _, rfl, h, l, hR, rfl, FrR.refl hC⟩
 | true =>
  have hml8 : ml.length ≤ 8 := by
   simp only [okB, Bool.and_eq_true, decide_eq_true_eq] at hB; exact hB.1.1.2
  have hB8 : (∀ m ∈ ml, badMi m = false) ∧ 1 ≤ ml.length := by
   simp only [okB, Bool.and_eq_true, decide_eq_true_eq, Bool.not_eq_true', List.any_eq_false] at hB
   exact ⟨fun m hmm => by have := hB.1.2 m hmm; simpa using this, hB.1.1.1⟩
  have hbe : ∀ r, (if i ≤ lastId (txs l) then (txs l, (8 : Int)) else if freshB (txs l) ml = true then (txs l ++ [⟨i, c, ml, [], 0⟩], 0) else (txs l, 8)) = r → beginR (txs l) c i ml = r := fun r hr => by rw [beginR, hB, if_pos rfl]; exact hr
  -- the rest, once the last ID is below
  have fin : ∀ (A1 : AFr), A1 0 = some (.ptr sp 0) → A1 1 = some (.int .u8 c) → A1 2 = some (.int .u16 i) → A1 3 = some lv → A1 9 = some (.int .i64 0) → lastId (txs l) < i → awp E (.loop c_rbeg_0) (blockQ 0 (thenQ (awp E (tl1 (tl1 (tl1 (tl1 c_rbeg)))) (retQ [.tmp 8] W.nx fun Y W' => Y = .int .i64 (beginR (txs l) c i ml).2 ∧ ∃ h' l', Rs W' sp h' l' lo ∧ txs l' = (beginR (txs l) c i ml).1 ∧ FrR W h sp W' h')) (retQ [.tmp 8] W.nx fun Y W' => Y = .int .i64 (beginR (txs l) c i ml).2 ∧ ∃ h' l', Rs W' sp h' l' lo ∧ txs l' = (beginR (txs l) c i ml).1 ∧ FrR W h sp W' h'))) A1 W := by
   intro A1 g0 g1 g2 g3 g9 hlast
   refine rbeg_loop hP hR hv hm hml8 g0 g1 g2 g3 g9 ?_ ?_
   ·intro A' a8 hf
    have := hbe (txs l, 8) (by rw [if_neg (by omega), hf, if_neg (by decide)])
    rw [this]
    simp (maxSteps:=9^9) (disch:=omega) only [BS, BC, a8]
    exact ⟨_, rfl, _, _, .weak weak_id, lr _, rfl, h, l, hR, rfl, FrR.refl hC⟩
   ·intro A' u0 u1 u2 u3 hf
    have hbr := hbe (txs l ++ [⟨i, c, ml, [], 0⟩], 0) (by rw [if_neg (by omega), hf, if_pos rfl])
    rw [hbr]
    have hto : (⟨⟨i, c, ml, [], 0⟩, lv, .nilsl⟩ : Rt).ok := ⟨⟨hi.1, hi.2, hc.1, hc.2, hm, hml8, by simp, by simp, (by show (0 : Int) ≤ 0 ∧ (0 : Int) < 4; decide)⟩, hv, nilLs, rfl⟩
    have hso : SOk (txs (l ++ [⟨⟨i, c, ml, [], 0⟩, lv, .nilsl⟩])) := by
     rw [txs, mpp]; exact app_ok hR.so hto.tx hlast
    have hbs : ∀ (W : AW) K, sem E (.bslice 5 1 (.agg [.int .u16 0, .int .u8 0, .nilsl, .nilsl, .int .u8 0]) [0]) [.agg [.int .u16 i, .int .u8 c, lv, .nilsl, .int .u8 0]] W K = K (.sl 5 true [(⟨⟨i, c, ml, [], 0⟩, lv, .nilsl⟩ : Rt).V]) W := fun W K => by
     simp [sem, rsem, tsem, fillE, V.cells, Rt.V, Rt.cs]
    simp (maxSteps:=9^9) (disch:=omega) only [BZ, ↓reduceIte, nE, reduceCtorEq, BM, BD, nA, nL, tl1, c_rbeg, u0, u1, u2, u3, hR.hp, f1, hbs]
    refine app5x hR hto hC hlo hso ?_
    intro h' W' q1 q2 q3 q4 q5
    simp (maxSteps:=9^9) (disch:=omega) only [BZ, ↓reduceIte, nE, BM, BD, nL, q2, q3, q4]
    exact ⟨_, rfl, _, _, .weak weak_id, by have := q5.nx; exact this, rfl, h', _, q1, by rw [txs, mpp]; rfl, q5⟩
  by_cases hl0 : l.length = 0
  ·obtain rfl : l = [] := List.eq_nil_of_length_eq_zero hl0
   simp (maxSteps:=9^9) (disch:=omega) only [BX, ↓reduceIte, reduceCtorEq, BM, BD, hR.hp, hR.len, show decide ((((0 : Nat) : Int)) > 0) = false by decide]
   repeat (rw [guard_if]; simp (maxSteps:=9^9) (disch:=omega) only [BX, ↓reduceIte, nE, BM])
   exact fin _ rfl rfl rfl rfl rfl (by show (-1 : Int) < i; omega)
  ·have hpos : decide (((l.length : Nat) : Int) > 0) = true := decide_eq_true (by omega)
   obtain ⟨r, r1, r2, rfl, r4⟩ := hR.at (show l.length - 1 < l.length by omega)
   have hsub : IntKind.i64.wrap ((l.length : Int) - 1) = ((l.length - 1 : Nat) : Int) := by
    rw [show ((l.length : Int) - 1) = ((l.length - 1 : Nat) : Int) by omega]; exact IntWalk.i64_in _ (by omega)
   have hlast : lastId (txs l) = l[l.length - 1].tx.id := by
    unfold lastId
    rw [txs, List.getLast?_map, List.getLast?_eq_getElem?, gEg (by omega)]; rfl
   by_cases hge : l[l.length - 1].tx.id ≥ i
   ·have := hbe (txs l, 8) (by rw [if_pos (by rw [hlast]; omega)])
    rw [this]
    simp (maxSteps:=9^9) (disch:=omega) only [BX, ↓reduceIte, reduceCtorEq, BM, BD, hR.hp, hR.len, hpos]
    repeat (rw [guard_if]; simp (maxSteps:=9^9) (disch:=omega) only [BX, ↓reduceIte, nE, reduceCtorEq, BM, BD, hR.hp, hR.len, hsub, ix5 (show l.length - 1 < l.length by omega), ldc0 r4 (show l.length - 1 < l.length by omega), hge, dT])
    exact ⟨_, rfl, _, _, .weak weak_id, lr _, rfl, _, l, hR, rfl, FrR.refl hC⟩
   ·simp (maxSteps:=9^9) (disch:=omega) only [BX, ↓reduceIte, reduceCtorEq, BM, BD, hR.hp, hR.len, hpos]
    repeat (rw [guard_if]; simp (maxSteps:=9^9) (disch:=omega) only [BX, ↓reduceIte, nE, reduceCtorEq, BM, BD, hR.hp, hR.len, hsub, ix5 (show l.length - 1 < l.length by omega), ldc0 r4 (show l.length - 1 < l.length by omega), hge, dF])
    exact fin _ rfl rfl rfl rfl rfl (by rw [hlast]; omega)
def c_rEnd : AC := (.r [.v 6 (.int .i64 0)] (.r [.m 8 0,.m 9 1,.b 10 (.call 53) 8 9,.m 7 10] (.seq (.r [.m 11 7,.a 12 (.bin .lss) 11 0,.m 13 12,.M 14 0 13 false,.U 15 .nilck 14 13 false,.U 16 (.fld 0) 15 13 false,.U 17 (.load false 1) 16 13 false,.M 18 7 13 false,.B 19 (.idxp 5) 17 18 13 false,.U 20 (.fld 4) 19 13 false,.U 21 (.load false 1) 20 13 false,.P 22 (.bin .neq) [.t 21,.c (.int .u8 0)] 13 false,.p 23 .pick [.t 13,.T,.t 22]] (.cond (.t 23) (.r [.v 6 (.int .i64 7)] .ret) .skip)) (.r [.m 24 0,.u 25 .nilck 24,.u 26 (.fld 0) 25,.u 27 (.load false 1) 26,.m 28 7,.m 29 2,.b 30 (.idxp 5) 27 28,.u 31 (.fld 4) 30,⟨none,.store 1, [.t 31,.t 29], none⟩] (.r [.v 6 (.int .i64 0)] .ret)))))
theorem ok_rEnde : compF Tryz.prog Tryz.f56 ⟨true, false, []⟩ = some (c_rEnd, [.tmp 6], 32) := by kernel_rfl
def c_rCommit_0 : AC := (.seq (.r [.m 31 9,.m 32 0,.u 33 .nilck 32,.u 34 (.fld 0) 33,.u 35 (.load false 1) 34,.m 36 7,.b 37 (.idxp 5) 35 36,.u 38 (.fld 2) 37,.u 39 (.load false 1) 38,.u 40 (.len 1 0) 39,.b 41 (.bin .lss) 31 40] (.w 41 0)) (.seq (.block 1 (.r [.m 44 0,.u 45 .nilck 44,.u 46 (.fld 0) 45,.u 47 (.load false 1) 46,.m 48 7,.b 49 (.idxp 5) 47 48,.u 50 (.fld 2) 49,.u 51 (.load false 1) 50,.m 52 9,.b 53 (.idxp 3) 51 52,.u 54 (.fld 0) 53,.u 55 (.load false 1) 54] (.cond (.t 55) (.reg [.m 56 8,.a 57 (.bin .add) 56 1,.m 8 57]) .skip))) (.reg [.m 42 9,.a 43 (.bin .add) 42 1,.m 9 43])))
def c_rCommit : AC := (.r [.v 6 (.int .i64 0)] (.r [.m 10 0,.m 11 1,.b 12 (.call 53) 10 11,.m 7 12] (.seq (.r [.m 13 7,.a 14 (.bin .lss) 13 0,.m 15 14,.M 16 0 15 false,.U 17 .nilck 16 15 false,.U 18 (.fld 0) 17 15 false,.U 19 (.load false 1) 18 15 false,.M 20 7 15 false,.B 21 (.idxp 5) 19 20 15 false,.U 22 (.fld 4) 21 15 false,.U 23 (.load false 1) 22 15 false,.P 24 (.bin .neq) [.t 23,.c (.int .u8 0)] 15 false,.p 25 .pick [.t 15,.T,.t 24]] (.cond (.t 25) (.r [.v 6 (.int .i64 7)] .ret) .skip)) (.seq (.r [.m 26 1,.m 27 2,.p 28 (.build [.int .u8 0,.int .u8 0,.int .u16 0,.int .u8 0,.int .u8 0,.int .u8 0,.int .u16 0,.int .u16 0,.int .u8 0,.int .u16 0,.nilsl,.nilsl,.int .u8 0,.int .i64 0,.int .i64 0,.int .i64 0,.bool false,.bool false,.bool false] [(0, 1), (2, 1), (11, 1)]) [.c (.int .u8 6),.t 26,.t 27],.u 29 (.call 91) 28,.u 30 (.un .not) 29] (.cond (.t 30) (.r [.v 6 (.int .i64 4)] .ret) .skip)) (.r [.v 8 (.int .i64 0)] (.seq (.r [.v 9 (.int .i64 0)] (.block 0 (.loop c_rCommit_0))) (.seq (.r [.m 58 8,.m 59 2,.u 60 (.len 1 0) 59,.b 61 (.bin .neq) 58 60] (.cond (.t 61) (.r [.v 6 (.int .i64 10)] .ret) .skip)) (.r [.m 62 0,.u 63 .nilck 62,.u 64 (.fld 0) 63,.u 65 (.load false 1) 64,.m 66 7,.b 67 (.idxp 5) 65 66,.u 68 (.fld 4) 67,⟨none,.store 1, [.t 68,.c (.int .u8 1)], none⟩] (.r [.m 69 0,.u 70 .nilck 69,.u 71 (.fld 0) 70,.u 72 (.load false 1) 71,.m 73 7,.m 74 2,.b 75 (.idxp 5) 72 73,.u 76 (.fld 3) 75,⟨none,.store 1, [.t 76,.t 74], none⟩] (.r [.v 6 (.int .i64 0)] .ret))))))))))
theorem ok_rCommite : compF Tryz.prog Tryz.f52 ⟨true, false, []⟩ = some (c_rCommit, [.tmp 6], 77) := by kernel_rfl
theorem at_find (s : Str) (i : Int) : (∃ (k : Nat) (hk : k < s.length), atR s i = k ∧ s[k].id = i ∧ find s i = some s[k]) ∨ (atR s i = -1 ∧ find s i = none) := by
 induction s with
 | nil => exact .inr ⟨rfl, rfl⟩
 | cons t s ih =>
  by_cases h : t.id = i
  ·refine .inl ⟨0, by simp, ?_, h, ?_⟩
   ·exact idxV_hit (k := 0) (by simp) (by simpa using h) (fun j hj h0 => by omega)
   ·simp [find, h]
  ·have hf : find (t :: s) i = find s i := by simp [find, h]
   rw [hf]
   rcases ih with ⟨k, hk, h1, h2, h3⟩ | ⟨h1, h2⟩
   ·refine .inl ⟨k + 1, by simpa using hk, ?_, by simpa using h2, by simpa using h3⟩
    unfold atR idxV at h1 ⊢
    rw [List.findIdx?_cons, decide_eq_false h]
    cases hx : s.findIdx? (fun t => decide (t.id = i)) with
    | none => rw [hx] at h1; have h1 : (-1 : Int) = k := h1; omega
    | some j =>
     rw [hx] at h1
     have h1 : (j : Int) = k := h1
     have : j = k := by omega
     subst this; rfl
   ·refine .inr ⟨?_, h2⟩
    unfold atR idxV at h1 ⊢
    rw [List.findIdx?_cons, decide_eq_false h]
    cases hx : s.findIdx? (fun t => decide (t.id = i)) with
    | none => rfl
    | some j => rw [hx] at h1; have h1 : (j : Int) = -1 := h1; omega
theorem upd_set : ∀ {s : Str} {k : Nat} (hk : k < s.length) {x : Tx}, (s.Pairwise fun a b => a.id < b.id) → x.id = s[k].id → upd s x = s.set k x
 | t :: s, 0, _, x, hp, hx => by
  have : x.id = t.id := hx
  simp [upd, this]
 | t :: s, k + 1, hk, x, hp, hx => by
  have hk' : k < s.length := by simpa using hk
  have hlt := (List.pairwise_cons.1 hp).1 _ (gmm hk')
  have hx' : x.id = s[k].id := hx
  have hne : ¬ t.id = x.id := by omega
  have ih := upd_set hk' (List.pairwise_cons.1 hp).2 hx'
  simp [upd, hne, ih]
theorem cellsT_set {l : List Rt} {k j : Nat} (hk : k < l.length) (hj : j < 5) {x : V} {t : Rt} (ht : t.cs = (l[k].cs).set j x) : (cellsT l).take (k * 5 + j) ++ [x] ++ (cellsT l).drop (k * 5 + j + 1) = cellsT (l.set k t) := by
 have hset : (cellsT l).take (k * 5 + j) ++ [x] ++ (cellsT l).drop (k * 5 + j + 1) = (cellsT l).set (k * 5 + j) x := by
  rw [List.set_eq_take_append_cons_drop, if_pos (by rw [cellsT_len]; omega)]; simp
 rw [hset]
 clear hset
 induction l generalizing k with
 | nil => simp at hk
 | cons y l ih =>
  have h5 : y.cs.length = 5 := rfl
  have e : cellsT (y :: l) = y.cs ++ cellsT l := by simp [cellsT]
  cases k with
  | zero =>
   rw [e, List.set_append_left _ _ (by omega)]
   have ht' : t.cs = y.cs.set j x := ht
   show _ = cellsT (t :: l)
   have e2 : cellsT (t :: l) = t.cs ++ cellsT l := by simp [cellsT]
   rw [e2, ht', Nat.zero_mul, Nat.zero_add]
  | succ k =>
   have hk' : k < l.length := by simpa using hk
   rw [e, List.set_append_right _ _ (by omega)]
   have e2 : cellsT ((y :: l).set (k + 1) t) = y.cs ++ cellsT (l.set k t) := by simp [cellsT]
   rw [e2, ← ih hk' ht]
   congr 2; omega
theorem st5 {W : AW} {K : V → AW → Prop} {r k j : Nat} {l : List Rt} {x : V} {t : Rt} (hg : W.get r = some (.vec 5 (cellsT l))) (hk : k < l.length) (hj : j < 5) (h1 : x.cells = [x]) (h2 : x.one = true) (ht : t.cs = (l[k].cs).set j x) : sem E (.store 1) [.vptr r (k * 5 + j), x] W K = K .undef (W.put r (.vec 5 (cellsT (l.set k t)))) := by
 have h3 : k * 5 + j + 1 ≤ (cellsT l).length := by rw [cellsT_len]; omega
 rw [← cellsT_set hk hj ht]
 simp [sem, hg, h1, h2, h3]
theorem txs_set {l : List Rt} {k : Nat} {t : Rt} : txs (l.set k t) = (txs l).set k t.tx := by simp [txs, List.map_set]
theorem Rs.put {W : AW} {sp lo r k : Nat} {l : List Rt} {t : Rt} (hR : Rs W sp (.slr r 0 l.length 5) l lo) (r1 : lo ≤ r) (r2 : r < W.nx) (hk : k < l.length) (ht : t.ok) (hid : t.tx.id = l[k].tx.id) (r4 : W.get r = some (.vec 5 (cellsT l))) : Rs (W.put r (.vec 5 (cellsT (l.set k t)))) sp (.slr r 0 (l.set k t).length 5) (l.set k t) lo where
 hp := by rw [put_ne (by rintro rfl; have := hR.hp; rw [r4] at this; cases this)]; exact hR.hp.trans (by simp)
 lp := hR.lp
 el := .inr ⟨r, r1, r2, rfl, by
   intro h
   have h0 : l.length = 0 := by have := congrArg List.length h; rwa [List.length_set] at this
   omega, put_at⟩
 ok := fun x hx => by
  rcases List.mem_or_eq_of_mem_set hx with hx | rfl
  ·exact hR.ok x hx
  ·exact ht
 so := by
  rw [txs_set, ← upd_set (by simpa [txs] using hk) hR.so.lt (by rw [hid]; simp [txs])]
  exact upd_ok hR.so ht.tx
theorem FrR.put {W : AW} {sp r n : Nat} {o : AObj} (hC : Cl W) (hr : r < W.nx) : FrR W (.slr r 0 n 5) sp (W.put r o) (.slr r 0 n 5) :=
 ⟨hC.put hr, by rw [put_nx]; exact lr _, fun x _ _ hn => put_ne (fun e => hn n (by rw [e])), fun x _ hn m => hn m⟩
theorem rEnd_c (hP : PE E) (W : AW) {sp lo : Nat} {h : V} {l : List Rt} (hR : Rs W sp h l lo) (i st : Int) (hst : 0 ≤ st ∧ st < 4) :
  ACalls E 56 [.ptr sp 0, .int .u16 i, .int .u8 st] W fun Y W' => Y = .int .i64 (endR (txs l) i st).2 ∧ ∃ l', Rs W' sp h l' lo ∧ txs l' = (endR (txs l) i st).1 ∧ FrR W h sp W' h := by
 refine ACalls.of hP Tryz.func56 ok_rEnde (by simp) fun _ hok => ?_
 have hC := ok_Cl hok
 have htl : (txs l).length = l.length := by simp [txs]
 simp (maxSteps:=9^9) (disch:=omega) only [BZ, ↓reduceIte, nE, reduceCtorEq, c_rEnd]
 refine pc (rAt_c hP _ hR i) ?_
 rcases at_find (txs l) i with ⟨k, hk, h1, h2, h3⟩ | ⟨h1, h2⟩
 ·rw [h1]
  have hkl : k < l.length := by omega
  obtain ⟨r, r1, r2, rfl, r4⟩ := hR.at hkl
  have hti : (txs l)[k] = l[k].tx := by simp [txs]
  rw [hti] at h2 h3
  have hto := hR.ok l[k] (gmm hkl)
  have hld := fun (K : V → AW → Prop) => ldc (E := E) (W := W) (K := K) (j := 4) (c := .int .u8 l[k].tx.st) r4 hkl (by decide) rfl
  by_cases h0 : l[k].tx.st = 0
  ·have hend : endR (txs l) i st = (upd (txs l) { l[k].tx with st := st }, 0) := by rw [endR, h3]; simp only [h0, if_true]
   rw [hend]
   let t' : Rt := { l[k] with tx := { l[k].tx with st := st } }
   have ht' : t'.ok := ⟨{ hto.tx with st := hst }, hto.ms, hto.ls, hto.bel⟩
   have hst5 := fun (K : V → AW → Prop) => st5 (E := E) (W := W) (K := K) (j := 4) (x := .int .u8 st) (t := t') r4 hkl (by decide) rfl rfl rfl
   rw [h0] at hld
   simp (maxSteps:=9^9) (disch:=omega) only [BS, e_seq, ↓reduceIte, show decide (((k : Nat) : Int) < 0) = false from decide_eq_false (by omega)]
   repeat (rw [guard_if]; simp (maxSteps:=9^9) (disch:=omega) only [BX, ↓reduceIte, nE, reduceCtorEq, BM, BD, hR.hp, ix5 hkl, hld, bne_self_eq_false, hst5])
   have hlen : (l.set k t').length = l.length := by simp
   have hRs := hR.put r1 r2 hkl ht' rfl r4
   rw [hlen] at hRs
   refine ⟨_, rfl, _, _, .weak weak_id, by rw [put_nx]; exact lr _, rfl, l.set k t', hRs, ?_, FrR.put hC r2⟩
   rw [txs_set, upd_set hk hR.so.lt (by rw [hti])]
  ·have hend : endR (txs l) i st = (txs l, 7) := by rw [endR, h3]; simp only [h0, if_false]
   rw [hend]
   have hne : (l[k].tx.st != 0) = true := by simpa using h0
   simp (maxSteps:=9^9) (disch:=omega) only [BS, e_seq, ↓reduceIte, show decide (((k : Nat) : Int) < 0) = false from decide_eq_false (by omega)]
   repeat (rw [guard_if]; simp (maxSteps:=9^9) (disch:=omega) only [BX, ↓reduceIte, nE, reduceCtorEq, BM, BD, hR.hp, ix5 hkl, hld, hne])
   exact ⟨_, rfl, _, _, .weak weak_id, lr _, rfl, l, hR, rfl, FrR.refl hC⟩
 ·have hend : endR (txs l) i st = (txs l, 7) := by rw [endR, h2]
  rw [h1, hend]
  simp (maxSteps:=9^9) (disch:=omega) only [BS, e_seq, ↓reduceIte, show decide ((-1 : Int) < 0) = true by decide]
  repeat (rw [guard_if]; simp (maxSteps:=9^9) (disch:=omega) only [BX, ↓reduceIte, nE, BM])
  exact ⟨_, rfl, _, _, .weak weak_id, lr _, rfl, l, hR, rfl, FrR.refl hC⟩
theorem rCommit_c (hP : PE E) (W : AW) {sp lo : Nat} {h : V} {l : List Rt} (hR : Rs W sp h l lo) (i : Int) {r0 : V} {ls : List (Option (List Int))} (hr : isLs r0 ls) (hb : r0.bel 0 = true) (hll : ls.length < 2 ^ 40) (hn : ∀ o ∈ ls, ∀ n ∈ nums o, 0 ≤ n ∧ n < 65536) :
  ACalls E 52 [.ptr sp 0, .int .u16 i, r0] W fun Y W' => Y = .int .i64 (commitR (txs l) i ls).2 ∧ ∃ l', Rs W' sp h l' lo ∧ txs l' = (commitR (txs l) i ls).1 ∧ FrR W h sp W' h := by
 refine ACalls.of hP Tryz.func52 ok_rCommite (by simp) fun _ hok => ?_
 have hC := ok_Cl hok
 have htl : (txs l).length = l.length := by simp [txs]
 obtain ⟨xs, hxs, hxl, _⟩ := id hr
 have f1 := hxs.cells
 have f2 := hxs.one
 simp (maxSteps:=9^9) (disch:=omega) only [BZ, ↓reduceIte, nE, reduceCtorEq, c_rCommit]
 refine pc (rAt_c hP _ hR i) ?_
 rcases at_find (txs l) i with ⟨k, hk, h1, h2, h3⟩ | ⟨h1, h2⟩
 ·rw [h1]
  have hkl : k < l.length := by omega
  obtain ⟨r, r1, r2, rfl, r4⟩ := hR.at hkl
  have hti : (txs l)[k] = l[k].tx := by simp [txs]
  rw [hti] at h2 h3
  have hto := hR.ok l[k] (gmm hkl)
  have hld := fun (K : V → AW → Prop) => ldc (E := E) (W := W) (K := K) (j := 4) (c := .int .u8 l[k].tx.st) r4 hkl (by decide) rfl
  have hld2 := fun (K : V → AW → Prop) => ldc (E := E) (W := W) (K := K) (j := 2) (c := l[k].mv) r4 hkl (by decide) rfl
  by_cases h0 : l[k].tx.st = 0
  ·have hcm : ∀ x, (if okC ls = true then (if reads l[k].tx.ms = ls.length then (upd (txs l) { l[k].tx with st := 1, ls := ls }, (0 : Int)) else (txs l, 10)) else (txs l, 4)) = x → commitR (txs l) i ls = x := fun x hx => by rw [commitR, h3]; simp only [h0, if_true]; exact hx
   rw [h0] at hld
   simp (maxSteps:=9^9) (disch:=omega) only [BS, e_seq, ↓reduceIte, show decide (((k : Nat) : Int) < 0) = false from decide_eq_false (by omega)]
   repeat (rw [guard_if]; simp (maxSteps:=9^9) (disch:=omega) only [BX, ↓reduceIte, nE, reduceCtorEq, BM, BD, nA, nL, hR.hp, ix5 hkl, hld, bne_self_eq_false, f1])
   refine pc (rMayC_c hP _ i hr (by omega)) ?_
   cases hC2 : okC ls with
   | false =>
    rw [hcm (txs l, 4) (by rw [hC2, if_neg (by decide)])]
    simp (maxSteps:=9^9) (disch:=omega) only [BX, ↓reduceIte, BD]
    exact ⟨_, rfl, _, _, .weak weak_id, lr _, rfl, l, hR, rfl, FrR.refl hC⟩
   | true =>
    have hms : isS 3 l[k].mv (l[k].tx.ms.map Mi.V) := hto.ms
    have hml := hto.tx.msl
    have hokC : ls.length ≤ 8 ∧ ∀ o ∈ ls, (nums o).length ≤ 32 := by
     simp only [okC, Bool.and_eq_true, decide_eq_true_eq, Bool.not_eq_true', List.any_eq_false] at hC2
     exact ⟨hC2.1, fun o ho => by have := hC2.2 o ho; simpa [longL] using this⟩
    simp (maxSteps:=9^9) (disch:=omega) only [BX, ↓reduceIte, BD]
    rw [e_loop]
    refine alp (fun (j : Nat) A1 W1 => A1 0 = some (.ptr sp 0) ∧ A1 2 = some r0 ∧ A1 7 = some (.int .i64 k) ∧ A1 8 = some (.int .i64 (reads (l[k].tx.ms.take j) : Nat)) ∧ A1 9 = some (.int .i64 j) ∧ j ≤ l[k].tx.ms.length ∧ W1 = W) (fun j => l[k].tx.ms.length - j) 0
     ⟨rfl, rfl, rfl, rfl, rfl, Nat.zero_le _, rfl⟩ ?_
    rintro j A1 W1 ⟨g0, g2, g7, g8, g9, gj, rfl⟩ _
    by_cases hj : j < l[k].tx.ms.length
    ·have hrt := reads_take hj
     have hrl := reads_le (l[k].tx.ms.take j)
     have hrl' : (l[k].tx.ms.take j).length ≤ j := by simp; omega
     have hmi : ∀ K, sem E (.idxp 3) [l[k].mv, .int .i64 (j : Int)] W1 K = K (.cptr [.bool (l[k].tx.ms[j]).read, .int .u8 (l[k].tx.ms[j]).key, .int .u16 (l[k].tx.ms[j]).v]) W1 := fun K => hms.idx (mi_at hj)
     cases hmr : (l[k].tx.ms[j]).read with
     | false =>
      rw [hmr] at hmi
      rw [hmr, if_neg (by decide)] at hrt
      simp (maxSteps:=9^9) (disch:=omega) only [BX, ↓reduceIte, nE, reduceCtorEq, BM, BD, nA, nL, c_rCommit_0, g0, g2, g7, g8, g9, hR.hp, ix5 hkl, hld2, hms.len, lmp, clt, hj, dT, hmi, wadd1]
      exact ⟨j + 1, ⟨tt, tt, tt, by rw [hrt]; rfl, tt, hj, tt⟩, by omega, lr _⟩
     | true =>
      rw [hmr] at hmi
      rw [hmr, if_pos rfl] at hrt
      simp (maxSteps:=9^9) (disch:=omega) only [BX, ↓reduceIte, nE, reduceCtorEq, BM, BD, nA, nL, c_rCommit_0, g0, g2, g7, g8, g9, hR.hp, ix5 hkl, hld2, hms.len, lmp, clt, hj, dT, hmi, wadd1]
      exact ⟨j + 1, ⟨tt, tt, tt, by rw [hrt], tt, hj, tt⟩, by omega, lr _⟩
    ·obtain rfl : j = l[k].tx.ms.length := by omega
     rw [tkl] at g8
     by_cases hrd : reads l[k].tx.ms = ls.length
     ·have hne : ((reads l[k].tx.ms : Int) != xs.length) = false := by rw [hrd, hxl]; simp
      let t1 : Rt := { l[k] with tx := { l[k].tx with st := 1 } }
      let t2 : Rt := ⟨{ l[k].tx with st := 1, ls := ls }, l[k].mv, r0⟩
      have ht2 : t2.ok := ⟨{ hto.tx with st := (by show (0 : Int) ≤ 1 ∧ (1 : Int) < 4; decide), lsl := hokC.1, ls := fun o ho => ⟨hokC.2 o ho, hn o ho⟩ }, hto.ms, hr, hb⟩
      have ht1 : t1.ok := ⟨{ hto.tx with st := (by show (0 : Int) ≤ 1 ∧ (1 : Int) < 4; decide) }, hto.ms, hto.ls, hto.bel⟩
      have hs1 := fun (K : V → AW → Prop) => st5 (E := E) (W := W1) (K := K) (j := 4) (x := .int .u8 1) (t := t1) r4 hkl (by decide) rfl rfl rfl
      have hlen : (l.set k t1).length = l.length := by simp
      have hR1 := hR.put r1 r2 hkl ht1 rfl r4
      rw [hlen] at hR1
      have hkl1 : k < (l.set k t1).length := by omega
      have hk1 : (l.set k t1)[k] = t1 := by simp
      have hs2 := fun (K : V → AW → Prop) => st5 (E := E) (W := W1.put r (.vec 5 (cellsT (l.set k t1)))) (K := K) (r := r) (j := 3) (x := r0) (t := t2) put_at hkl1 (by decide) f1 f2 (by rw [hk1]; rfl)
      have hhp : (W1.put r (.vec 5 (cellsT (l.set k t1)))).get sp = some (.row [.slr r 0 l.length 5]) := hR1.hp
      rw [hcm _ (by rw [hC2, if_pos rfl, if_pos hrd])]
      simp (maxSteps:=9^9) (disch:=omega) only [BX, ↓reduceIte, nE, reduceCtorEq, BM, BD, c_rCommit_0, g0, g2, g7, g8, g9, hR.hp, ix5 hkl, hld2, hms.len, lmp, clt, hj, dF, hxs.len, hne, hs1, hhp, hs2]
      have hset : (l.set k t1).set k t2 = l.set k t2 := by simp
      rw [put_put, hset]
      have hRs := hR.put r1 r2 hkl ht2 rfl r4
      have hlen2 : (l.set k t2).length = l.length := by simp
      rw [hlen2] at hRs
      refine ⟨_, rfl, _, _, .weak weak_id, by rw [put_nx]; exact lr _, rfl, l.set k t2, hRs, ?_, FrR.put hC r2⟩
      rw [txs_set, upd_set hk hR.so.lt (by rw [hti])]
     ·have hne : ((reads l[k].tx.ms : Int) != xs.length) = true := by rw [hxl]; simpa using fun h : (reads l[k].tx.ms : Int) = ls.length => hrd (by omega)
      rw [hcm (txs l, 10) (by rw [hC2, if_pos rfl, if_neg hrd])]
      simp (maxSteps:=9^9) (disch:=omega) only [BX, ↓reduceIte, nE, reduceCtorEq, BM, BD, c_rCommit_0, g0, g2, g7, g8, g9, hR.hp, ix5 hkl, hld2, hms.len, lmp, clt, hj, dF, hxs.len, hne]
      exact ⟨_, rfl, _, _, .weak weak_id, lr _, rfl, l, hR, rfl, FrR.refl hC⟩
  ·have hend : commitR (txs l) i ls = (txs l, 7) := by rw [commitR, h3]; simp only [h0, if_false]
   rw [hend]
   have hne : (l[k].tx.st != 0) = true := by simpa using h0
   simp (maxSteps:=9^9) (disch:=omega) only [BS, e_seq, ↓reduceIte, show decide (((k : Nat) : Int) < 0) = false from decide_eq_false (by omega)]
   repeat (rw [guard_if]; simp (maxSteps:=9^9) (disch:=omega) only [BX, ↓reduceIte, nE, reduceCtorEq, BM, BD, hR.hp, ix5 hkl, hld, hne])
   exact ⟨_, rfl, _, _, .weak weak_id, lr _, rfl, l, hR, rfl, FrR.refl hC⟩
 ·have hend : commitR (txs l) i ls = (txs l, 7) := by rw [commitR, h2]
  rw [h1, hend]
  simp (maxSteps:=9^9) (disch:=omega) only [BS, e_seq, ↓reduceIte, show decide ((-1 : Int) < 0) = true by decide]
  repeat (rw [guard_if]; simp (maxSteps:=9^9) (disch:=omega) only [BX, ↓reduceIte, nE, BM])
  exact ⟨_, rfl, _, _, .weak weak_id, lr _, rfl, l, hR, rfl, FrR.refl hC⟩
end Go.AL.S
namespace Go.AL.S
open Go Go.AL Go.Proofs
def c_few_1 : AC := (.seq (.r [.m 31 4,.m 32 0,.m 33 3,.b 34 (.idxp 5) 32 33,.u 35 (.fld 4) 34,.u 36 (.load false 1) 35,.u 37 (.len 1 0) 36,.b 38 (.bin .lss) 31 37] (.w 38 2)) (.seq (.block 3 (.r [.m 41 0,.m 42 3,.b 43 (.idxp 5) 41 42,.u 44 (.fld 4) 43,.u 45 (.load false 1) 44,.m 46 4,.b 47 (.idxp 1) 45 46,.u 48 (.load false 1) 47,.u 49 (.len 1 0) 48,.a 50 (.bin .gtr) 49 40] (.cond (.t 50) (.r [.v 2 (.bool false)] .ret) .skip))) (.reg [.m 39 4,.a 40 (.bin .add) 39 1,.m 4 40])))
def c_few_0 : AC := (.seq (.r [.m 5 3,.m 6 0,.u 7 (.len 1 0) 6,.b 8 (.bin .lss) 5 7,.m 9 8,.M 10 3 9 true,.P 11 (.bin .lss) [.t 10,.i 70] 9 true,.p 12 .pick [.t 9,.t 11,.F]] (.w 12 0)) (.seq (.block 1 (.seq (.r [.m 15 0,.m 16 3,.b 17 (.idxp 5) 15 16,.u 18 (.fld 3) 17,.u 19 (.load false 1) 18,.u 20 (.len 1 0) 19,.a 21 (.bin .gtr) 20 20,.m 22 21,.M 23 0 22 false,.M 24 3 22 false,.B 25 (.idxp 5) 23 24 22 false,.U 26 (.fld 4) 25 22 false,.U 27 (.load false 1) 26 22 false,.U 28 (.len 1 0) 27 22 false,.P 29 (.bin .gtr) [.t 28,.i 20] 22 false,.p 30 .pick [.t 22,.T,.t 29]] (.cond (.t 30) (.r [.v 2 (.bool false)] .ret) .skip)) (.r [.v 4 (.int .i64 0)] (.block 2 (.loop c_few_1))))) (.reg [.m 13 3,.a 14 (.bin .add) 13 1,.m 3 14])))
def c_few : AC := (.r [.v 2 (.bool false)] (.seq (.r [.v 3 (.int .i64 0)] (.block 0 (.loop c_few_0))) (.r [.m 51 0,.u 52 (.len 1 0) 51,.a 53 (.bin .leq) 52 60,.m 2 53] .ret)))
theorem ok_fewe : compF Tryz.prog Tryz.f9 ⟨false, false, []⟩ = some (c_few, [.tmp 2], 54) := by kernel_rfl
def c_fresh : AC := (.r [.p 0 (.alloc [.nilptr,.nilptr]) [],.v 1 (.bool false)] (.r [.p 3 (.call 33) [],.p 4 (.call 34) [],.b 5 (.build [.nilptr,.nilptr] [(0, 1), (1, 1)]) 3 4,.p 2 (.alloc [.nilptr,.nilptr]) [],⟨none,.store 2, [.t 2,.t 5], none⟩] (.seq (.par (.step 1 (.u 7 (.fld 0) 2) (.step 0 (.u 6 (.load true 2) 2) (.step 2 (.u 8 (.load false 1) 7) (.step 3 (.p 9 (.eqn true 0) [.t 8,.c (.nilptr)]) (.step 4 (.m 10 9) (.step 5 (.U 11 (.fld 1) 2 10 true) (.alt (.step 6 (.U 12 (.load false 1) 11 10 true) (.step 7 (.P 13 (.eqn true 0) [.t 12,.c (.nilptr)] 10 true) (.step 8 (.p 14 .pick [.t 10,.t 13,.F]) (.step 9 ⟨none,.store 2, [.t 0,.t 6], none⟩ (.step 10 (.m 1 14) .done))))) (.step 9 ⟨none,.store 2, [.t 0,.t 6], none⟩ (.step 6 (.U 12 (.load false 1) 11 10 true) (.step 7 (.P 13 (.eqn true 0) [.t 12,.c (.nilptr)] 10 true) (.step 8 (.p 14 .pick [.t 10,.t 13,.F]) (.step 10 (.m 1 14) .done))))))))))))) .ret)))
theorem ok_freshe : compF Tryz.prog Tryz.f8 ⟨false, false, []⟩ = some (c_fresh, [.cell 0 true 2, .tmp 1], 15) := by kernel_rfl
variable {E : Env}
theorem few_in (W : AW) {v : V} {l : List Ac} (hv : isS 5 v (l.map Ac.V)) {i : Nat} (hi : i < l.length) (ha : l[i].ok) (h20 : l[i].rdl.length ≤ 20) {A : AFr} {Q : Exit → AFr → AW → Prop}
  (a0 : A 0 = some v) (a3 : A 3 = some (.int .i64 i)) (a4 : A 4 = some (.int .i64 0))
  (hret : ∀ A', A' 2 = some (.bool false) → Q .ret A' W)
  (hex : ∀ A', A' 0 = some v → A' 3 = some (.int .i64 i) → (∀ o ∈ l[i].rdl, (nums o).length ≤ 40) → Q (.exit 2) A' W) : ALoop (awp E c_few_1) Q A W := by
 obtain ⟨xs, i1, i2, i3⟩ := ha.rdS
 have hat : (l.map Ac.V)[i]? = some l[i].V := by simp [hi]
 refine alp (fun (k : Nat) A1 W1 => A1 0 = some v ∧ A1 3 = some (.int .i64 i) ∧ A1 4 = some (.int .i64 k) ∧ k ≤ xs.length ∧ W1 = W ∧ ∀ j (hj : j < l[i].rdl.length), j < k → (nums l[i].rdl[j]).length ≤ 40) (fun k => xs.length - k) 0
  ⟨a0, a3, a4, Nat.zero_le _, rfl, fun _ _ h => by omega⟩ ?_
 rintro k A1 W1 ⟨g0, g3, g4, gk, rfl, ge⟩ _
 by_cases hk1 : k < xs.length
 ·have e1 : xs[k]? = some xs[k] := gEg _
  have t := i3 k hk1 (by omega)
  have h40 : decide (((nums l[i].rdl[k]).length : Int) > 40) = decide ((nums l[i].rdl[k]).length > 40) := by simp; omega
  by_cases hb : (nums l[i].rdl[k]).length > 40
  ·simp (maxSteps:=9^9) (disch:=omega) only [c_few_1, BS, e_seq, cond_if, ↓reduceIte, nE, reduceCtorEq, BM, g0, g3, g4, hv.idx hat, ac_load2, i1.len, clt, hk1, dT, i1.idx e1, t.isS.loadf, t.isS.len, ints_len, h40, decide_eq_true hb]
   exact hret _ rfl
  ·simp (maxSteps:=9^9) (disch:=omega) only [c_few_1, BX, ↓reduceIte, nE, reduceCtorEq, BM, g0, g3, g4, hv.idx hat, ac_load2, i1.len, clt, hk1, dT, i1.idx e1, t.isS.loadf, t.isS.len, ints_len, h40, decide_eq_false hb, wadd1]
   refine ⟨k + 1, ⟨tt, tt, tt, tt, tt, fun j hj hjk => ?_⟩, by omega, lr _⟩
   by_cases e : j = k
   ·subst e; omega
   ·exact ge j hj (by omega)
 ·simp (maxSteps:=9^9) (disch:=omega) only [c_few_1, BX, ↓reduceIte, nE, reduceCtorEq, BM, g0, g3, g4, hv.idx hat, ac_load2, i1.len, clt, hk1, dF]
  refine hex _ g0 g3 fun o ho => ?_
  obtain ⟨j, hj, rfl⟩ := List.mem_iff_getElem.1 ho
  exact ge j hj (by omega)
theorem few_c (hP : PE E) (W : AW) {v : V} {l : List Ac} (hv : isS 5 v (l.map Ac.V)) (ha : ∀ a ∈ l, a.ok) (hl : l.length < 2 ^ 48) :
  ACalls E 9 [v] W fun Y W' => W' = W ∧ ∃ b, Y = .bool b ∧ (b = true → l.length ≤ 60 ∧ ∀ a ∈ l, a.small) := by
 refine ACalls.of hP Tryz.func9 ok_fewe (by simp) fun _ hok => ?_
 simp only [c_few, BS, e_seq]
 rw [e_loop]
 refine alp (fun (k : Nat) A1 W1 => A1 0 = some v ∧ A1 3 = some (.int .i64 k) ∧ k ≤ l.length ∧ k ≤ 70 ∧ W1 = W ∧ ∀ j (hj : j < l.length), j < k → l[j].small) (fun k => l.length - k) 0
  ⟨rfl, rfl, Nat.zero_le _, by omega, rfl, fun _ _ h => by omega⟩ ?_
 rintro k A1 W1 ⟨g0, g3, gk, gk9, rfl, ge⟩ _
 have h60 : decide ((l.length : Int) ≤ 60) = decide (l.length ≤ 60) := by simp; omega
 have h70 : decide ((k : Int) < 70) = decide (k < 70) := by simp; omega
 by_cases hk1 : k < l.length
 ·by_cases hk2 : k < 70
  ·have hat : (l.map Ac.V)[k]? = some l[k].V := by simp [hk1]
   have hak := ha l[k] (gmm hk1)
   obtain ⟨xs, i1, i2, i3⟩ := hak.rdS
   have h20 : decide ((l[k].txl.length : Int) > 20) = decide (l[k].txl.length > 20) := by simp; omega
   have h20' : decide ((l[k].rdl.length : Int) > 20) = decide (l[k].rdl.length > 20) := by simp; omega
   by_cases hb : l[k].txl.length > 20
   ·simp (maxSteps:=9^9) (disch:=omega) only [c_few_0, BX, guard_if, ↓reduceIte, nE, reduceCtorEq, BM, g0, g3, hv.len, lmp, clt, hk1, h70, hk2, dT, hv.idx hat, ac_load1, hak.tx.len, h20, decide_eq_true hb]
    exact ⟨_, rfl, _, _, .weak weak_id, lr _, rfl, _, rfl, by simp⟩
   ·by_cases hb' : l[k].rdl.length > 20
    ·simp (maxSteps:=9^9) (disch:=omega) only [c_few_0, BX, guard_if, ↓reduceIte, nE, reduceCtorEq, BM, g0, g3, hv.len, lmp, clt, hk1, h70, hk2, dT, hv.idx hat, ac_load1, ac_load2, hak.tx.len, h20, decide_eq_false hb, i1.len, i2, h20', decide_eq_true hb']
     exact ⟨_, rfl, _, _, .weak weak_id, lr _, rfl, _, rfl, by simp⟩
    ·simp (maxSteps:=9^9) (disch:=omega) only [c_few_0, BX, guard_if, ↓reduceIte, nE, reduceCtorEq, BM, g0, g3, hv.len, lmp, clt, hk1, h70, hk2, dT, hv.idx hat, ac_load1, ac_load2, hak.tx.len, h20, decide_eq_false hb, i1.len, i2, h20', decide_eq_false hb', e_loop]
     refine few_in W1 hv hk1 hak (by omega) g0 g3 rfl ?_ ?_
     ·intro A' h2
      simp only [BS, BC, h2]
      exact ⟨_, rfl, _, _, .weak weak_id, lr _, rfl, _, rfl, by simp⟩
     ·intro A' h0 h3 hall
      simp (maxSteps:=9^9) (disch:=omega) only [BS, ↓reduceIte, reduceCtorEq, h0, h3, wadd1]
      refine ⟨k + 1, ⟨tt, tt, tt, tt, tt, fun j hj hjk => ?_⟩, by omega, lr _⟩
      by_cases e : j = k
      ·subst e; exact ⟨by omega, by omega, hall⟩
      ·exact ge j hj (by omega)
  ·simp (maxSteps:=9^9) (disch:=omega) only [c_few_0, BX, guard_if, ↓reduceIte, nE, reduceCtorEq, g0, g3, hv.len, lmp, clt, hk1, h70, hk2, dT, dF, h60]
   exact ⟨_, rfl, _, _, .weak weak_id, lr _, rfl, _, rfl, fun h => by simp at h; omega⟩
 ·simp (maxSteps:=9^9) (disch:=omega) only [c_few_0, BX, guard_if, ↓reduceIte, nE, reduceCtorEq, BM, g0, g3, hv.len, lmp, clt, hk1, dF, h60]
  refine ⟨_, rfl, _, _, .weak weak_id, lr _, rfl, _, rfl, fun h => ⟨by simpa using h, fun a ha => ?_⟩⟩
  obtain ⟨j, hj, rfl⟩ := List.mem_iff_getElem.1 ha
  exact ge j hj (by omega)
theorem new_n (hP : PE E) (W : AW) : ACalls E 33 [] W fun Y W' => ∃ p ra rw, Y = .ptr p 0 ∧ Nw W W' p ra rw [] := by
 refine ACalls.of hP Tryz.func33 ok7e (by simp) fun _ hok => ?_
 refine awp_start hok ?_
 simp only [c7, BZ, ↓reduceIte, nE, BM, BD, nA, nL]
 refine ⟨_, rfl, _, _, .weak weak_id, ?_, rf W.nx 2, rf W.nx 0, rf W.nx 1, rfl, ⟨?_, ?_, ⟨[], 0, ?_, ⟨(fun _ h => by cases h), fun _ _ => rfl⟩⟩, ?_, ?_, ?_, ?_, ⟨by simp, List.Pairwise.nil⟩⟩, Ex.x0, ?_, ?_, ?_⟩
 ·simp [X_nx, rf]
 ·simp only [BC, BM]; rfl
 ·simp only [BC, BM, BD]; rfl
 ·simp only [BC, BM]
 all_goals simp [rf, X_nx]
structure Sx (W W' : AW) (p ra rw q : Nat) (s : Str) (os : Ods) : Prop where
 nw : Nw W W' p ra rw s
 od : Od W' q os
 hq : W.nx ≤ q
 ne : q ≠ p ∧ q ≠ ra ∧ q ≠ rw
def os0 : Ods := [[], [], [], [], [], [], [], []]
theorem fresh_c (hP : PE E) (W : AW) : ACalls E 8 [] W fun Y W' => ∃ p ra rw q, Y = .tuple [.agg [.ptr p 0, .ptr q 0], .bool true] ∧ Sx W W' p ra rw q [] os0 := by
 refine ACalls.of hP Tryz.func8 ok_freshe (by simp) fun _ hok => ?_
 refine awp_start hok ?_
 simp only [c_fresh, BZ, BM, BD]
 refine (new_n hP _).mono ?_
 rintro _ W1 ⟨p, ra, rw, rfl, h⟩
 simp only [BS, BC]
 refine (newO_c hP _).mono ?_
 rintro _ W2 ⟨q, rfl, hO, hE, hq⟩
 have hn0 : (X W W.nx [.row [.nilptr, .nilptr]]).nx = W.nx + 1 := rfl
 have h2 := h.exx hE
 have hlp := h.st.lp
 have hla := h.st.la
 have hlw := h.st.lw
 have r0 : rf W.nx 0 = W.nx := rfl
 have g0 : W2.get (rf W.nx 0) = some (.row [.nilptr, .nilptr]) := by rw [h2.ex.get _ (by rw [hn0]; omega), X_get]; rfl
 have hn2 := h2.ex.nx
 rw [hn0] at hn2
 have hp := h.hp
 have ha := h.ha
 have hw := h.hw
 rw [hn0] at hp ha hw
 have hE2 : Ex W W2 := Ex.x0.trans h2.ex
 rw [h2.ex.cl.start]
 have hlq := hO.lq
 have hS : ∀ o, Sx W (X (W2.put (rf W.nx 0) o) W2.nx [.row [.ptr p 0, .ptr q 0]]) p ra rw q [] os0 := fun o => by
  have hgg : ∀ x, x < W2.nx → x ≠ rf W.nx 0 → (X (W2.put (rf W.nx 0) o) W2.nx [.row [.ptr p 0, .ptr q 0]]).get x = W2.get x := fun x h1 h2 => by rw [X_old h1, put_ne h2]
  have hnx : W2.nx ≤ (X (W2.put (rf W.nx 0) o) W2.nx [.row [.ptr p 0, .ptr q 0]]).nx := by simp only [X_nx, rf]; omega
  have l1 := h2.st.lp
  have l2 := h2.st.la
  have l3 := h2.st.lw
  exact ⟨⟨h2.st.by hnx (hgg _ l1 (by omega)) (hgg _ l2 (by omega)) (hgg _ l3 (by omega)), ⟨Cl.X, by omega, fun x hx => by rw [hgg x (by omega) (by omega)]; exact hE2.get x hx⟩, by omega, by omega, by omega⟩, hO.by hnx (hgg _ hlq (by omega)), by omega, by omega, by omega, by omega⟩
 simp (maxSteps:=9^9) (disch:=omega) only [BZ, ↓reduceIte, nE, BM, BD, nA, nL, nT]
 (rw [guard_if]; simp (maxSteps:=9^9) (disch:=omega) only [BS, ↓reduceIte, nE, reduceCtorEq, BM, BD, nA, nL, g0])
 constructor
 ·(rw [guard_if]; simp (maxSteps:=9^9) (disch:=omega) only [BS, BC, ↓reduceIte, nE, BM])
  (rw [guard_if]; simp (maxSteps:=9^9) (disch:=omega) only [BS, BC, ↓reduceIte, nE, reduceCtorEq, BM, BD, nA, nL, g0, put_at])
  exact ⟨_, rfl, _, _, .weak weak_id, by simp only [X_nx, rf]; omega, p, ra, rw, q, rfl, hS _⟩
 ·(rw [guard_if]; simp (maxSteps:=9^9) (disch:=omega) only [BS, BC, ↓reduceIte, nE, BM])
  (rw [guard_if]; simp (maxSteps:=9^9) (disch:=omega) only [BS, BC, ↓reduceIte, nE, reduceCtorEq, BM, BD, nA, nL, put_at])
  exact ⟨_, rfl, _, _, .weak weak_id, by simp only [X_nx, rf]; omega, p, ra, rw, q, rfl, hS _⟩
def c_act_0 : AC := (.seq (.r [.m 40 11,.m 41 9,.u 42 (.len 1 0) 41,.b 43 (.bin .lss) 40 42] (.w 43 1)) (.seq (.block 2 (.seq (.par (.step 0 (.u 47 (.fld 1) 2) (.step 2 (.m 49 9) (.step 3 (.m 50 11) (.step 7 (.m 54 9) (.step 8 (.m 55 11) (.step 1 (.u 48 (.load false 1) 47) (.step 4 (.b 51 (.idxp 2) 49 50) (.step 5 (.u 52 (.fld 0) 51) (.step 6 (.u 53 (.load false 1) 52) (.step 9 (.b 56 (.idxp 2) 54 55) (.step 10 (.u 57 (.fld 1) 56) (.step 11 (.u 58 (.load false 1) 57) (.step 12 (.p 59 (.call 37) [.t 48,.t 53,.t 58]) (.step 13 (.m 46 59) (.step 14 (.u 60 (.ext 0) 46) (.step 15 (.u 61 (.ext 1) 46) (.step 16 (.m 12 60) (.step 17 (.m 13 61) .done))))))))))))))))))) (.reg [.m 62 10,.m 63 62,.M 64 12 63 true,.p 65 .pick [.t 63,.t 64,.F],.m 66 65,.M 67 13 66 true,.P 68 (.bin .eql) [.t 67,.i 0] 66 true,.p 69 .pick [.t 66,.t 68,.F],.m 10 69]))) (.reg [.m 44 11,.a 45 (.bin .add) 44 1,.m 11 45])))
def c_act : AC := (.r [.u 2 .box 0,.u 3 .box 1,.v 4 (.int .i64 0),.v 5 (.bool false)] (.seq (.r [.u 14 (.fld 0) 3,.u 15 (.load false 1) 14,.p 16 (.bin .rem) [.t 15,.c (.int .u8 6)]] (.block 0 (.seq (.r [.p 18 (.bin .eql) [.t 16,.c (.int .u8 2)],.m 17 18] (.cond (.t 17) .skip (.reg [.p 19 (.bin .eql) [.t 16,.c (.int .u8 3)],.m 17 19]))) (.cond (.t 17) (.r [.u 20 (.fld 0) 2,.u 21 (.load false 1) 20,.u 22 (.fld 2) 3,.u 23 (.load false 1) 22,.u 24 (.fld 4) 3,.u 25 (.load false 1) 24,.p 26 (.call 35) [.t 21,.t 23,.t 25],.m 6 26] (.seq (.r [.m 27 6,.a 28 (.bin .neq) 27 0] (.cond (.t 28) (.r [.m 29 6,.m 4 29,.v 5 (.bool true)] .ret) .skip)) (.r [.u 31 (.fld 0) 2,.u 32 (.load false 1) 31,.u 33 (.fld 2) 3,.u 34 (.load false 1) 33,.b 35 (.call 18) 32 34,.m 30 35,.u 36 (.ext 0) 30,.u 37 (.ext 1) 30,.p 7 (.alloc [.int .u16 0,.int .u8 0,.nilsl,.nilsl,.int .u8 0]) [],⟨none,.store 5, [.t 7,.t 36], none⟩,.m 8 37] (.r [.u 38 (.load true 5) 7,.u 39 (.call 36) 38,.m 9 39] (.r [.v 10 (.bool true)] (.seq (.r [.v 11 (.int .i64 0)] (.block 1 (.loop c_act_0))) (.r [.m 70 10,.v 4 (.int .i64 0),.m 5 70] .ret))))))) (.r [.p 72 (.bin .eql) [.t 16,.c (.int .u8 4)],.m 71 72] (.cond (.t 71) (.r [.u 73 (.fld 0) 2,.u 74 (.load false 1) 73,.u 75 (.fld 2) 3,.u 76 (.load false 1) 75,.b 77 (.call 32) 74 76,.m 4 77,.v 5 (.bool true)] .ret) (.r [.p 79 (.bin .eql) [.t 16,.c (.int .u8 5)],.m 78 79] (.cond (.t 78) (.r [.u 80 (.fld 0) 2,.u 81 (.load false 1) 80,.u 82 (.fld 2) 3,.u 83 (.load false 1) 82,.b 84 (.call 38) 81 83,.m 4 84,.v 5 (.bool true)] .ret) .skip)))))))) (.r [.u 85 (.fld 0) 2,.u 86 (.load false 1) 85,.u 87 (.fld 1) 3,.u 88 (.load false 1) 87,.u 89 (.fld 2) 3,.u 90 (.load false 1) 89,.u 91 (.fld 3) 3,.u 92 (.load false 1) 91,.p 93 (.call 39) [.t 86,.t 88,.t 90,.t 92],.m 4 93,.v 5 (.bool true)] .ret)))
theorem ok_acte : compF Tryz.prog Tryz.f11 ⟨false, false, []⟩ = some (c_act, [.tmp 4, .tmp 5], 94) := by kernel_rfl
theorem m_rem6 {W : AW} {K : V → AW → Prop} {k : IntKind} {a : Int} : sem E (.bin .rem) [.int k a, .int k 6] W K = K (.int k (a.tmod 6)) W := by
 simp [sem, rsem, tsem, binI]
structure Fa (W W' : AW) (p ra rw q : Nat) : Prop where
 cl : Cl W'
 nx : W.nx ≤ W'.nx
 get : ∀ x, x < W.nx → x ≠ p → x ≠ ra → x ≠ rw → x ≠ q → W'.get x = W.get x
theorem Fa.of {W W1 W2 : AW} {p ra rw q : Nat} (h : Fr W1 W2 p ra rw) (hE : Ex W W1) (hp : p < W1.nx) (ha : ra < W1.nx) (hw : rw < W1.nx) : Fa W W2 p ra rw q :=
 ⟨h.cl hE.cl hp ha hw, by rw [h.nx]; exact hE.nx, fun x hx a b c _ => by rw [h.get x a b c]; exact hE.get x hx⟩
theorem takes_snoc (o : Ods) {l : List Rd} {k : Nat} (hk : k < l.length) : takesR o (l.take (k + 1)) = ((takeR (takesR o (l.take k)).1 (l[k]).1 (nums (l[k]).2)).1, (takesR o (l.take k)).2 && ((takeR (takesR o (l.take k)).1 (l[k]).1 (nums (l[k]).2)).2.1 && decide ((takeR (takesR o (l.take k)).1 (l[k]).1 (nums (l[k]).2)).2.2 = 0))) := by
 rw [tao, gEg hk, Option.toList_some, takesR_app]
 simp only [takesR, Bool.and_true]
theorem takes_go (hP : PE E) {W : AW} (_ : Cl W) {q b2 : Nat} {os : Ods} (hO : Od W q os) {c2 : V} {l : List Rd} (hl : l.length ≤ 8) (hk : ∀ r ∈ l, 0 ≤ r.1 ∧ r.1 < 256) (hn : ∀ r ∈ l, (nums r.2).length ≤ 32 ∧ ∀ n ∈ nums r.2, 0 ≤ n ∧ n < 65536) {A : AFr} {Q : Exit → AFr → AW → Prop}
  (a2 : A 2 = some (.ptr b2 0)) (a9 : A 9 = some (nowGS 2 (l.map rdV))) (a10 : A 10 = some (.bool true)) (a11 : A 11 = some (.int .i64 0)) (g2 : W.get b2 = some (.row [c2, .ptr q 0])) (n2 : b2 ≠ q)
  (hQ : ∀ A' W', A' 10 = some (.bool (takesR os l).2) → Od W' q (takesR os l).1 → W'.nx = W.nx → (∀ x, x ≠ q → W'.get x = W.get x) → Q (.exit 1) A' W') : ALoop (awp E c_act_0) Q A W := by
 have hs := nowGS_S 2 (l.map rdV)
 refine alp (fun (k : Nat) A1 W1 => A1 2 = some (.ptr b2 0) ∧ A1 9 = some (nowGS 2 (l.map rdV)) ∧ A1 10 = some (.bool (takesR os (l.take k)).2) ∧ A1 11 = some (.int .i64 k) ∧ k ≤ l.length ∧ Od W1 q (takesR os (l.take k)).1 ∧ W1.nx = W.nx ∧ ∀ x, x ≠ q → W1.get x = W.get x) (fun k => l.length - k) 0
  ⟨a2, a9, a10, a11, Nat.zero_le _, hO, rfl, fun _ _ => rfl⟩ ?_
 rintro k A1 W1 ⟨q2, q9, q10, q11, qk, jO, jn, jg⟩ _
 by_cases hk1 : k < l.length
 ·have hkr := hk _ (gmm hk1)
  have hnr := hn _ (gmm hk1)
  have hst := takes_snoc os hk1
  have hat := rdV_at hk1
  generalize l[k] = r at hkr hnr hst hat
  have k2 := (jg _ n2).trans g2
  have hre := (elV_isEl r.2).isS
  obtain ⟨b, hb⟩ : ∃ b, b = (takesR os (l.take k)).2 := ⟨_, rfl⟩
  rw [← hb] at q10 hst
  simp (maxSteps:=9^9) (disch:=omega) only [BX, ↓reduceIte, nE, BM, BD, nA, nL, c_act_0, q2, q9, q11, hs.len, lmp, clt, hk1, dT, hs.idx hat, rdV_cells, k2, hre.frz]
  refine (take_c hP _ jO r.1 hkr.1 hkr.2 hre (by have := hnr.1; omega) hnr.2).mono ?_
  rintro _ W3 ⟨rfl, hO3, hn3, hg3⟩
  obtain ⟨T, hT⟩ : ∃ T, T = takeR (takesR os (l.take k)).1 r.1 (nums r.2) := ⟨_, rfl⟩
  rw [← hT] at hO3 hst ⊢
  have fin : ∀ (b' : Bool), b' = (b && (T.2.1 && decide (T.2.2 = 0))) → ∃ s', (True ∧ True ∧ some (V.bool b') = some (.bool (takesR os (l.take s')).2) ∧ some (V.int .i64 (k + 1 : Nat)) = some (.int .i64 s') ∧ s' ≤ l.length ∧ Od W3 q (takesR os (l.take s')).1 ∧ W3.nx = W.nx ∧ ∀ x, x ≠ q → W3.get x = W.get x) ∧ l.length - s' < l.length - k ∧ W.nx ≤ W3.nx := by
   intro b' e
   exact ⟨k + 1, ⟨tt, tt, by rw [hst, e], rfl, by omega, by rw [hst]; exact hO3, hn3.trans jn, fun x hx => (hg3 x hx).trans (jg x hx)⟩, by omega, by omega⟩
  clear hT
  obtain ⟨To, Tb, Te⟩ := T
  simp only at fin ⊢
  by_cases he : Te = 0
  ·have he' : (Te == 0) = true := by simp [he]
   rw [decide_eq_true he] at fin
   cases b <;> cases Tb <;> (simp (maxSteps:=9^9) (disch:=omega) only [BS, ↓reduceIte, nE, q10]; (rw [guard_if]; simp (maxSteps:=9^9) (disch:=omega) only [BS, BC, ↓reduceIte, nE, BM]); (rw [guard_if]; simp (maxSteps:=9^9) (disch:=omega) only [BS, BC, ↓reduceIte, nE, BM]); (rw [guard_if]; simp (maxSteps:=9^9) (disch:=omega) only [BS, BC, ↓reduceIte, nE, BM, q2, q9, q11, he', wadd1]); exact fin _ rfl)
  ·have he' : (Te == 0) = false := by simp [he]
   rw [decide_eq_false he] at fin
   cases b <;> cases Tb <;> (simp (maxSteps:=9^9) (disch:=omega) only [BS, ↓reduceIte, nE, q10]; (rw [guard_if]; simp (maxSteps:=9^9) (disch:=omega) only [BS, BC, ↓reduceIte, nE, BM]); (rw [guard_if]; simp (maxSteps:=9^9) (disch:=omega) only [BS, BC, ↓reduceIte, nE, BM]); (rw [guard_if]; simp (maxSteps:=9^9) (disch:=omega) only [BS, BC, ↓reduceIte, nE, BM, q2, q9, q11, he', wadd1]); exact fin _ rfl)
 ·obtain rfl : k = l.length := by omega
  rw [tkl] at q10 jO
  simp (maxSteps:=9^9) (disch:=omega) only [c_act_0, BX, ↓reduceIte, nE, q9, q11, hs.len, lmp, clt, hk1, dF]
  exact hQ _ _ q10 jO jn jg
theorem act_c (hP : PE E) (W : AW) {p ra rw q : Nat} {s : Str} {os : Ods} (hS : St W p ra rw s) (hO : Od W q os) (ne : q ≠ p ∧ q ≠ ra ∧ q ≠ rw) {a : Ac} (ha : a.ok) (hsm : a.small) :
  ACalls E 11 [.agg [.ptr p 0, .ptr q 0], a.V] W fun Y W' => Y = .tuple [.int .i64 (actG s os a).2.2.1, .bool (actG s os a).2.2.2] ∧ St W' p ra rw (actG s os a).1 ∧ Od W' q (actG s os a).2.1 ∧ Fa W W' p ra rw q := by
 refine ACalls.of hP Tryz.func11 ok_acte (by simp [Ac.V]) fun _ hok => ?_
 refine awp_start hok ?_
 obtain ⟨xs, i1, i2, i3⟩ := ha.rdS
 obtain ⟨z1, z2, z3⟩ := hsm
 have hlp := hS.lp
 have hla := hS.la
 have hlw := hS.lw
 have hlq := hO.lq
 obtain ⟨Wb, hWb⟩ : ∃ Wb, Wb = X W W.nx [.row [.ptr p 0, .ptr q 0], .row [.int .u8 a.what, .int .u8 a.client, .int .u16 a.id, a.tx, a.rd]] := ⟨_, rfl⟩
 have hEb : Ex W Wb := by rw [hWb]; exact .x0
 have gb2 : Wb.get (rf W.nx 0) = some (.row [.ptr p 0, .ptr q 0]) := by rw [hWb, X_get]; rfl
 have gb3 : Wb.get (rf W.nx 1) = some (.row [.int .u8 a.what, .int .u8 a.client, .int .u16 a.id, a.tx, a.rd]) := by rw [hWb, X_get]; rfl
 have hnb : Wb.nx = W.nx + 2 := by rw [hWb]; rfl
 have r0 : rf W.nx 0 = W.nx := rfl
 have hSb := hS.ex hEb
 have hOb := hO.ex hEb
 simp (maxSteps:=9^9) (disch:=omega) only [BX, ↓reduceIte, nE, BM, BD, c_act, Ac.V, m_rem6]
 rw [← hWb]
 clear hWb
 have hfr : ∀ {s' : Str} {W1 : AW}, St W1 p ra rw s' → Fr Wb W1 p ra rw → Od W1 q os ∧ Fa W W1 p ra rw q := fun hS1 hf => by
  have a1 := hSb.lp
  have a2 := hSb.la
  have a3 := hSb.lw
  exact ⟨hOb.by (by rw [hf.nx]; exact lr _) (hf.get q ne.1 ne.2.1 ne.2.2), Fa.of hf hEb a1 a2 a3⟩
 by_cases h23 : w6 a = 2 ∨ w6 a = 3
 ·have e : actG s os a = (if (commitR s a.id a.rdl).2 = 0 then ((commitR s a.id a.rdl).1, (takesR os (readsR ((find (commitR s a.id a.rdl).1 a.id).getD Tx.zero))).1, 0, (takesR os (readsR ((find (commitR s a.id a.rdl).1 a.id).getD Tx.zero))).2) else ((commitR s a.id a.rdl).1, os, (commitR s a.id a.rdl).2, true)) := by
   simp only [actG, if_pos h23]
  rw [e]
  have hcc := commit_c hP _ hSb a.id ha.id.1 ha.id.2 ha.rd ha.bel (by omega) fun o ho => ⟨by have := z3 o ho; omega, ha.ns o ho⟩
  rcases h23 with h2 | h3
  ·have b2 : (a.what.tmod 6 == 2) = true := by simp [w6] at h2; simp [h2]
   simp (maxSteps:=9^9) (disch:=omega) only [↓reduceIte, b2, i1.frz]
   refine hcc.mono ?_
   rintro _ W1 ⟨rfl, g1, g2⟩
   obtain ⟨f1, f2⟩ := hfr g1 g2
   by_cases hc : (commitR s a.id a.rdl).2 = 0
   ·rw [if_pos hc, hc]
    obtain ⟨t, c1, c2, c3, c4⟩ := commitR_ok.1 hc
    obtain ⟨t', ht'⟩ : ∃ t', find (commitR s a.id a.rdl).1 a.id = some t' := by
     rw [commitR_map hS.ok.lt, find_mapId (comT_id _), c1]; exact ⟨_, rfl⟩
    have hto := (find_ok g1.ok ht').2.2
    simp (maxSteps:=9^9) (disch:=omega) only [BX, ↓reduceIte, nE, BM, BD, show ((0 : Int) != 0) = false by decide]
    have k2 : W1.get (rf W.nx 0) = some (.row [.ptr p 0, .ptr q 0]) := by rw [g2.get _ (by omega) (by omega) (by omega)]; exact gb2
    have k3 : W1.get (rf W.nx 1) = some (.row [.int .u8 a.what, .int .u8 a.client, .int .u16 a.id, a.tx, a.rd]) := by rw [g2.get _ (by simp only [rf]; omega) (by simp only [rf]; omega) (by simp only [rf]; omega)]; exact gb3
    have n1 : W1.nx = W.nx + 2 := by rw [g2.nx]; exact hnb
    simp (maxSteps:=9^9) (disch:=omega) only [BS, BC, BM, k2, k3]
    refine pc (find_c hP _ g1 a.id ha.id.1 ha.id.2) ?_
    rw [ht', Option.getD_some, f2.cl.start]
    simp (maxSteps:=9^9) (disch:=omega) only [BZ, ↓reduceIte, nE, BM, BD, nA, nL, nT, msV_one, lsV_one, Tx.V, Option.isSome_some]
    refine pc (reads_c hP _ hto) ?_
    simp (maxSteps:=9^9) (disch:=omega) only [BS, e_seq, ↓reduceIte]
    rw [e_loop]
    have r1 : rf W.nx 1 = W.nx + 1 := rfl
    refine takes_go hP (q := q) (b2 := rf W.nx 0) Cl.X (f1.ex .x0) (readsR_len hto) (readsR_key hto.ms) (readsR_nums hto) rfl rfl rfl rfl (by rw [X_old (by omega)]; exact k2) (by omega) ?_
    intro A' W2 e10 hO2 hn2 hg2
    simp (maxSteps:=9^9) (disch:=omega) only [BS, e_seq, ↓reduceIte, nE, e10]
    have hn3 : W1.nx + 1 = W2.nx := by rw [hn2]; rfl
    have l1 := g1.lp
    have l2 := g1.la
    have l3 := g1.lw
    have hgx : ∀ x, x < W1.nx → x ≠ q → W2.get x = W1.get x := fun x hx hq => by rw [hg2 x hq, X_old hx]
    refine ⟨_, rfl, _, _, .weak weak_id, by omega, rfl, g1.by (by omega) (hgx _ l1 ne.1.symm) (hgx _ l2 ne.2.1.symm) (hgx _ l3 ne.2.2.symm), hO2, ?_, by omega, fun x hx a b c d => by rw [hgx x (by omega) d]; exact f2.get x hx a b c d⟩
    intro x hx
    rw [hg2 x (by omega)]
    exact Cl.X x (by rw [← hn2]; exact hx)
   ·rw [if_neg hc]
    simp (maxSteps:=9^9) (disch:=omega) only [BS, e_seq, cond_if, ↓reduceIte, nE, show ((commitR s a.id a.rdl).2 != 0) = true by simp [hc]]
    exact ⟨_, rfl, _, _, .weak weak_id, f2.nx, rfl, g1, f1, f2⟩
  ·have b2 : (a.what.tmod 6 == 2) = false := by simp [w6] at h3; simp [h3]
   have b3 : (a.what.tmod 6 == 3) = true := by simp [w6] at h3; simp [h3]
   simp (maxSteps:=9^9) (disch:=omega) only [BC, ↓reduceIte, b2, b3, i1.frz]
   refine hcc.mono ?_
   rintro _ W1 ⟨rfl, g1, g2⟩
   obtain ⟨f1, f2⟩ := hfr g1 g2
   by_cases hc : (commitR s a.id a.rdl).2 = 0
   ·rw [if_pos hc, hc]
    obtain ⟨t, c1, c2, c3, c4⟩ := commitR_ok.1 hc
    obtain ⟨t', ht'⟩ : ∃ t', find (commitR s a.id a.rdl).1 a.id = some t' := by
     rw [commitR_map hS.ok.lt, find_mapId (comT_id _), c1]; exact ⟨_, rfl⟩
    have hto := (find_ok g1.ok ht').2.2
    simp (maxSteps:=9^9) (disch:=omega) only [BX, ↓reduceIte, nE, BM, BD, show ((0 : Int) != 0) = false by decide]
    have k2 : W1.get (rf W.nx 0) = some (.row [.ptr p 0, .ptr q 0]) := by rw [g2.get _ (by omega) (by omega) (by omega)]; exact gb2
    have k3 : W1.get (rf W.nx 1) = some (.row [.int .u8 a.what, .int .u8 a.client, .int .u16 a.id, a.tx, a.rd]) := by rw [g2.get _ (by simp only [rf]; omega) (by simp only [rf]; omega) (by simp only [rf]; omega)]; exact gb3
    have n1 : W1.nx = W.nx + 2 := by rw [g2.nx]; exact hnb
    simp (maxSteps:=9^9) (disch:=omega) only [BS, BC, BM, k2, k3]
    refine pc (find_c hP _ g1 a.id ha.id.1 ha.id.2) ?_
    rw [ht', Option.getD_some, f2.cl.start]
    simp (maxSteps:=9^9) (disch:=omega) only [BZ, ↓reduceIte, nE, BM, BD, nA, nL, nT, msV_one, lsV_one, Tx.V, Option.isSome_some]
    refine pc (reads_c hP _ hto) ?_
    simp (maxSteps:=9^9) (disch:=omega) only [BS, e_seq, ↓reduceIte]
    rw [e_loop]
    have r1 : rf W.nx 1 = W.nx + 1 := rfl
    refine takes_go hP (q := q) (b2 := rf W.nx 0) Cl.X (f1.ex .x0) (readsR_len hto) (readsR_key hto.ms) (readsR_nums hto) rfl rfl rfl rfl (by rw [X_old (by omega)]; exact k2) (by omega) ?_
    intro A' W2 e10 hO2 hn2 hg2
    simp (maxSteps:=9^9) (disch:=omega) only [BS, e_seq, ↓reduceIte, nE, e10]
    have hn3 : W1.nx + 1 = W2.nx := by rw [hn2]; rfl
    have l1 := g1.lp
    have l2 := g1.la
    have l3 := g1.lw
    have hgx : ∀ x, x < W1.nx → x ≠ q → W2.get x = W1.get x := fun x hx hq => by rw [hg2 x hq, X_old hx]
    refine ⟨_, rfl, _, _, .weak weak_id, by omega, rfl, g1.by (by omega) (hgx _ l1 ne.1.symm) (hgx _ l2 ne.2.1.symm) (hgx _ l3 ne.2.2.symm), hO2, ?_, by omega, fun x hx a b c d => by rw [hgx x (by omega) d]; exact f2.get x hx a b c d⟩
    intro x hx
    rw [hg2 x (by omega)]
    exact Cl.X x (by rw [← hn2]; exact hx)
   ·rw [if_neg hc]
    simp (maxSteps:=9^9) (disch:=omega) only [BS, e_seq, cond_if, ↓reduceIte, nE, show ((commitR s a.id a.rdl).2 != 0) = true by simp [hc]]
    exact ⟨_, rfl, _, _, .weak weak_id, f2.nx, rfl, g1, f1, f2⟩
 have e23 : ¬ w6 a = 2 ∧ ¬ w6 a = 3 := by omega
 have b2 : (a.what.tmod 6 == 2) = false := by simp [w6] at e23; simp [e23.1]
 have b3 : (a.what.tmod 6 == 3) = false := by simp [w6] at e23; simp [e23.2]
 by_cases h4 : w6 a = 4
 ·have e : actG s os a = ((endR s a.id 2).1, os, (endR s a.id 2).2, true) := by simp only [actG, if_neg h23, if_pos h4]
  rw [e]
  have b4 : (a.what.tmod 6 == 4) = true := by simp [w6] at h4; simp [h4]
  simp (maxSteps:=9^9) (disch:=omega) only [BC, ↓reduceIte, b2, b3, b4]
  refine (abort_c hP _ hSb a.id ha.id.1 ha.id.2).mono ?_
  rintro _ W1 ⟨rfl, g1, g2⟩
  simp (maxSteps:=9^9) (disch:=omega) only [BS, ↓reduceIte, nE]
  obtain ⟨f1, f2⟩ := hfr g1 g2
  exact ⟨_, rfl, _, _, .weak weak_id, f2.nx, rfl, g1, f1, f2⟩
 have b4 : (a.what.tmod 6 == 4) = false := by simp [w6] at h4; simp [h4]
 by_cases h5 : w6 a = 5
 ·have e : actG s os a = ((endR s a.id 3).1, os, (endR s a.id 3).2, true) := by simp only [actG, if_neg h23, if_neg h4, if_pos h5]
  rw [e]
  have b5 : (a.what.tmod 6 == 5) = true := by simp [w6] at h5; simp [h5]
  simp (maxSteps:=9^9) (disch:=omega) only [BC, ↓reduceIte, b2, b3, b4, b5]
  refine (info_c hP _ hSb a.id ha.id.1 ha.id.2).mono ?_
  rintro _ W1 ⟨rfl, g1, g2⟩
  simp (maxSteps:=9^9) (disch:=omega) only [BS, ↓reduceIte, nE]
  obtain ⟨f1, f2⟩ := hfr g1 g2
  exact ⟨_, rfl, _, _, .weak weak_id, f2.nx, rfl, g1, f1, f2⟩
 have b5 : (a.what.tmod 6 == 5) = false := by simp [w6] at h5; simp [h5]
 have e : actG s os a = ((beginR s a.client a.id a.txl).1, os, (beginR s a.client a.id a.txl).2, true) := by simp only [actG, if_neg h23, if_neg h4, if_neg h5]
 rw [e]
 simp (maxSteps:=9^9) (disch:=omega) only [BC, ↓reduceIte, b2, b3, b4, b5, ha.tx.frz]
 refine (begin_c hP _ hSb a.client a.id ha.id.1 ha.id.2 ha.cl.1 ha.cl.2 ha.tx ha.ms (by omega)).mono ?_
 rintro _ W1 ⟨rfl, g1, g2⟩
 simp (maxSteps:=9^9) (disch:=omega) only [BS, ↓reduceIte, nE]
 obtain ⟨f1, f2⟩ := hfr g1 g2
 exact ⟨_, rfl, _, _, .weak weak_id, f2.nx, rfl, g1, f1, f2⟩
open Go Go.AL Go.AL.SE Go.Proofs
def c_theirs_0 : AC := (.seq (.r [.m 40 7,.m 41 6,.u 42 (.len 1 0) 41,.b 43 (.bin .lss) 40 42] (.w 43 1)) (.seq (.block 2 (.par (.step 0 (.m 46 1) (.step 1 (.m 47 6) (.step 2 (.m 48 7) (.step 6 (.m 52 6) (.step 7 (.m 53 7) (.step 3 (.b 49 (.idxp 2) 47 48) (.step 4 (.u 50 (.fld 0) 49) (.step 5 (.u 51 (.load false 1) 50) (.step 8 (.b 54 (.idxp 2) 52 53) (.step 9 (.u 55 (.fld 1) 54) (.step 10 (.u 56 (.load false 1) 55) (.step 11 (.p 57 (.call 55) [.t 46,.t 51,.t 56]) .done)))))))))))))) (.reg [.m 44 7,.a 45 (.bin .add) 44 1,.m 7 45])))
def c_theirs : AC := (.r [.u 5 .box 2] (.r [.u 8 (.fld 0) 5,.u 9 (.load false 1) 8,.p 10 (.bin .rem) [.t 9,.c (.int .u8 6)]] (.block 0 (.seq (.r [.p 20 (.bin .eql) [.t 10,.c (.int .u8 2)],.m 19 20] (.cond (.t 19) .skip (.reg [.p 21 (.bin .eql) [.t 10,.c (.int .u8 3)],.m 19 21]))) (.cond (.t 19) (.seq (.r [.m 22 0,.u 23 (.fld 2) 5,.u 24 (.load false 1) 23,.u 25 (.fld 4) 5,.u 26 (.load false 1) 25,.p 27 (.call 52) [.t 22,.t 24,.t 26],.a 28 (.bin .neq) 27 0] (.cond (.t 28) .ret .skip)) (.seq (.par (.step 0 (.m 29 0) (.step 1 (.u 30 .nilck 29) (.step 2 (.u 31 (.fld 0) 30) (.step 4 (.m 33 0) (.step 5 (.u 34 (.fld 2) 5) (.step 3 (.u 32 (.load false 1) 31) (.step 6 (.u 35 (.load false 1) 34) (.step 7 (.b 36 (.pcall 53) 33 35) (.step 8 (.b 37 (.idxp 5) 32 36) (.step 9 (.u 38 (.load true 5) 37) (.step 10 (.u 39 (.pcall 54) 38) (.step 11 (.m 6 39) .done))))))))))))) (.r [.v 7 (.int .i64 0)] (.block 1 (.loop c_theirs_0))))) (.r [.p 59 (.bin .eql) [.t 10,.c (.int .u8 4)],.m 58 59] (.cond (.t 58) (.reg [.m 60 0,.u 61 (.fld 2) 5,.u 62 (.load false 1) 61,.p 63 (.call 56) [.t 60,.t 62,.c (.int .u8 2)]]) (.r [.p 65 (.bin .eql) [.t 10,.c (.int .u8 5)],.m 64 65] (.cond (.t 64) (.reg [.m 66 0,.u 67 (.fld 2) 5,.u 68 (.load false 1) 67,.p 69 (.call 56) [.t 66,.t 68,.c (.int .u8 3)]]) (.reg [.m 11 0,.u 12 (.fld 1) 5,.u 13 (.load false 1) 12,.u 14 (.fld 2) 5,.u 15 (.load false 1) 14,.u 16 (.fld 3) 5,.u 17 (.load false 1) 16,.p 18 (.call 57) [.t 11,.t 13,.t 15,.t 17]]))))))))))
theorem ok_theirse : compF Tryz.prog Tryz.f21 ⟨false, false, []⟩ = some (c_theirs, [], 70) := by kernel_rfl
theorem Rs.noq {W : AW} {sp lo q : Nat} {h : V} {l : List Rt} {row : List V} (hR : Rs W sp h l lo) (hq : W.get q = some (.row row)) : ∀ n, h ≠ .slr q 0 n 5 := by
 intro n e
 rcases hR.el with ⟨e2, _⟩ | ⟨r, _, _, e2, _, hg⟩
 ·rw [e2] at e; cases e
 ·rw [e2] at e; cases e; rw [hg] at hq; cases hq
theorem Rs.fo {W W' : AW} {sp lo q : Nat} {h : V} {l : List Rt} {row : List V} (hR : Rs W sp h l lo) (hF : FrO W q W') (hq : W.get q = some (.row row)) (hne : sp ≠ q) : Rs W' sp h l lo where
 hp := (hF.get sp hR.lp hne).trans hR.hp
 lp := by have := hR.lp; have := hF.nx; omega
 el := by
  rcases hR.el with h | ⟨r, h1, h2, h3, h4, h5⟩
  ·exact .inl h
  ·exact .inr ⟨r, h1, by have := hF.nx; omega, h3, h4, by rw [hF.get r h2 (by rintro rfl; rw [hq] at h5; cases h5)]; exact h5⟩
 ok := hR.ok
 so := hR.so
theorem Ro.to {W W' : AW} {q lo N : Nat} {L : List (List (List Int))} {cs : List V} {es : List (List V)} (hO : Ro W q L lo cs es N) (hx : W.nx ≤ W'.nx) (hq : W'.get q = W.get q) (hg : ∀ r, lo ≤ r → r < W.nx → (∃ ys, W.get r = some (.buf true 1 ys)) → W'.get r = W.get r) : Ro W' q L lo cs es N :=
 ⟨hq.trans hO.hp, by have := hO.lp; omega, hO.c8, hO.l8, hO.e8, fun k a b c => (hO.ls k a b c).to hx hg, hO.rg⟩
theorem Ro.fr {W W' : AW} {q lo N sp lo' : Nat} {L : List (List (List Int))} {cs : List V} {es : List (List V)} {h h' : V} {l : List Rt} (hO : Ro W q L lo cs es N) (hR : Rs W sp h l lo') (hF : FrR W h sp W' h') (hne : sp ≠ q) : Ro W' q L lo cs es N :=
 hO.to hF.nx (hF.get q hO.lp (Ne.symm hne) (hR.noq hO.hp)) fun r _ h2 ⟨ys, hy⟩ => hF.get r h2 (by rintro rfl; have := hR.hp; rw [hy] at this; cases this) (fun n e => by
  rcases hR.el with ⟨e2, _⟩ | ⟨r', _, _, e2, _, hg⟩
  ·rw [e2] at e; cases e
  ·rw [e2] at e; cases e; rw [hg] at hy; cases hy)
structure FrT (W : AW) (h : V) (sp q : Nat) (W' : AW) (h' : V) : Prop where
 cl : Cl W'
 nx : W.nx ≤ W'.nx
 get : ∀ x, x < W.nx → x ≠ sp → x ≠ q → (∀ n, h ≠ .slr x 0 n 5) → W'.get x = W.get x
 ne : ∀ x, x < W.nx → (∀ n, h ≠ .slr x 0 n 5) → ∀ n, h' ≠ .slr x 0 n 5
theorem FrT.ofR {W W' : AW} {h h' : V} {sp q : Nat} (a : FrR W h sp W' h') : FrT W h sp q W' h' := ⟨a.cl, a.nx, fun x h1 h2 _ h4 => a.get x h1 h2 h4, a.ne⟩
theorem FrT.ofO {W W' : AW} {h : V} {sp q : Nat} (a : FrO W q W') : FrT W h sp q W' h := ⟨a.cl, a.nx, fun x h1 _ h3 _ => a.get x h1 h3, fun _ _ hn => hn⟩
theorem FrT.trans {W W1 W2 : AW} {h h1 h2 : V} {sp q : Nat} (a : FrT W h sp q W1 h1) (b : FrT W1 h1 sp q W2 h2) : FrT W h sp q W2 h2 :=
 ⟨b.cl, Nat.le_trans a.nx b.nx, fun x hx hc hq hn => by rw [b.get x (by have := a.nx; omega) hc hq (a.ne x hx hn)]; exact a.get x hx hc hq hn, fun x hx hn => b.ne x (by have := a.nx; omega) (a.ne x hx hn)⟩
theorem find_ids {s : Str} {i : Int} : (∃ t, find s i = some t) ↔ i ∈ s.map Tx.id := by
 constructor
 ·rintro ⟨t, ht⟩
  obtain ⟨h1, h2⟩ := find_in ht
  exact List.mem_map.2 ⟨t, h1, h2⟩
 ·intro h
  obtain ⟨t, h1, h2⟩ := List.mem_map.1 h
  cases hf : find s i with
  | some x => exact ⟨x, rfl⟩
  | none => exact absurd h2 (by have := List.find?_eq_none.1 hf t h1; simpa using this)
theorem rdE_cells (r : Int × V) : (rdE r).cells = [.int .u8 r.1, r.2] := rfl
theorem theirs_c (hP : PE E) (W : AW) {sp lo q lo' N : Nat} {h : V} {l : List Rt} (hR : Rs W sp h l lo) (hlo : lo ≤ W.nx) {L : List (List (List Int))} {cs : List V} {es : List (List V)} (hO : Ro W q L lo' cs es N) (hN : N + 8 < 2 ^ 30) (hlo' : lo' ≤ W.nx) (hne : sp ≠ q) {os : Ods} (hRel : OrdRel os L) {a : Ac} (ha : a.ok) (hsm : a.small) :
  ACalls E 21 [.ptr sp 0, .ptr q 0, a.V] W fun _ W' => ∃ h' l' cs' es' L', Rs W' sp h' l' lo ∧ Ro W' q L' lo' cs' es' (N + 8) ∧ txs l' = (actG (txs l) os a).1 ∧ OrdRel (actG (txs l) os a).2.1 L' ∧ FrT W h sp q W' h' := by
 refine ACalls.of hP Tryz.func21 ok_theirse (by simp) fun _ hok => ?_
 refine awp_start hok ?_
 have hC := ok_Cl hok
 have hms : isS 3 a.tx (a.txl.map Mi.V) := ha.tx
 obtain ⟨xs, hxs, hxl, _⟩ := id ha.rd
 have f1 := hms.cells
 have f2 := hxs.cells
 have f3 := hms.one
 have f4 := hxs.one
 have hON : ∀ (W' : AW) (L' : List (List (List Int))) (cs' : List V) (es' : List (List V)) (M : Nat), M ≤ N + 8 → Ro W' q L' lo' cs' es' M → Ro W' q L' lo' cs' es' (N + 8) := fun W' L' cs' es' M hM h => ⟨h.hp, h.lp, h.c8, h.l8, h.e8, h.ls, fun ll hl => ⟨by have := (h.rg ll hl).1; omega, (h.rg ll hl).2⟩⟩
 simp (maxSteps:=9^9) (disch:=omega) only [BX, ↓reduceIte, nE, reduceCtorEq, BM, BD, c_theirs, Ac.V, m_rem6]
 obtain ⟨W0, hW0⟩ : ∃ W0, W0 = X W W.nx [.row [.int .u8 a.what, .int .u8 a.client, .int .u16 a.id, a.tx, a.rd]] := ⟨_, rfl⟩
 rw [← hW0]
 have hE : Ex W W0 := by rw [hW0]; exact .x0
 have k5 : W0.get (rf W.nx 0) = some (.row [.int .u8 a.what, .int .u8 a.client, .int .u16 a.id, a.tx, a.rd]) := by rw [hW0, X_get]; rfl
 have hn0 : W0.nx = W.nx + 1 := by rw [hW0]; rfl
 clear hW0
 have hR0 := hR.ex hE
 have hlq := hO.lp
 have hO0 : Ro W0 q L lo' cs es N := hO.to hE.nx (hE.get q hlq) (fun r _ h2 _ => hE.get r h2)
 have fe : FrT W h sp q W0 h := .ofR (.ex hE)
 have r0 : rf W.nx 0 = W.nx := rfl
 have hsl := hR.lp
 have hfin : ∀ {W1 : AW} {h1 : V} {l1 : List Rt} {s1 : Str}, Rs W1 sp h1 l1 lo → txs l1 = s1 → FrR W0 h sp W1 h1 → actG (txs l) os a = (s1, os, (actG (txs l) os a).2.2) → ∃ h' l' cs' es' L', Rs W1 sp h' l' lo ∧ Ro W1 q L' lo' cs' es' (N + 8) ∧ txs l' = (actG (txs l) os a).1 ∧ OrdRel (actG (txs l) os a).2.1 L' ∧ FrT W h sp q W1 h' := by
  intro W1 h1 l1 s1 r1 r2 r3 r4
  rw [r4]
  exact ⟨h1, l1, cs, es, L, r1, hON _ _ _ _ _ (by omega) (hO0.fr hR0 r3 hne), r2, hRel, fe.trans (.ofR r3)⟩
 by_cases h23 : w6 a = 2 ∨ w6 a = 3
 ·have e : actG (txs l) os a = (if (commitR (txs l) a.id a.rdl).2 = 0 then ((commitR (txs l) a.id a.rdl).1, (takesR os (readsR ((find (commitR (txs l) a.id a.rdl).1 a.id).getD Tx.zero))).1, 0, (takesR os (readsR ((find (commitR (txs l) a.id a.rdl).1 a.id).getD Tx.zero))).2) else ((commitR (txs l) a.id a.rdl).1, os, (commitR (txs l) a.id a.rdl).2, true)) := by
   simp only [actG, if_pos h23]
  obtain ⟨z1, z2, z3⟩ := hsm
  rcases h23 with h2 | h3
  ·have b2 : (a.what.tmod 6 == 2) = true := by simp [w6] at h2; simp [h2]
   simp (maxSteps:=9^9) (disch:=omega) only [↓reduceIte, b2, hxs.frz]
   refine (rCommit_c hP _ hR0 a.id ha.rd ha.bel (by omega) ha.ns).mono ?_
   rintro _ W1 ⟨rfl, l1, c1, c2, c3⟩
   rw [← c2] at e
   have g1 := fe.trans (.ofR (q := q) c3)
   have hO1 : Ro W1 q L lo' cs es N := hO0.fr hR0 c3 hne
   have hx1 := c3.nx
   have k51 : W1.get (rf W.nx 0) = some (.row [.int .u8 a.what, .int .u8 a.client, .int .u16 a.id, a.tx, a.rd]) := by
    rw [c3.get _ (by omega) (by omega) (hR0.noq k5)]; exact k5
   by_cases h0 : (commitR (txs l) a.id a.rdl).2 = 0
   ·rw [if_pos h0] at e
    rw [e]
    have hf : ∃ t, find (txs l1) a.id = some t := by
     rw [find_ids, c2]
     obtain ⟨t, t1, t2, t3, t4⟩ := (commitR_ok.1 h0)
     have := find_ids.1 ⟨t, t1⟩
     rw [commitR, t1]
     simp only [t2, t3, t4, if_true]
     rw [upd_ids]; exact this
    rcases at_find (txs l1) a.id with ⟨n, hn, n1, n2, n3⟩ | ⟨_, n2⟩
    ·rw [n3, Option.getD_some] at e ⊢
     have hnl : n < l1.length := by simpa [txs] using hn
     obtain ⟨r, r1, r2, rfl, r4⟩ := c1.at hnl
     have hti : (txs l1)[n] = l1[n].tx := by simp [txs]
     have hto := c1.ok l1[n] (gmm hnl)
     rw [hti] at e ⊢
     obtain ⟨q1, q2⟩ := rsOf_ok hto
     have hrl := readsR_len hto.tx
     have hrk := readsR_key hto.tx.ms
     have hrn := readsR_nums hto.tx
     have hgs := nowGS_S 2 ((rsOf l1[n]).map rdE)
     simp (maxSteps:=9^9) (disch:=omega) only [BX, ↓reduceIte, nE, reduceCtorEq, BM, BD, h0, bne_self_eq_false, k51, c1.hp]
     refine pcall_go rfl (rAt_c hP _ c1 a.id) ?_
     rw [n1]
     simp (maxSteps:=9^9) (disch:=omega) only [BS, ↓reduceIte, nE, ix5 hnl, ld5 r4 hnl]
     refine pcall_go rfl (rReads_c hP _ hto) ?_
     simp (maxSteps:=9^9) (disch:=omega) only [BS, e_seq, ↓reduceIte]
     generalize hrsG : rsOf l1[n] = rs at q1 q2 hgs
     generalize readsR l1[n].tx = rd at q1 q2 hrl hrk hrn e
     rw [e_loop]
     refine alp (fun (j : Nat) A2 W2 => A2 1 = some (.ptr q 0) ∧ A2 6 = some (nowGS 2 (rs.map rdE)) ∧ A2 7 = some (.int .i64 j) ∧ j ≤ rs.length ∧ ∃ L2 cs2 es2, Ro W2 q L2 lo' cs2 es2 (N + j) ∧ OrdRel (takesR os (rd.take j)).1 L2 ∧ FrO W1 q W2) (fun j => rs.length - j) 0
      ⟨rfl, rfl, rfl, Nat.zero_le _, L, cs, es, hO1, hRel, FrO.refl c3.cl⟩ ?_
     rintro j A2 W2 ⟨u1, u6, u7, uj, L2, cs2, es2, uO, uR, uF⟩ _
     have hx2 := uF.nx
     by_cases hj : j < rs.length
     ·have hjd : j < rd.length := by omega
      obtain ⟨y1, y2⟩ := q2 j hj hjd
      have hat : (rs.map rdE)[j]? = some (rdE rs[j]) := by simp [hj]
      have hts := takes_snoc os hjd
      obtain ⟨y3, y4⟩ := hrk _ (gmm hjd)
      obtain ⟨y5, y6⟩ := hrn _ (gmm hjd)
      generalize rs[j] = re at y1 y2 hat
      generalize rd[j] = de at y1 y2 hts y3 y4 y5 y6
      obtain ⟨z1, z2⟩ := y2.one1
      have hlde : ∀ K, sem E (.load false 1) [.cptr [re.2]] W2 K = K re.2 W2 := fun K => rfl
      simp (maxSteps:=9^9) (disch:=omega) only [BX, ↓reduceIte, nE, BM, BD, nA, nL, c_theirs_0, u1, u6, u7, hgs.len, lmp, clt, hj, dT, hgs.idx hat, rdE_cells, hlde, y2.isS.frz]
      refine (oTake_c hP _ uO (by omega) (by omega) re.1 (by rw [y1]; exact y3) y2.isS (by omega) y6).mono ?_
      rintro _ W3 ⟨cs3, es3, v1, v2⟩
      simp (maxSteps:=9^9) (disch:=omega) only [BS, ↓reduceIte, nE, u1, u6, u7, wadd1]
      refine ⟨j + 1, ⟨tt, tt, tt, hj, takO L2 re.1 (nums de.2), cs3, es3, v1, ?_, uF.trans v2⟩, by omega, by have := v2.nx; omega⟩
      rw [hts, y1]
      exact uR.take y3 _
     ·obtain rfl : j = rs.length := by omega
      rw [q1, tkl] at uR
      simp (maxSteps:=9^9) (disch:=omega) only [BX, ↓reduceIte, nE, c_theirs_0, u6, u7, hgs.len, lmp, clt, hj, dF]
      refine ⟨_, rfl, _, _, .weak weak_id, by omega, _, l1, cs2, es2, L2, c1.fo uF hO1.hp hne, hON _ _ _ _ _ (by omega) uO, rfl, uR, g1.trans (.ofO uF)⟩
    ·obtain ⟨t, ht⟩ := hf
     rw [ht] at n2; cases n2
   ·rw [if_neg h0] at e
    rw [e]
    have hb : ((commitR (txs l) a.id a.rdl).2 != 0) = true := by simpa using h0
    simp (maxSteps:=9^9) (disch:=omega) only [BS, cond_if, ↓reduceIte, hb]
    exact ⟨_, rfl, _, _, .weak weak_id, by omega, h, l1, cs, es, L, c1, hON _ _ _ _ _ (by omega) hO1, rfl, hRel, g1⟩
  ·have b2 : (a.what.tmod 6 == 2) = false := by simp [w6] at h3; simp [h3]
   have b3 : (a.what.tmod 6 == 3) = true := by simp [w6] at h3; simp [h3]
   simp (maxSteps:=9^9) (disch:=omega) only [BC, ↓reduceIte, b2, b3, hxs.frz]
   refine (rCommit_c hP _ hR0 a.id ha.rd ha.bel (by omega) ha.ns).mono ?_
   rintro _ W1 ⟨rfl, l1, c1, c2, c3⟩
   rw [← c2] at e
   have g1 := fe.trans (.ofR (q := q) c3)
   have hO1 : Ro W1 q L lo' cs es N := hO0.fr hR0 c3 hne
   have hx1 := c3.nx
   have k51 : W1.get (rf W.nx 0) = some (.row [.int .u8 a.what, .int .u8 a.client, .int .u16 a.id, a.tx, a.rd]) := by
    rw [c3.get _ (by omega) (by omega) (hR0.noq k5)]; exact k5
   by_cases h0 : (commitR (txs l) a.id a.rdl).2 = 0
   ·rw [if_pos h0] at e
    rw [e]
    have hf : ∃ t, find (txs l1) a.id = some t := by
     rw [find_ids, c2]
     obtain ⟨t, t1, t2, t3, t4⟩ := (commitR_ok.1 h0)
     have := find_ids.1 ⟨t, t1⟩
     rw [commitR, t1]
     simp only [t2, t3, t4, if_true]
     rw [upd_ids]; exact this
    rcases at_find (txs l1) a.id with ⟨n, hn, n1, n2, n3⟩ | ⟨_, n2⟩
    ·rw [n3, Option.getD_some] at e ⊢
     have hnl : n < l1.length := by simpa [txs] using hn
     obtain ⟨r, r1, r2, rfl, r4⟩ := c1.at hnl
     have hti : (txs l1)[n] = l1[n].tx := by simp [txs]
     have hto := c1.ok l1[n] (gmm hnl)
     rw [hti] at e ⊢
     obtain ⟨q1, q2⟩ := rsOf_ok hto
     have hrl := readsR_len hto.tx
     have hrk := readsR_key hto.tx.ms
     have hrn := readsR_nums hto.tx
     have hgs := nowGS_S 2 ((rsOf l1[n]).map rdE)
     simp (maxSteps:=9^9) (disch:=omega) only [BX, ↓reduceIte, nE, reduceCtorEq, BM, BD, h0, bne_self_eq_false, k51, c1.hp]
     refine pcall_go rfl (rAt_c hP _ c1 a.id) ?_
     rw [n1]
     simp (maxSteps:=9^9) (disch:=omega) only [BS, ↓reduceIte, nE, ix5 hnl, ld5 r4 hnl]
     refine pcall_go rfl (rReads_c hP _ hto) ?_
     simp (maxSteps:=9^9) (disch:=omega) only [BS, e_seq, ↓reduceIte]
     generalize hrsG : rsOf l1[n] = rs at q1 q2 hgs
     generalize readsR l1[n].tx = rd at q1 q2 hrl hrk hrn e
     rw [e_loop]
     refine alp (fun (j : Nat) A2 W2 => A2 1 = some (.ptr q 0) ∧ A2 6 = some (nowGS 2 (rs.map rdE)) ∧ A2 7 = some (.int .i64 j) ∧ j ≤ rs.length ∧ ∃ L2 cs2 es2, Ro W2 q L2 lo' cs2 es2 (N + j) ∧ OrdRel (takesR os (rd.take j)).1 L2 ∧ FrO W1 q W2) (fun j => rs.length - j) 0
      ⟨rfl, rfl, rfl, Nat.zero_le _, L, cs, es, hO1, hRel, FrO.refl c3.cl⟩ ?_
     rintro j A2 W2 ⟨u1, u6, u7, uj, L2, cs2, es2, uO, uR, uF⟩ _
     have hx2 := uF.nx
     by_cases hj : j < rs.length
     ·have hjd : j < rd.length := by omega
      obtain ⟨y1, y2⟩ := q2 j hj hjd
      have hat : (rs.map rdE)[j]? = some (rdE rs[j]) := by simp [hj]
      have hts := takes_snoc os hjd
      obtain ⟨y3, y4⟩ := hrk _ (gmm hjd)
      obtain ⟨y5, y6⟩ := hrn _ (gmm hjd)
      generalize rs[j] = re at y1 y2 hat
      generalize rd[j] = de at y1 y2 hts y3 y4 y5 y6
      obtain ⟨z1, z2⟩ := y2.one1
      have hlde : ∀ K, sem E (.load false 1) [.cptr [re.2]] W2 K = K re.2 W2 := fun K => rfl
      simp (maxSteps:=9^9) (disch:=omega) only [BX, ↓reduceIte, nE, BM, BD, nA, nL, c_theirs_0, u1, u6, u7, hgs.len, lmp, clt, hj, dT, hgs.idx hat, rdE_cells, hlde, y2.isS.frz]
      refine (oTake_c hP _ uO (by omega) (by omega) re.1 (by rw [y1]; exact y3) y2.isS (by omega) y6).mono ?_
      rintro _ W3 ⟨cs3, es3, v1, v2⟩
      simp (maxSteps:=9^9) (disch:=omega) only [BS, ↓reduceIte, nE, u1, u6, u7, wadd1]
      refine ⟨j + 1, ⟨tt, tt, tt, hj, takO L2 re.1 (nums de.2), cs3, es3, v1, ?_, uF.trans v2⟩, by omega, by have := v2.nx; omega⟩
      rw [hts, y1]
      exact uR.take y3 _
     ·obtain rfl : j = rs.length := by omega
      rw [q1, tkl] at uR
      simp (maxSteps:=9^9) (disch:=omega) only [BX, ↓reduceIte, nE, c_theirs_0, u6, u7, hgs.len, lmp, clt, hj, dF]
      refine ⟨_, rfl, _, _, .weak weak_id, by omega, _, l1, cs2, es2, L2, c1.fo uF hO1.hp hne, hON _ _ _ _ _ (by omega) uO, rfl, uR, g1.trans (.ofO uF)⟩
    ·obtain ⟨t, ht⟩ := hf
     rw [ht] at n2; cases n2
   ·rw [if_neg h0] at e
    rw [e]
    have hb : ((commitR (txs l) a.id a.rdl).2 != 0) = true := by simpa using h0
    simp (maxSteps:=9^9) (disch:=omega) only [BS, cond_if, ↓reduceIte, hb]
    exact ⟨_, rfl, _, _, .weak weak_id, by omega, h, l1, cs, es, L, c1, hON _ _ _ _ _ (by omega) hO1, rfl, hRel, g1⟩
 ·have b2 : (a.what.tmod 6 == 2) = false := by simp only [w6, not_or] at h23; simpa using h23.1
  have b3 : (a.what.tmod 6 == 3) = false := by simp only [w6, not_or] at h23; simpa using h23.2
  by_cases h4 : w6 a = 4
  ·have b4 : (a.what.tmod 6 == 4) = true := by simpa [w6] using h4
   have e : actG (txs l) os a = ((endR (txs l) a.id 2).1, os, (actG (txs l) os a).2.2) := by simp only [actG, if_neg h23, if_pos h4]
   simp (maxSteps:=9^9) (disch:=omega) only [BC, ↓reduceIte, b2, b3, b4]
   refine (rEnd_c hP _ hR0 a.id 2 (by decide)).mono ?_
   rintro _ W1 ⟨rfl, l1, c1, c2, c3⟩
   simp (maxSteps:=9^9) (disch:=omega) only [BS]
   exact ⟨_, rfl, _, _, .weak weak_id, by have := c3.nx; omega, hfin c1 c2 c3 e⟩
  ·have b4 : (a.what.tmod 6 == 4) = false := by simpa [w6] using h4
   by_cases h5 : w6 a = 5
   ·have b5 : (a.what.tmod 6 == 5) = true := by simpa [w6] using h5
    have e : actG (txs l) os a = ((endR (txs l) a.id 3).1, os, (actG (txs l) os a).2.2) := by simp only [actG, if_neg h23, if_neg h4, if_pos h5]
    simp (maxSteps:=9^9) (disch:=omega) only [BC, ↓reduceIte, b2, b3, b4, b5]
    refine (rEnd_c hP _ hR0 a.id 3 (by decide)).mono ?_
    rintro _ W1 ⟨rfl, l1, c1, c2, c3⟩
    simp (maxSteps:=9^9) (disch:=omega) only [BS]
    exact ⟨_, rfl, _, _, .weak weak_id, by have := c3.nx; omega, hfin c1 c2 c3 e⟩
   ·have b5 : (a.what.tmod 6 == 5) = false := by simpa [w6] using h5
    have e : actG (txs l) os a = ((beginR (txs l) a.client a.id a.txl).1, os, (actG (txs l) os a).2.2) := by simp only [actG, if_neg h23, if_neg h4, if_neg h5]
    obtain ⟨z1, z2, z3⟩ := hsm
    simp (maxSteps:=9^9) (disch:=omega) only [BC, ↓reduceIte, b2, b3, b4, b5, hms.frz]
    refine (rbeg_c hP _ hR0 (by omega) a.client a.id ha.cl ha.id ha.tx ha.ms (by omega)).mono ?_
    rintro _ W1 ⟨rfl, h1, l1, c1, c2, c3⟩
    simp (maxSteps:=9^9) (disch:=omega) only [BS]
    exact ⟨_, rfl, _, _, .weak weak_id, by have := c3.nx; omega, hfin c1 c2 c3 e⟩
def c_gIs_1 : AC := (.seq (.r [.m 46 13,.m 47 12,.u 48 (.len 1 0) 47,.b 49 (.bin .lss) 46 48] (.w 49 2)) (.seq (.block 3 (.seq (.par (.step 1 (.m 53 11) (.step 2 (.u 54 (.conv .u8) 53) (.step 3 (.m 55 12) (.step 4 (.m 56 13) (.step 5 (.a 57 (.bin .sub) 56 1) (.step 0 (.u 52 (.load true 5) 7) (.step 6 (.b 58 (.idxp 1) 55 57) (.step 7 (.u 59 (.load false 1) 58) (.step 8 (.p 60 (.call 94) [.t 52,.t 54,.t 59]) (.step 9 (.m 61 60) (.step 11 (.M 63 11 61 true) (.step 12 (.U 64 (.conv .u8) 63 61 true) (.step 13 (.M 65 12 61 true) (.step 14 (.M 66 13 61 true) (.step 10 (.U 62 (.load true 5) 8 61 true) (.step 15 (.B 67 (.idxp 1) 65 66 61 true) (.step 16 (.U 68 (.load false 1) 67 61 true) (.step 17 (.P 69 (.call 94) [.t 62,.t 64,.t 68] 61 true) (.step 18 (.p 70 .pick [.t 61,.t 69,.F]) .done)))))))))))))))))))) (.cond (.t 70) (.r [.v 10 (.bool true)] .ret) .skip))) (.reg [.m 50 13,.a 51 (.bin .add) 50 1,.m 13 51])))
def c_gIs_0 : AC := (.seq (.r [.m 34 11,.a 35 (.bin .lss) 34 8,.m 36 35,.M 37 4 36 true,.P 38 (.bin .eql) [.t 37,.c (.int .u8 0)] 36 true,.p 39 .pick [.t 36,.t 38,.F]] (.w 39 0)) (.seq (.block 1 (.r [.m 42 1,.m 43 11,.u 44 (.conv .u8) 43,.b 45 (.call 62) 42 44,.m 12 45] (.r [.v 13 (.int .i64 1)] (.block 2 (.loop c_gIs_1))))) (.reg [.m 40 11,.a 41 (.bin .add) 40 1,.m 11 41])))
def c_gIs_2 : AC := (.seq (.r [.m 77 16,.m 78 15,.u 79 (.len 1 0) 78,.b 80 (.bin .lss) 77 79,.m 81 80,.M 82 4 81 true,.P 83 (.bin .gtr) [.t 82,.c (.int .u8 0)] 81 true,.p 84 .pick [.t 81,.t 83,.F]] (.w 84 4)) (.seq (.block 5 (.r [.m 87 15,.m 88 16,.b 89 (.idxp 2) 87 88,.u 90 (.fld 1) 89,.u 91 (.load false 1) 90,.u 92 (.len 1 0) 91,.m 17 92] (.seq (.r [.m 93 0,.m 94 1,.m 95 15,.m 96 16,.b 97 (.idxp 2) 95 96,.u 98 (.load true 2) 97,.p 99 (.call 29) [.t 93,.t 94,.t 98],.u 100 (.un .not) 99] (.cond (.t 100) (.exit 5) .skip)) (.seq (.seq (.par (.step 0 (.m 101 4) (.step 1 (.p 102 (.bin .eql) [.t 101,.c (.int .u8 1)]) (.step 2 (.m 103 102) (.step 3 (.M 104 17 103 true) (.step 4 (.P 105 (.bin .gtr) [.t 104,.i 0] 103 true) (.step 5 (.p 106 .pick [.t 103,.t 105,.F]) (.step 6 (.m 107 106) (.step 8 (.M 109 15 107 true) (.step 9 (.M 110 16 107 true) (.step 13 (.M 114 15 107 true) (.step 14 (.M 115 16 107 true) (.step 18 (.M 119 17 107 true) (.step 19 (.P 120 (.bin .sub) [.t 119,.i 1] 107 true) (.step 7 (.U 108 (.load true 5) 7 107 true) (.step 10 (.B 111 (.idxp 2) 109 110 107 true) (.step 11 (.U 112 (.fld 0) 111 107 true) (.step 12 (.U 113 (.load false 1) 112 107 true) (.step 15 (.B 116 (.idxp 2) 114 115 107 true) (.step 16 (.U 117 (.fld 1) 116 107 true) (.step 17 (.U 118 (.load false 1) 117 107 true) (.step 20 (.B 121 (.idxp 1) 118 120 107 true) (.step 21 (.U 122 (.load false 1) 121 107 true) (.step 22 (.P 123 (.call 94) [.t 108,.t 113,.t 122] 107 true) (.step 23 (.p 124 .pick [.t 107,.t 123,.F]) .done))))))))))))))))))))))))) (.cond (.t 124) (.r [.v 10 (.bool true)] .ret) .skip)) (.r [.m 125 1,.m 126 15,.m 127 16,.b 128 (.idxp 2) 126 127,.u 129 (.fld 0) 128,.u 130 (.load false 1) 129,.b 131 (.call 62) 125 130,.m 18 131] (.seq (.par (.step 0 (.m 132 4) (.step 1 (.p 133 (.bin .eql) [.t 132,.c (.int .u8 2)]) (.step 2 (.m 134 133) (.step 3 (.M 135 17 134 true) (.step 4 (.M 136 18 134 true) (.step 5 (.U 137 (.len 1 0) 136 134 true) (.step 6 (.B 138 (.bin .lss) 135 137 134 true) (.step 7 (.p 139 .pick [.t 134,.t 138,.F]) (.step 8 (.m 140 139) (.step 10 (.M 142 15 140 true) (.step 11 (.M 143 16 140 true) (.step 15 (.M 147 18 140 true) (.step 16 (.M 148 17 140 true) (.step 9 (.U 141 (.load true 5) 8 140 true) (.step 12 (.B 144 (.idxp 2) 142 143 140 true) (.step 13 (.U 145 (.fld 0) 144 140 true) (.step 14 (.U 146 (.load false 1) 145 140 true) (.step 17 (.B 149 (.idxp 1) 147 148 140 true) (.step 18 (.U 150 (.load false 1) 149 140 true) (.step 19 (.P 151 (.call 94) [.t 141,.t 146,.t 150] 140 true) (.step 20 (.p 152 .pick [.t 140,.t 151,.F]) .done)))))))))))))))))))))) (.cond (.t 152) (.r [.v 10 (.bool true)] .ret) .skip))))))) (.reg [.m 85 16,.a 86 (.bin .add) 85 1,.m 16 86])))
def c_gIs : AC := (.r [.u 7 .box 2,.u 8 .box 3,.v 10 (.bool false)] (.seq (.r [.u 19 (.fld 0) 7,.u 20 (.load false 1) 19,.u 21 (.fld 0) 8,.u 22 (.load false 1) 21,.b 23 (.bin .eql) 20 22,.m 24 23,.U 25 (.load true 5) 7 24 false,.U 26 (.call 59) 25 24 false,.U 27 (.un .not) 26 24 false,.p 28 .pick [.t 24,.T,.t 27],.m 29 28,.U 30 (.load true 5) 8 29 false,.U 31 (.call 59) 30 29 false,.U 32 (.un .not) 31 29 false,.p 33 .pick [.t 29,.T,.t 32]] (.cond (.t 33) (.r [.v 10 (.bool false)] .ret) .skip)) (.seq (.r [.v 11 (.int .i64 0)] (.block 0 (.loop c_gIs_0))) (.r [.u 71 (.load true 5) 8,.p 14 (.alloc [.int .u16 0,.int .u8 0,.nilsl,.nilsl,.int .u8 0]) [],⟨none,.store 5, [.t 14,.t 71], none⟩] (.seq (.r [.m 72 4,.p 73 (.bin .eql) [.t 72,.c (.int .u8 2)]] (.cond (.t 73) (.reg [.u 74 (.load true 5) 7,⟨none,.store 5, [.t 14,.t 74], none⟩]) .skip)) (.r [.u 75 (.load true 5) 14,.u 76 (.call 54) 75,.m 15 76] (.seq (.r [.v 16 (.int .i64 0)] (.block 4 (.loop c_gIs_2))) (.r [.v 10 (.bool false)] .ret))))))))
theorem ok_gIse : compF Tryz.prog Tryz.f58 ⟨false, false, []⟩ = some (c_gIs, [.tmp 10], 153) := by kernel_rfl
def wwX (a b : Tx) (k : Int) (l : List Int) : Bool := (List.range l.length).any fun i => decide (1 ≤ i) && (S.has a k (l.getD (i - 1) 0) && S.has b k (l.getD i 0))
def rdX (s : Str) (L : List (List (List Int))) (a b : Tx) (kd : Int) (r : Rd) : Bool := cntX s L r.1 (nums r.2) && ((decide (kd = 1) && (decide (0 < (nums r.2).length) && S.has a r.1 ((nums r.2).getD ((nums r.2).length - 1) 0))) || (decide (kd = 2) && (decide ((nums r.2).length < (ofL (keyL L r.1)).length) && S.has b r.1 ((ofL (keyL L r.1)).getD (nums r.2).length 0))))
def isX (s : Str) (L : List (List (List Int))) (a b : Tx) (kd : Int) : Bool :=
 if a.id = b.id ∨ a.st = 2 ∨ b.st = 2 then false else
  (decide (kd = 0) && (List.range 8).any fun k => wwX a b k (ofL (keyL L k))) || (decide (kd > 0) && (readsR (if kd = 2 then a else b)).any fun r => rdX s L a b kd r)
theorem ofL_short {W : AW} {q lo N : Nat} {L : List (List (List Int))} {cs : List V} {es : List (List V)} (hO : Ro W q L lo cs es N) (k : Int) : (ofL (keyL L k)).length ≤ 32 ∧ ∀ n ∈ ofL (keyL L k), 0 ≤ n ∧ n < 65536 := by
 rcases (ofL_spec (keyL L k)).1 with h | h
 ·unfold keyL at h
  split at h
  ·cases h
  ·rename_i hk
   rw [List.getD_eq_getElem?_getD] at h
   cases hx : L[k.toNat]? with
   | none => rw [hx] at h; cases h
   | some ll =>
    rw [hx] at h
    have h1 := (hO.rg ll (List.mem_of_getElem? hx)).2 (ofL (keyL L k)) (by
     rw [keyL, if_neg hk, List.getD_eq_getElem?_getD, hx]; exact h)
    exact h1
 ·rw [h]; exact ⟨by simp, by simp⟩
theorem getD_at {l : List Int} {i : Nat} (h : i < l.length) : l.getD i 0 = l[i] := by rw [List.getD_eq_getElem?_getD, gEg h]; rfl
theorem gIs1_go (hP : PE E) {W : AW} {x0 x1 : V} {b7 b8 : Nat} {a b : Rt} (ha : a.ok) (hb : b.ok) (h7 : W.get b7 = some (.row a.cs)) (h8 : W.get b8 = some (.row b.cs)) {k : Nat} (hk : k < 8) {l : List Int} (hl : l.length ≤ 32) {A : AFr} {Q : Exit → AFr → AW → Prop}
  (a0 : A 0 = some x0) (a1 : A 1 = some x1) (a4 : A 4 = some (.int .u8 0)) (a7 : A 7 = some (.ptr b7 0)) (a8 : A 8 = some (.ptr b8 0)) (a11 : A 11 = some (.int .i64 k)) (a12 : A 12 = some (nowGS 1 (intsV l))) (a13 : A 13 = some (.int .i64 1))
  (hret : ∀ A', A' 10 = some (.bool true) → wwX a.tx b.tx k l = true → Q .ret A' W)
  (hq : ∀ A', A' 0 = some x0 → A' 1 = some x1 → A' 4 = some (.int .u8 0) → A' 7 = some (.ptr b7 0) → A' 8 = some (.ptr b8 0) → A' 11 = some (.int .i64 k) → wwX a.tx b.tx k l = false → Q (.exit 2) A' W) : awp E (.loop c_gIs_1) Q A W := by
 have hgs := nowGS_S 1 (intsV l)
 have hu : IntKind.u8.wrap (k : Int) = k := IntWalk.u8_in _ (by omega)
 have hla : ∀ K, sem E (.load true 5) [.ptr b7 0] W K = K a.V W := fun K => by rw [m_load, h7]; rfl
 have hlb : ∀ K, sem E (.load true 5) [.ptr b8 0] W K = K b.V W := fun K => by rw [m_load, h8]; rfl
 rw [e_loop]
 refine alp (fun (i : Nat) A1 W1 => A1 0 = some x0 ∧ A1 1 = some x1 ∧ A1 4 = some (.int .u8 0) ∧ A1 7 = some (.ptr b7 0) ∧ A1 8 = some (.ptr b8 0) ∧ A1 11 = some (.int .i64 k) ∧ A1 12 = some (nowGS 1 (intsV l)) ∧ A1 13 = some (.int .i64 i) ∧ 1 ≤ i ∧ W1 = W ∧ ∀ j, 1 ≤ j → j < l.length → j < i → (S.has a.tx k (l.getD (j - 1) 0) && S.has b.tx k (l.getD j 0)) = false) (fun i => l.length + 1 - i) 1
  ⟨a0, a1, a4, a7, a8, a11, a12, a13, lr _, rfl, fun j h1 _ hj => by omega⟩ ?_
 rintro i A1 W1 ⟨g0, g1, g4, g7, g8, g11, g12, g13, gi, rfl, gj⟩ _
 by_cases hi : i < l.length
 ·have hat := int_at hi
  have hat2 := int_at (show i - 1 < l.length by omega)
  have hs1 : IntKind.i64.wrap ((i : Int) - 1) = ((i - 1 : Nat) : Int) := by rw [show (i : Int) - 1 = ((i - 1 : Nat) : Int) by omega]; exact IntWalk.i64_in _ (by omega)
  have e1 := getD_at hi
  have e2 := getD_at (show i - 1 < l.length by omega)
  have hgo : (S.has a.tx k (l.getD (i - 1) 0) && S.has b.tx k (l.getD i 0)) = false → ∀ j, 1 ≤ j → j < l.length → j < i + 1 → (S.has a.tx k (l.getD (j - 1) 0) && S.has b.tx k (l.getD j 0)) = false := fun h j h1 h2 h3 => by
   by_cases e : j = i
   ·subst e; exact h
   ·exact gj j h1 h2 (by omega)
  have hfin : (S.has a.tx k (l.getD (i - 1) 0) && S.has b.tx k (l.getD i 0)) = true → wwX a.tx b.tx k l = true := fun h => List.any_eq_true.2 ⟨i, List.mem_range.2 hi, by rw [decide_eq_true gi, h]; rfl⟩
  rw [e1, e2] at hgo hfin
  generalize l[i] = y at hat hgo hfin
  generalize l[i - 1] = z at hat2 hgo hfin
  simp (maxSteps:=9^9) (disch:=omega) only [BX, ↓reduceIte, nE, BM, c_gIs_1, g7, g11, g12, g13, hgs.len, ints_len, clt, hi, dT, hu, hs1, hla, hgs.idx hat2]
  refine pc (gApp_c hP _ ha k z) ?_
  cases x1' : S.has a.tx k z with
  | false =>
   simp (maxSteps:=9^9) (disch:=omega) only [BS, ↓reduceIte]
   repeat (rw [guard_if]; simp (maxSteps:=9^9) (disch:=omega) only [BS, BC, cond_if, ↓reduceIte, nE, reduceCtorEq, BM, g0, g1, g4, g7, g8, g11, g12, g13, wadd1])
   exact ⟨i + 1, ⟨tt, tt, tt, tt, tt, tt, tt, tt, by omega, tt, hgo (by rw [x1']; rfl)⟩, by omega, lr _⟩
  | true =>
   simp (maxSteps:=9^9) (disch:=omega) only [BS, ↓reduceIte]
   repeat (rw [guard_if]; simp (maxSteps:=9^9) (disch:=omega) only [BS, BC, ↓reduceIte, nE, BM, g8, g11, g12, g13, hu, hlb, hgs.idx hat])
   refine pc (gApp_c hP _ hb k y) ?_
   cases x2' : S.has b.tx k y with
   | false =>
    simp (maxSteps:=9^9) (disch:=omega) only [BS, BC, cond_if, ↓reduceIte, nE, reduceCtorEq, g0, g1, g4, g7, g8, g11, g12, g13, wadd1]
    repeat (rw [guard_if]; simp (maxSteps:=9^9) (disch:=omega) only [BX, ↓reduceIte, nE, reduceCtorEq, BM, BD, nA, nL, nT, Nat.reduceMul, msV_cells, msV_one, lsV_cells, lsV_one, msV_frz, lsV_frz, g0, g1, g4, g7, g8, g11, g12, g13, wadd1])
    exact ⟨i + 1, ⟨tt, tt, tt, tt, tt, tt, tt, tt, by omega, tt, hgo (by rw [x1', x2']; rfl)⟩, by omega, lr _⟩
   | true =>
    simp (maxSteps:=9^9) (disch:=omega) only [BS, e_seq, cond_if, ↓reduceIte, nE, e_seq]
    repeat (rw [guard_if]; simp (maxSteps:=9^9) (disch:=omega) only [BX, ↓reduceIte, nE, reduceCtorEq, BM, BD, nA, nL, nT, Nat.reduceMul, msV_cells, msV_one, lsV_cells, lsV_one, msV_frz, lsV_frz, e_seq])
    exact hret _ rfl (hfin (by rw [x1', x2']; rfl))
 ·simp (maxSteps:=9^9) (disch:=omega) only [BX, ↓reduceIte, nE, c_gIs_1, g12, g13, hgs.len, ints_len, clt, hi, dF]
  refine hq _ g0 g1 g4 g7 g8 g11 ?_
  rw [wwX, List.any_eq_false]
  intro j hj
  have hj := List.mem_range.1 hj
  rw [Bool.not_eq_true]
  by_cases h1 : 1 ≤ j
  ·rw [gj j h1 hj (by omega), Bool.and_false]
  ·rw [decide_eq_false h1]; rfl
theorem any_lt {α} {l : List α} {p : α → Bool} (h : ∀ j (hj : j < l.length), p l[j] = false) : l.any p = false := by
 rw [List.any_eq_false]
 intro y hy
 obtain ⟨n, hn, rfl⟩ := List.getElem_of_mem hy
 rw [h n hn]; decide
theorem gIs0_go (hP : PE E) {W : AW} {x0 : V} {q b7 b8 : Nat} {a b : Rt} (ha : a.ok) (hb : b.ok) (h7 : W.get b7 = some (.row a.cs)) (h8 : W.get b8 = some (.row b.cs)) {lo N : Nat} {L : List (List (List Int))} {cs : List V} {es : List (List V)} (hO : Ro W q L lo cs es N) (hN : N < 2 ^ 30) {kd : Int} {A : AFr} {Q : Exit → AFr → AW → Prop}
  (a0 : A 0 = some x0) (a1 : A 1 = some (.ptr q 0)) (a4 : A 4 = some (.int .u8 kd)) (a7 : A 7 = some (.ptr b7 0)) (a8 : A 8 = some (.ptr b8 0)) (a11 : A 11 = some (.int .i64 0))
  (hret : ∀ A', A' 10 = some (.bool true) → (decide (kd = 0) && (List.range 8).any fun k => wwX a.tx b.tx k (ofL (keyL L k))) = true → Q .ret A' W)
  (hq : ∀ A', A' 0 = some x0 → A' 1 = some (.ptr q 0) → A' 4 = some (.int .u8 kd) → A' 7 = some (.ptr b7 0) → A' 8 = some (.ptr b8 0) → (decide (kd = 0) && (List.range 8).any fun k => wwX a.tx b.tx k (ofL (keyL L k))) = false → Q (.exit 0) A' W) : awp E (.loop c_gIs_0) Q A W := by
 rw [e_loop]
 refine alp (fun (i : Nat) A1 W1 => A1 0 = some x0 ∧ A1 1 = some (.ptr q 0) ∧ A1 4 = some (.int .u8 kd) ∧ A1 7 = some (.ptr b7 0) ∧ A1 8 = some (.ptr b8 0) ∧ A1 11 = some (.int .i64 i) ∧ i ≤ 8 ∧ W1 = W ∧ ∀ j, j < i → wwX a.tx b.tx (j : Int) (ofL (keyL L (j : Int))) = false) (fun i => 8 - i) 0
  ⟨a0, a1, a4, a7, a8, a11, by omega, rfl, fun j hj => by omega⟩ ?_
 rintro i A1 W1 ⟨g0, g1, g4, g7, g8, g11, gi, rfl, gj⟩ _
 by_cases hi : i < 8
 ·have hi2 : decide ((i : Int) < 8) = true := decide_eq_true (by omega)
  have hu : IntKind.u8.wrap (i : Int) = i := IntWalk.u8_in _ (by omega)
  by_cases hk : kd = 0
  ·subst hk
   simp (maxSteps:=9^9) (disch:=omega) only [BS, e_seq, ↓reduceIte, c_gIs_0, g11, hi2]
   repeat (rw [guard_if]; simp (maxSteps:=9^9) (disch:=omega) only [BX, ↓reduceIte, nE, g1, g4, g11, cmpeq, dT, hu])
   refine pc (oOf_c hP _ hO hN i (by omega)) ?_
   simp (maxSteps:=9^9) (disch:=omega) only [BS, e_seq, ↓reduceIte]
   refine gIs1_go hP (x0 := x0) (x1 := .ptr q 0) ha hb h7 h8 (k := i) hi (ofL_short hO i).1 tt tt tt tt tt tt tt tt ?_ ?_
   ·intro A' e1 e2
    exact hret _ e1 (by rw [decide_eq_true rfl, Bool.true_and, aet]; exact ⟨i, List.mem_range.2 hi, e2⟩)
   ·intro A' e0 e1 e4 e7 e8 e11 ew
    simp (maxSteps:=9^9) (disch:=omega) only [BS, ↓reduceIte, nE, reduceCtorEq, e11, wadd1]
    refine ⟨i + 1, ⟨tt, tt, tt, tt, tt, tt, hi, tt, fun j hj => ?_⟩, by omega, lr _⟩
    by_cases e : j = i
    ·subst e; exact ew
    ·exact gj j (by omega)
  ·simp (maxSteps:=9^9) (disch:=omega) only [BS, e_seq, ↓reduceIte, c_gIs_0, g11, hi2]
   repeat (rw [guard_if]; simp (maxSteps:=9^9) (disch:=omega) only [BS, BC, cond_if, ↓reduceIte, nE, g4, cmpeq, decide_eq_false hk])
   exact hq _ g0 g1 g4 g7 g8 (by rw [decide_eq_false hk]; rfl)
 ·obtain rfl : i = 8 := by omega
  have hi2 : decide (((8 : Nat) : Int) < 8) = false := by decide
  simp (maxSteps:=9^9) (disch:=omega) only [BS, e_seq, ↓reduceIte, c_gIs_0, g11, hi2]
  repeat (rw [guard_if]; simp (maxSteps:=9^9) (disch:=omega) only [BS, BC, cond_if, ↓reduceIte, nE, BM])
  refine hq _ g0 g1 g4 g7 g8 ?_
  have : (List.range 8).any (fun k => wwX a.tx b.tx (k : Int) (ofL (keyL L (k : Int)))) = false := any_lt fun j hj => by
   rw [List.getElem_range]; exact gj j (by simpa using hj)
  rw [this, Bool.and_false]
theorem ldc2 {W : AW} {K : V → AW → Prop} {x y : V} : sem E (.load true 2) [.cptr [x, y]] W K = K (.agg [x, y]) W := rfl
theorem gIs2_go (hP : PE E) {W : AW} {sp lo q lo' N : Nat} {h : V} {l : List Rt} (hR : Rs W sp h l lo) {L : List (List (List Int))} {cs : List V} {es : List (List V)} (hO : Ro W q L lo' cs es N) (hN : N < 2 ^ 30) {b7 b8 : Nat} {a b t : Rt} (ha : a.ok) (hb : b.ok) (ht : t.ok) (h7 : W.get b7 = some (.row a.cs)) (h8 : W.get b8 = some (.row b.cs)) {kd : Int} {A : AFr} {Q : Exit → AFr → AW → Prop}
  (a0 : A 0 = some (.ptr sp 0)) (a1 : A 1 = some (.ptr q 0)) (a4 : A 4 = some (.int .u8 kd)) (a7 : A 7 = some (.ptr b7 0)) (a8 : A 8 = some (.ptr b8 0)) (a15 : A 15 = some (nowGS 2 ((rsOf t).map rdE))) (a16 : A 16 = some (.int .i64 0))
  (hret : ∀ A', A' 10 = some (.bool true) → (decide (kd > 0) && (readsR t.tx).any fun r => rdX (txs l) L a.tx b.tx kd r) = true → Q .ret A' W)
  (hq : ∀ A', (decide (kd > 0) && (readsR t.tx).any fun r => rdX (txs l) L a.tx b.tx kd r) = false → Q (.exit 4) A' W) : awp E (.loop c_gIs_2) Q A W := by
 obtain ⟨q1, q2⟩ := rsOf_ok ht
 have hrl := readsR_len ht.tx
 have hrk := readsR_key ht.tx.ms
 have hrn := readsR_nums ht.tx
 have hgs := nowGS_S 2 ((rsOf t).map rdE)
 have hla : ∀ K, sem E (.load true 5) [.ptr b7 0] W K = K a.V W := fun K => by rw [m_load, h7]; rfl
 have hlb : ∀ K, sem E (.load true 5) [.ptr b8 0] W K = K b.V W := fun K => by rw [m_load, h8]; rfl
 generalize rsOf t = rs at q1 q2 hgs a15
 generalize readsR t.tx = rd at q1 q2 hrl hrk hrn hret hq
 rw [e_loop]
 refine alp (fun (i : Nat) A1 W1 => A1 0 = some (.ptr sp 0) ∧ A1 1 = some (.ptr q 0) ∧ A1 4 = some (.int .u8 kd) ∧ A1 7 = some (.ptr b7 0) ∧ A1 8 = some (.ptr b8 0) ∧ A1 15 = some (nowGS 2 (rs.map rdE)) ∧ A1 16 = some (.int .i64 i) ∧ i ≤ rs.length ∧ W1 = W ∧ ∀ j (hj : j < rd.length), j < i → rdX (txs l) L a.tx b.tx kd rd[j] = false) (fun i => rs.length - i) 0
  ⟨a0, a1, a4, a7, a8, a15, a16, Nat.zero_le _, rfl, fun j _ hj => by omega⟩ ?_
 rintro i A1 W1 ⟨g0, g1, g4, g7, g8, g15, g16, gi, rfl, gj⟩ _
 by_cases hi : i < rs.length
 ·by_cases hk : kd > 0
  ·have hid : i < rd.length := by omega
   obtain ⟨y1, y2⟩ := q2 i hi hid
   have hat : (rs.map rdE)[i]? = some (rdE rs[i]) := by simp [hi]
   obtain ⟨y3, y4⟩ := hrk _ (gmm hid)
   obtain ⟨y5, y6⟩ := hrn _ (gmm hid)
   have hgo : rdX (txs l) L a.tx b.tx kd rd[i] = false → ∀ j (hj : j < rd.length), j < i + 1 → rdX (txs l) L a.tx b.tx kd rd[j] = false := fun h j hj hji => by
    by_cases e : j = i
    ·subst e; exact h
    ·exact gj j hj (by omega)
   have hfin : rdX (txs l) L a.tx b.tx kd rd[i] = true → (decide (kd > 0) && rd.any fun r => rdX (txs l) L a.tx b.tx kd r) = true := fun h => by
    rw [decide_eq_true hk, Bool.true_and, aet]; exact ⟨_, gmm hid, h⟩
   generalize rs[i] = re at y1 y2 hat
   generalize rd[i] = de at y1 y2 y3 y4 y5 y6 hgo hfin
   obtain ⟨k, v⟩ := re
   obtain ⟨k', o⟩ := de
   simp only at y1 y2 y3 y4 y5 y6
   subst y1
   have hs := y2.isS
   have hlk : ∀ K, sem E (.load false 1) [.cptr [.int .u8 k, v]] W1 K = K (.int .u8 k) W1 := fun K => rfl
   simp (maxSteps:=9^9) (disch:=omega) only [BS, e_seq, ↓reduceIte, nE, c_gIs_2, g15, g16, hgs.len, lmp, clt, hi, dT]
   repeat (rw [guard_if]; simp (maxSteps:=9^9) (disch:=omega) only [BX, ↓reduceIte, nE, reduceCtorEq, BM, BD, nA, nL, g0, g1, g4, g15, g16, hgs.idx hat, rdE_cells, decide_eq_true hk, hs.len, ints_len])
   have hcc : rdX (txs l) L a.tx b.tx kd (k, o) = (cntX (txs l) L k (nums o) && ((decide (kd = 1) && (decide (0 < (nums o).length) && S.has a.tx k ((nums o).getD ((nums o).length - 1) 0))) || (decide (kd = 2) && (decide ((nums o).length < (ofL (keyL L k)).length) && S.has b.tx k ((ofL (keyL L k)).getD (nums o).length 0))))) := rfl
   refine pc (gCounts_c hP _ hR hO hN y3 y2 (by omega)) ?_
   cases x1 : cntX (txs l) L k (nums o) with
   | false =>
    simp (maxSteps:=9^9) (disch:=omega) only [BS, cond_if, ↓reduceIte, nE, reduceCtorEq, BD, g0, g1, g4, g7, g8, g15, g16, wadd1]
    exact ⟨i + 1, ⟨tt, tt, tt, tt, tt, tt, tt, hi, tt, hgo (by rw [hcc, x1]; rfl)⟩, by omega, lr _⟩
   | true =>
    by_cases k1 : kd = 1
    ·subst k1
     have n2 : decide ((1 : Int) = 2) = false := by decide
     by_cases h0 : 0 < (nums o).length
     ·have h0i : decide ((((nums o).length : Nat) : Int) > 0) = true := decide_eq_true (by omega)
      have hat1 := int_at (show (nums o).length - 1 < (nums o).length by omega)
      have e1 := getD_at (show (nums o).length - 1 < (nums o).length by omega)
      have hs1 : IntKind.i64.wrap ((((nums o).length : Nat) : Int) - 1) = (((nums o).length - 1 : Nat) : Int) := by rw [show (((nums o).length : Nat) : Int) - 1 = (((nums o).length - 1 : Nat) : Int) by omega]; exact IntWalk.i64_in _ (by omega)
      generalize (nums o)[(nums o).length - 1] = z at hat1 e1
      simp (maxSteps:=9^9) (disch:=omega) only [BX, ↓reduceIte, nE, BD, g4, cmpeq, dT]
      repeat (rw [guard_if]; simp (maxSteps:=9^9) (disch:=omega) only [BS, BC, ↓reduceIte, nE, BM, BD, nA, nL, g7, g15, g16, h0i, hs1, hla, hgs.idx hat, rdE_cells, hlk, hs.idx hat1])
      refine pc (gApp_c hP _ ha k z) ?_
      cases x2 : S.has a.tx k z with
      | true =>
       simp (maxSteps:=9^9) (disch:=omega) only [BS, e_seq, cond_if, ↓reduceIte, nE, e_seq]
       repeat (rw [guard_if]; simp (maxSteps:=9^9) (disch:=omega) only [BX, ↓reduceIte, nE, reduceCtorEq, BM, BD, nA, nL, nT, Nat.reduceMul, msV_cells, msV_one, lsV_cells, lsV_one, msV_frz, lsV_frz, g0, g1, g4, g7, g8, g15, g16, e_seq])
       exact hret _ rfl (hfin (by rw [hcc, x1, decide_eq_true h0, e1, x2]; rfl))
      | false =>
       simp (maxSteps:=9^9) (disch:=omega) only [BX, ↓reduceIte, nE, BM, BD, nA, nL, g1, g15, g16, hgs.idx hat, rdE_cells, hlk]
       repeat (rw [guard_if]; simp (maxSteps:=9^9) (disch:=omega) only [BX, ↓reduceIte, nE, reduceCtorEq, BM, BD, nA, nL, nT, Nat.reduceMul, msV_cells, msV_one, lsV_cells, lsV_one, msV_frz, lsV_frz, g0, g1, g4, g7, g8, g15, g16, hgs.idx hat, rdE_cells, hlk])
       refine pc (oOf_c hP _ hO hN k y3) ?_
       simp (maxSteps:=9^9) (disch:=omega) only [BS, e_seq, ↓reduceIte, nE, g4, cmpeq, n2]
       repeat (rw [guard_if]; simp (maxSteps:=9^9) (disch:=omega) only [BS, BC, cond_if, ↓reduceIte, nE, reduceCtorEq, BM, g0, g1, g4, g7, g8, g15, g16, wadd1])
       exact ⟨i + 1, ⟨tt, tt, tt, tt, tt, tt, tt, hi, tt, hgo (by rw [hcc]; rw [n2, e1, x2, Bool.and_false, Bool.and_false, Bool.false_and, Bool.or_false, Bool.and_false])⟩, by omega, lr _⟩
     ·have h0i : decide ((((nums o).length : Nat) : Int) > 0) = false := decide_eq_false (by omega)
      simp (maxSteps:=9^9) (disch:=omega) only [BX, ↓reduceIte, nE, BD, g4, cmpeq, dT]
      repeat (rw [guard_if]; simp (maxSteps:=9^9) (disch:=omega) only [BX, ↓reduceIte, nE, BM, BD, nA, nL, g1, g15, g16, h0i, hgs.idx hat, rdE_cells, hlk])
      refine pc (oOf_c hP _ hO hN k y3) ?_
      simp (maxSteps:=9^9) (disch:=omega) only [BS, e_seq, ↓reduceIte, nE, g4, cmpeq, n2]
      repeat (rw [guard_if]; simp (maxSteps:=9^9) (disch:=omega) only [BS, BC, cond_if, ↓reduceIte, nE, reduceCtorEq, BM, g0, g1, g4, g7, g8, g15, g16, wadd1])
      exact ⟨i + 1, ⟨tt, tt, tt, tt, tt, tt, tt, hi, tt, hgo (by rw [hcc]; rw [n2, decide_eq_false h0, Bool.false_and, Bool.and_false, Bool.false_and, Bool.or_false, Bool.and_false])⟩, by omega, lr _⟩
    ·have n1 : decide (kd = 1) = false := decide_eq_false k1
     simp (maxSteps:=9^9) (disch:=omega) only [BX, ↓reduceIte, nE, BD, g4, cmpeq, n1]
     repeat (rw [guard_if]; simp (maxSteps:=9^9) (disch:=omega) only [BX, ↓reduceIte, nE, BM, BD, nA, nL, g1, g15, g16, hgs.idx hat, rdE_cells, hlk])
     by_cases k2 : kd = 2
     ·subst k2
      have n2 : decide ((2 : Int) = 2) = true := by decide
      refine pc (oOf_c hP _ hO hN k y3) ?_
      have hw := nowGS_S 1 (intsV (ofL (keyL L k)))
      by_cases h0 : (nums o).length < (ofL (keyL L k)).length
      ·have hat1 := int_at h0
       have e1 := getD_at h0
       generalize (ofL (keyL L k))[(nums o).length] = z at hat1 e1
       simp (maxSteps:=9^9) (disch:=omega) only [BS, e_seq, ↓reduceIte, nE, g4, cmpeq, dT]
       repeat (rw [guard_if]; simp (maxSteps:=9^9) (disch:=omega) only [BS, BC, ↓reduceIte, nE, BM, BD, nA, nL, g8, g15, g16, hw.len, ints_len, clt, h0, dT, hlb, hgs.idx hat, rdE_cells, hlk, hw.idx hat1])
       refine pc (gApp_c hP _ hb k z) ?_
       cases x2 : S.has b.tx k z with
       | true =>
        simp (maxSteps:=9^9) (disch:=omega) only [BS, e_seq, cond_if, ↓reduceIte, nE, e_seq]
        repeat (rw [guard_if]; simp (maxSteps:=9^9) (disch:=omega) only [BX, ↓reduceIte, nE, reduceCtorEq, BM, BD, nA, nL, nT, Nat.reduceMul, msV_cells, msV_one, lsV_cells, lsV_one, msV_frz, lsV_frz, g0, g1, g4, g7, g8, g15, g16, e_seq])
        exact hret _ rfl (hfin (by rw [hcc, x1, decide_eq_true h0, e1, x2, n2]; simp))
       | false =>
        simp (maxSteps:=9^9) (disch:=omega) only [BS, BC, cond_if, ↓reduceIte, nE, reduceCtorEq, g0, g1, g4, g7, g8, g15, g16, wadd1]
        repeat (rw [guard_if]; simp (maxSteps:=9^9) (disch:=omega) only [BX, ↓reduceIte, nE, reduceCtorEq, BM, BD, nA, nL, nT, Nat.reduceMul, msV_cells, msV_one, lsV_cells, lsV_one, msV_frz, lsV_frz, g0, g1, g4, g7, g8, g15, g16, wadd1])
        exact ⟨i + 1, ⟨tt, tt, tt, tt, tt, tt, tt, hi, tt, hgo (by rw [hcc, e1, x2, n1]; simp)⟩, by omega, lr _⟩
      ·simp (maxSteps:=9^9) (disch:=omega) only [BS, e_seq, ↓reduceIte, nE, g4, cmpeq, dT]
       repeat (rw [guard_if]; simp (maxSteps:=9^9) (disch:=omega) only [BS, BC, cond_if, ↓reduceIte, nE, reduceCtorEq, BM, g0, g1, g4, g7, g8, g15, g16, hw.len, ints_len, clt, h0, dF, wadd1])
       exact ⟨i + 1, ⟨tt, tt, tt, tt, tt, tt, tt, hi, tt, hgo (by rw [hcc, decide_eq_false h0, n1]; simp)⟩, by omega, lr _⟩
     ·have n2 : decide (kd = 2) = false := decide_eq_false k2
      refine pc (oOf_c hP _ hO hN k y3) ?_
      simp (maxSteps:=9^9) (disch:=omega) only [BS, e_seq, ↓reduceIte, nE, g4, cmpeq, n2]
      repeat (rw [guard_if]; simp (maxSteps:=9^9) (disch:=omega) only [BS, BC, cond_if, ↓reduceIte, nE, reduceCtorEq, BM, g0, g1, g4, g7, g8, g15, g16, wadd1])
      exact ⟨i + 1, ⟨tt, tt, tt, tt, tt, tt, tt, hi, tt, hgo (by rw [hcc]; rw [n1, n2]; simp)⟩, by omega, lr _⟩
  ·simp (maxSteps:=9^9) (disch:=omega) only [BS, e_seq, ↓reduceIte, nE, c_gIs_2, g15, g16, hgs.len, lmp, clt, hi, dT]
   repeat (rw [guard_if]; simp (maxSteps:=9^9) (disch:=omega) only [BS, BC, cond_if, ↓reduceIte, nE, g4, gt_iff_lt, decide_eq_false hk])
   refine hq _ ?_
   rw [decide_eq_false hk]; rfl
 ·simp (maxSteps:=9^9) (disch:=omega) only [BS, e_seq, ↓reduceIte, nE, c_gIs_2, g15, g16, hgs.len, lmp, clt, hi, dF]
  repeat (rw [guard_if]; simp (maxSteps:=9^9) (disch:=omega) only [BS, BC, cond_if, ↓reduceIte, nE, BM])
  refine hq _ ?_
  rw [any_lt fun j hj => gj j hj (by omega), Bool.and_false]
theorem gIs_c (hP : PE E) (W : AW) {sp lo q lo' N : Nat} {h : V} {l : List Rt} (hR : Rs W sp h l lo) {L : List (List (List Int))} {cs : List V} {es : List (List V)} (hO : Ro W q L lo' cs es N) (hN : N < 2 ^ 30) {a b : Rt} (ha : a.ok) (hb : b.ok) (kd : Int) :
  ACalls E 58 [.ptr sp 0, .ptr q 0, a.V, b.V, .int .u8 kd] W fun Y W' => Y = .bool (isX (txs l) L a.tx b.tx kd) ∧ W' = W := by
 refine ACalls.of hP Tryz.func58 ok_gIse (by simp) fun _ hok => ?_
 refine awp_start hok ?_
 have f1 : (a.V).cells = a.cs := rfl
 have f2 : (b.V).cells = b.cs := rfl
 have hEx : ∀ l, Ex W (X W W.nx l) := fun l => .x0
 have hRx : ∀ {W1}, Ex W W1 → Rs W1 sp h l lo := fun hE => ⟨(hE.get _ hR.lp).trans hR.hp, by have := hR.lp; have := hE.nx; omega, by
   rcases hR.el with h | ⟨r, h1, h2, h3, h4, h5⟩
   ·exact .inl h
   ·exact .inr ⟨r, h1, by have := hE.nx; omega, h3, h4, by rw [hE.get _ h2]; exact h5⟩, hR.ok, hR.so⟩
 have hOx : ∀ {W1}, Ex W W1 → Ro W1 q L lo' cs es N := fun hE => ⟨(hE.get q hO.lp).trans hO.hp, by have := hO.lp; have := hE.nx; omega, hO.c8, hO.l8, hO.e8, fun k a b c => (hO.ls k a b c).to hE.nx (fun r _ h2 _ => hE.get r h2), hO.rg⟩
 have hld : ∀ l K, sem E (.load true 5) [.ptr (rf W.nx 0) 0] (X W W.nx (.row a.cs :: l)) K = K a.V (X W W.nx (.row a.cs :: l)) := fun l K => by
  rw [m_load, X_get]; rfl
 have hlb : ∀ x l K, sem E (.load true 5) [.ptr (rf W.nx 1) 0] (X W W.nx (x :: .row b.cs :: l)) K = K b.V (X W W.nx (x :: .row b.cs :: l)) := fun x l K => by
  rw [m_load, X_get]; rfl
 have haid : ∀ l K, sem E (.load false 1) [.ptr (rf W.nx 0) 0] (X W W.nx (.row a.cs :: l)) K = K (.int .u16 a.tx.id) (X W W.nx (.row a.cs :: l)) := fun l K => by
  rw [m_load, X_get]; rfl
 have hbid : ∀ x l K, sem E (.load false 1) [.ptr (rf W.nx 1) 0] (X W W.nx (x :: .row b.cs :: l)) K = K (.int .u16 b.tx.id) (X W W.nx (x :: .row b.cs :: l)) := fun x l K => by
  rw [m_load, X_get]; rfl
 simp (maxSteps:=9^9) (disch:=omega) only [BZ, ↓reduceIte, nE, BM, BD, c_gIs, f1, f2, haid, hbid, cmpeq]
 have hbk : ∀ b l, RetV (.bool b) (X W W.nx l) (.bool b) W := fun b l => backX hok rfl
 by_cases c1 : a.tx.id = b.tx.id
 ·rw [decide_eq_true c1]
  repeat (rw [guard_if]; simp (maxSteps:=9^9) (disch:=omega) only [BX, ↓reduceIte, nE, BM, e_seq])
  exact ⟨_, rfl, _, W, hbk _ _, lr _, by rw [isX, if_pos (.inl c1)], rfl⟩
 ·rw [decide_eq_false c1]
  repeat (rw [guard_if]; simp (maxSteps:=9^9) (disch:=omega) only [BS, BC, ↓reduceIte, nE, hld])
  refine pc (gAlive_c hP _ ha) ?_
  by_cases c2 : a.tx.st = 2
  ·simp (maxSteps:=9^9) (disch:=omega) only [BS, show decide (a.tx.st ≠ 2) = false by simp [c2]]
   repeat (rw [guard_if]; simp (maxSteps:=9^9) (disch:=omega) only [BX, ↓reduceIte, nE, BM, BD, e_seq])
   exact ⟨_, rfl, _, W, hbk _ _, lr _, by rw [isX, if_pos (.inr (.inl c2))], rfl⟩
  ·simp (maxSteps:=9^9) (disch:=omega) only [BS, show decide (a.tx.st ≠ 2) = true by simp [c2]]
   repeat (rw [guard_if]; simp (maxSteps:=9^9) (disch:=omega) only [BS, BC, ↓reduceIte, nE, BD, hlb])
   refine pc (gAlive_c hP _ hb) ?_
   by_cases c3 : b.tx.st = 2
   ·simp (maxSteps:=9^9) (disch:=omega) only [BS, show decide (b.tx.st ≠ 2) = false by simp [c3]]
    repeat (rw [guard_if]; simp (maxSteps:=9^9) (disch:=omega) only [BX, ↓reduceIte, nE, BD, e_seq])
    exact ⟨_, rfl, _, W, hbk _ _, lr _, by rw [isX, if_pos (.inr (.inr c3))], rfl⟩
   ·simp (maxSteps:=9^9) (disch:=omega) only [BS, show decide (b.tx.st ≠ 2) = true by simp [c3]]
    repeat (rw [guard_if]; simp (maxSteps:=9^9) (disch:=omega) only [BX, ↓reduceIte, nE, BD])
    have hX : ∀ t, isX t L a.tx b.tx kd = ((decide (kd = 0) && (List.range 8).any fun k => wwX a.tx b.tx k (ofL (keyL L k))) || (decide (kd > 0) && (readsR (if kd = 2 then a.tx else b.tx)).any fun r => rdX t L a.tx b.tx kd r)) := fun t => by
     rw [isX, if_neg (by simp [c1, c2, c3])]
    refine gIs0_go hP ha hb (b7 := rf W.nx 0) (b8 := rf W.nx 1) (by rw [X_get]; rfl) (by rw [X_get]; rfl) (hOx .x0) hN tt tt tt tt tt tt ?_ ?_
    ·intro A' e1 e2
     exact ⟨.bool true, by simp (maxSteps:=9^9) (disch:=omega) only [BS, BC, e1], _, W, hbk _ _, lr _, by rw [hX, e2, Bool.true_or], rfl⟩
    ·intro A' e0 e1 e4 e7 e8 ew
     obtain ⟨_, hla, -⟩ := ha.ls
     obtain ⟨_, hlb', -⟩ := hb.ls
     have o1 := ha.ms.one
     have o2 := hla.one
     have o3 := hb.ms.one
     have o4 := hlb'.one
     by_cases k2 : kd = 2
     ·subst k2
      simp (maxSteps:=9^9) (disch:=omega) only [BX, ↓reduceIte, nE, BM, BD, nA, nL, nT, e4, e7, e8, Rt.cs, o1, o2, o3, o4, show ((2 : Int) == 2) = true by decide]
      refine pc (rReads_c hP _ ha) ?_
      simp (maxSteps:=9^9) (disch:=omega) only [BS, e_seq, ↓reduceIte]
      refine gIs2_go hP (hRx .x0) (hOx .x0) hN ha hb ha (b7 := rf W.nx 0) (b8 := rf W.nx 1) (by rw [X_get]; rfl) (by rw [X_get]; rfl) tt tt tt tt tt tt tt ?_ ?_
      ·intro A2 u1 u2
       exact ⟨.bool true, by simp (maxSteps:=9^9) (disch:=omega) only [BS, BC, u1], _, W, hbk _ _, lr _, by rw [hX, if_pos rfl, u2, Bool.or_true], rfl⟩
      ·intro A2 u2
       simp (maxSteps:=9^9) (disch:=omega) only [BZ, ↓reduceIte, e_seq]
       exact ⟨_, rfl, _, W, hbk _ _, lr _, by rw [hX, if_pos rfl, u2, ew]; rfl, rfl⟩
     ·have k2f : (kd == 2) = false := by simp [k2]
      simp (maxSteps:=9^9) (disch:=omega) only [BX, ↓reduceIte, nE, BM, BD, nA, nL, nT, e4, e8, Rt.cs, o3, o4, k2f]
      refine pc (rReads_c hP _ hb) ?_
      simp (maxSteps:=9^9) (disch:=omega) only [BS, e_seq, ↓reduceIte]
      refine gIs2_go hP (hRx .x0) (hOx .x0) hN ha hb hb (b7 := rf W.nx 0) (b8 := rf W.nx 1) (by rw [X_get]; rfl) (by rw [X_get]; rfl) tt tt tt tt tt tt tt ?_ ?_
      ·intro A2 u1 u2
       exact ⟨.bool true, by simp (maxSteps:=9^9) (disch:=omega) only [BS, BC, u1], _, W, hbk _ _, lr _, by rw [hX, if_neg k2, u2, Bool.or_true], rfl⟩
      ·intro A2 u2
       simp (maxSteps:=9^9) (disch:=omega) only [BZ, ↓reduceIte, e_seq]
       exact ⟨_, rfl, _, W, hbk _ _, lr _, by rw [hX, if_neg k2, u2, ew]; rfl, rfl⟩
def c_listed : AC := (.r [.v 2 (.nilsl),.v 3 (.bool false)] (.r [.m 7 0,.u 8 (.call 43) 7,.m 4 8] (.seq (.r [.m 9 4,.p 10 (.eqn false 3) [.t 9,.c (.nilfn)]] (.cond (.t 10) (.r [.v 2 (.nilsl),.v 3 (.bool false)] .ret) .skip)) (.r [.p 5 (.alloc [.nilsl]) []] (.seq (.r [.m 11 4] (.block 0 (.rangef (.t 11) [12] (.reg [.p 6 (.alloc [.int .u16 0,.int .u16 0,.int .u8 0]) [],⟨none,.store 3, [.t 6,.t 12], none⟩]) (.block 1 (.reg [.u 13 (.load false 1) 5,.u 14 (.load true 3) 6,.u 15 (.bslice 3 1 (.agg [.int .u16 0,.int .u16 0,.int .u8 0]) [0]) 14,.b 16 (.append 3 6) 13 15,⟨none,.store 1, [.t 5,.t 16], none⟩]))))) (.r [.u 17 (.load false 1) 5,.m 2 17,.v 3 (.bool true)] .ret))))))
theorem ok_listede : compF Tryz.prog Tryz.f13 ⟨false, false, []⟩ = some (c_listed, [.tmp 2, .tmp 3], 18) := by kernel_rfl
def c_ledges_0 : AC := (.seq (.r [.m 22 7,.m 23 5,.u 24 (.len 1 0) 23,.b 25 (.bin .lss) 22 24] (.w 25 0)) (.seq (.block 1 (.seq (.par (.step 0 (.m 28 5) (.step 1 (.m 29 7) (.step 4 (.m 32 1) (.step 5 (.m 33 7) (.step 2 (.b 30 (.idxp 3) 28 29) (.step 3 (.u 31 (.load true 3) 30) (.step 6 (.b 34 (.idxp 3) 32 33) (.step 7 (.u 35 (.load true 3) 34) (.step 8 (.b 36 (.eqv true (true, [.i .u16,.i .u16,.i .u8])) 31 35) .done)))))))))) (.cond (.t 36) (.r [.v 4 (.bool false)] .ret) .skip))) (.reg [.m 26 7,.a 27 (.bin .add) 26 1,.m 7 27])))
def c_ledges : AC := (.r [.v 4 (.bool false)] (.r [.m 9 0,.u 10 (.call 13) 9,.m 8 10,.u 11 (.ext 0) 8,.u 12 (.ext 1) 8,.m 5 11,.m 6 12] (.seq (.r [.m 13 6,.u 14 (.un .not) 13,.m 15 14,.M 16 5 15 false,.U 17 (.len 1 0) 16 15 false,.M 18 1 15 false,.U 19 (.len 1 0) 18 15 false,.B 20 (.bin .neq) 17 19 15 false,.p 21 .pick [.t 15,.T,.t 20]] (.cond (.t 21) (.r [.v 4 (.bool false)] .ret) .skip)) (.seq (.r [.v 7 (.int .i64 0)] (.block 0 (.loop c_ledges_0))) (.r [.v 4 (.bool true)] .ret)))))
theorem ok_ledgese : compF Tryz.prog Tryz.f14 ⟨false, false, []⟩ = some (c_ledges, [.tmp 4], 37) := by kernel_rfl
theorem bsE {W : AW} {K : V → AW → Prop} {a b c : Int} : sem E (.bslice 3 1 (.agg [.int .u16 0, .int .u16 0, .int .u8 0]) [0]) [.agg [.int .u16 a, .int .u16 b, .int .u8 c]] W K = K (.sl 3 true [(Ed.mk a b c).V]) W := by
 simp [sem, rsem, tsem, fillE, V.cells, Ed.V]
theorem bsE' {W : AW} {K : V → AW → Prop} {e : Ed} : sem E (.bslice 3 1 (.agg [.int .u16 0, .int .u16 0, .int .u8 0]) [0]) [.agg [.int .u16 e.fr, .int .u16 e.to, .int .u8 e.kd]] W K = K (.sl 3 true [e.V]) W := bsE
theorem eds_now (l : List Ed) : nowGS 3 (l.map Ed.V) = edsV l := by
 cases l <;> rfl
theorem listed_c (hP : PE E) (W : AW) {g m lo : Nat} {h : V} {P : List Ek} {N : List Int} (hG : Gr W g m h P N lo) : ACalls E 13 [.ptr g 0] W fun Y W' => Y = .tuple [edsV (edL P), .bool true] ∧ W' = W := by
 refine ACalls.of hP Tryz.func13 ok_listede (by simp) fun _ hok => ?_
 have hlm := hG.lm
 have hlg := hG.lg
 simp (maxSteps:=9^9) (disch:=omega) only [c_listed, BZ, ↓reduceIte, reduceCtorEq]
 refine (edges_c hP _ g).mono ?_
 rintro _ W1 ⟨q, rfl, hq, hqn, hE1⟩
 rw [hE1.cl.start]
 simp (maxSteps:=9^9) (disch:=omega) only [BX, ↓reduceIte, nE, BM, BD]
 obtain ⟨W0, hW0⟩ : ∃ W0, W0 = X W1 W1.nx [.row [.nilsl]] := ⟨_, rfl⟩
 rw [← hW0]
 have hE10 : Ex W1 W0 := by rw [hW0]; exact .x0
 have hn0 : W0.nx = W1.nx + 1 := by rw [hW0]; rfl
 have r0 : rf W1.nx 0 = W1.nx := rfl
 have hc5 : W0.get (rf W1.nx 0) = some (.row [.nilsl]) := by rw [hW0, X_get]; rfl
 clear hW0
 have hE0 := hE1.trans hE10
 have hn1 := hE1.nx
 have hG0 := hG.ex hE0
 have hl := edL_lt hG
 refine range_edges hP (q := q) (lo := lo) (P := P) (N := N) rfl ((hE10.get _ hqn).trans hq) (by omega) hE0.cl hG0 (fun i W2 => Cl W2 ∧ W0.nx < W2.nx ∧ (∀ x, x < W0.nx → x ≠ rf W1.nx 0 → W2.get x = W0.get x) ∧ ∃ h, W2.get (rf W1.nx 0) = some (.row [h]) ∧ nowG W2 h (((edL P).take i).map Ed.V) 3 W0.nx) ?_ ?_ ?_ ?_
 ·intro W2 hE hn
  exact ⟨hE.cl, hn, fun x hx _ => hE.get x hx, .nilsl, by rw [hE.get _ (by omega)]; exact hc5, .inl ⟨rfl, rfl⟩⟩
 ·exact fun i W2 h => ⟨h.1, h.2.1⟩
 ·rintro i hi W2 W2' ⟨j0, j1, j2, h5, j3, j4⟩ hE2 hlp
  have htk : ((edL P).take (i + 1)).map Ed.V = ((edL P).take i).map Ed.V ++ [((edL P)[i]).V] := by
   rw [tao, gEg hi, mpp]; rfl
  have hlk : (((edL P).take i).map Ed.V).length = i := by simp; omega
  generalize (edL P)[i] = e at htk
  have hn2 := hE2.nx
  have k5 := (hE2.get _ (show rf W1.nx 0 < W2.nx by omega)).trans j3
  have j4' := j4.to hE2.nx fun r _ hr _ => hE2.get r hr
  refine awp_startC hE2.cl ?_
  simp (maxSteps:=9^9) (disch:=omega) only [BS, BC, ↓reduceIte, nE, BM, BD, nA, nL, nT, Ed.V, hlp]
  refine ⟨tt, ?_⟩
  have k5' : (X (W2'.put W0.nx (.loop .busy none)) W2'.nx [.row [.int .u16 e.fr, .int .u16 e.to, .int .u8 e.kd]]).get (rf W1.nx 0) = some (.row [h5]) := by rw [X_old (by omega), put_ne (by omega)]; exact k5
  simp (maxSteps:=9^9) (disch:=omega) only [BS, BC, ↓reduceIte, nE, BM, put_ne, k5, bsE']
  refine app_now (lo := W0.nx) (j4'.to (by simp only [X_nx, rf]; omega) fun r h1 h2 ⟨ys, hy⟩ => by rw [X_old h2, put_ne (by rintro rfl; rw [hlp] at hy; cases hy)]) Cl.X (by simp only [X_nx, rf]; omega) (by decide) rfl (by rw [hlk]; omega) ?_
  intro h' W3 gN gC gn gg1 gg2
  simp only [X_nx, rf, lcs, List.length_nil] at gn
  have k3 : W3.get (rf W1.nx 0) = some (.row [h5]) := by rw [gg2 _ (by omega)]; exact k5'
  have kl : W3.get W0.nx = some (.loop .busy none) := by
   rw [gg1 W0.nx (by simp only [X_nx, rf]; omega) (fun ys => by rw [X_old (by omega), put_at]; simp), X_old (by omega), put_at]
  simp (maxSteps:=9^9) (disch:=omega) only [BS, ↓reduceIte, nE, BM, BD, nL, gN.cells1.1, gN.cells1.2, k3]
  refine ⟨tt, by rw [put_ne (by omega)]; exact kl, (gC.put (by omega)).put (by rw [put_nx]; omega), by simp only [put_nx]; omega, fun x hx hx5 => ?_, h', ?_, ?_⟩
  ·rw [put_ne (by omega), put_ne hx5, gg2 x hx, X_old (by omega), put_ne (by omega), hE2.get x (by omega)]
   exact j2 x hx hx5
  ·first | (rw [put_at]; done) | (rw [put_ne (by omega), put_at])
  ·rw [htk]
   refine gN.to (by simp only [put_nx]; exact lr _) fun r h1 h2 ⟨ys, hy⟩ => ?_
   rw [put_ne (by rintro rfl; rw [kl] at hy; cases hy), put_ne (by omega)]
 ·rintro W2 ⟨j0, j1, j2, h5, j3, j4⟩ hlp
  rw [tkl] at j4
  have k5 : (W2.put W0.nx (.loop .exhausted none)).get (rf W1.nx 0) = some (.row [h5]) := by rw [put_ne (by omega)]; exact j3
  have j5 := j4.to (W' := W2.put W0.nx (.loop .exhausted none)) (by rw [put_nx]; exact lr _) fun r h1 h2 ⟨ys, hy⟩ => put_ne (by rintro rfl; rw [hlp] at hy; cases hy)
  simp (maxSteps:=9^9) (disch:=omega) only [BZ, ↓reduceIte, nE, BM, k5, j5.frz, eds_now]
  refine ⟨_, rfl, _, W, .weak (weak_back hok (by simp only [V.bel, V.belL, bel_eds, Bool.and_true]) fun x hx => ?_), lr _, rfl, rfl⟩
  have hx' : x < W.nx := hx
  rw [put_ne (by omega), j2 x (by omega) (by omega)]
  exact hE0.get x hx'
def c_gNodes_0 : AC := (.seq (.r [.m 5 4,.m 6 0,.u 7 .nilck 6,.u 8 (.fld 0) 7,.u 9 (.load false 1) 8,.u 10 (.len 1 0) 9,.b 11 (.bin .lss) 5 10] (.w 11 0)) (.seq (.block 1 (.r [.m 14 0,.u 15 .nilck 14,.u 16 (.fld 0) 15,.u 17 (.load false 1) 16,.m 18 4,.b 19 (.idxp 5) 17 18,.u 20 (.load true 5) 19,.u 21 (.call 59) 20] (.cond (.t 21) (.reg [.m 22 3,.m 23 0,.u 24 .nilck 23,.u 25 (.fld 0) 24,.u 26 (.load false 1) 25,.m 27 4,.b 28 (.idxp 5) 26 27,.u 29 (.fld 0) 28,.u 30 (.load false 1) 29,.u 31 (.bslice 1 1 (.int .u16 0) [0]) 30,.b 32 (.append 1 2) 22 31,.m 3 32]) .skip))) (.reg [.m 12 4,.a 13 (.bin .add) 12 1,.m 4 13])))
def c_gNodes : AC := (.r [.v 2 (.nilsl)] (.r [.v 3 (.nilsl)] (.seq (.r [.v 4 (.int .i64 0)] (.block 0 (.loop c_gNodes_0))) (.r [.m 33 3,.m 2 33] .ret))))
theorem ok_gNodese : compF Tryz.prog Tryz.f23 ⟨false, false, []⟩ = some (c_gNodes, [.tmp 2], 34) := by kernel_rfl
def c_gEdges_2 : AC := (.seq (.r [.m 27 8,.a 28 (.bin .lss) 27 3] (.w 28 4)) (.seq (.block 5 (.seq (.par (.step 0 (.m 31 0) (.step 1 (.m 32 1) (.step 2 (.m 33 0) (.step 3 (.u 34 .nilck 33) (.step 4 (.u 35 (.fld 0) 34) (.step 6 (.m 37 6) (.step 9 (.m 40 0) (.step 10 (.u 41 .nilck 40) (.step 11 (.u 42 (.fld 0) 41) (.step 13 (.m 44 7) (.step 16 (.m 47 8) (.step 17 (.u 48 (.conv .u8) 47) (.step 5 (.u 36 (.load false 1) 35) (.step 7 (.b 38 (.idxp 5) 36 37) (.step 8 (.u 39 (.load true 5) 38) (.step 12 (.u 43 (.load false 1) 42) (.step 14 (.b 45 (.idxp 5) 43 44) (.step 15 (.u 46 (.load true 5) 45) (.step 18 (.p 49 (.call 58) [.t 31,.t 32,.t 39,.t 46,.t 48]) .done)))))))))))))))))))) (.cond (.t 49) (.par (.step 0 (.m 50 5) (.step 1 (.m 51 0) (.step 2 (.u 52 .nilck 51) (.step 3 (.u 53 (.fld 0) 52) (.step 5 (.m 55 6) (.step 9 (.m 59 0) (.step 10 (.u 60 .nilck 59) (.step 11 (.u 61 (.fld 0) 60) (.step 13 (.m 63 7) (.step 17 (.m 67 8) (.step 18 (.u 68 (.conv .u8) 67) (.step 4 (.u 54 (.load false 1) 53) (.step 6 (.b 56 (.idxp 5) 54 55) (.step 7 (.u 57 (.fld 0) 56) (.step 8 (.u 58 (.load false 1) 57) (.step 12 (.u 62 (.load false 1) 61) (.step 14 (.b 64 (.idxp 5) 62 63) (.step 15 (.u 65 (.fld 0) 64) (.step 16 (.u 66 (.load false 1) 65) (.step 19 (.p 69 (.build [.int .u16 0,.int .u16 0,.int .u8 0] [(0, 1), (1, 1), (2, 1)]) [.t 58,.t 66,.t 68]) (.step 20 (.u 70 (.bslice 3 1 (.agg [.int .u16 0,.int .u16 0,.int .u8 0]) [0]) 69) (.step 21 (.b 71 (.append 3 6) 50 70) (.step 22 (.m 5 71) .done)))))))))))))))))))))))) .skip))) (.reg [.m 29 8,.a 30 (.bin .add) 29 1,.m 8 30])))
def c_gEdges_1 : AC := (.seq (.r [.m 18 7,.m 19 0,.u 20 .nilck 19,.u 21 (.fld 0) 20,.u 22 (.load false 1) 21,.u 23 (.len 1 0) 22,.b 24 (.bin .lss) 18 23] (.w 24 2)) (.seq (.block 3 (.r [.v 8 (.int .i64 0)] (.block 4 (.loop c_gEdges_2)))) (.reg [.m 25 7,.a 26 (.bin .add) 25 1,.m 7 26])))
def c_gEdges_0 : AC := (.seq (.r [.m 9 6,.m 10 0,.u 11 .nilck 10,.u 12 (.fld 0) 11,.u 13 (.load false 1) 12,.u 14 (.len 1 0) 13,.b 15 (.bin .lss) 9 14] (.w 15 0)) (.seq (.block 1 (.r [.v 7 (.int .i64 0)] (.block 2 (.loop c_gEdges_1)))) (.reg [.m 16 6,.a 17 (.bin .add) 16 1,.m 6 17])))
def c_gEdges : AC := (.r [.v 4 (.nilsl)] (.r [.v 5 (.nilsl)] (.seq (.r [.v 6 (.int .i64 0)] (.block 0 (.loop c_gEdges_0))) (.r [.m 72 5,.m 4 72] .ret))))
theorem ok_gEdgese : compF Tryz.prog Tryz.f22 ⟨false, false, []⟩ = some (c_gEdges, [.tmp 4], 73) := by kernel_rfl
theorem Rs.keep {W W1 : AW} {sp lo : Nat} {h : V} {l : List Rt} (hR : Rs W sp h l lo) (hx : W.nx ≤ W1.nx) (hg : ∀ x, x < W.nx → W1.get x = W.get x) : Rs W1 sp h l lo := ⟨(hg _ hR.lp).trans hR.hp, by have := hR.lp; omega, by
   rcases hR.el with h | ⟨r, h1, h2, h3, h4, h5⟩
   ·exact .inl h
   ·exact .inr ⟨r, h1, by omega, h3, h4, by rw [hg _ h2]; exact h5⟩, hR.ok, hR.so⟩
theorem Ro.keep {W W1 : AW} {q lo N : Nat} {L : List (List (List Int))} {cs : List V} {es : List (List V)} (hO : Ro W q L lo cs es N) (hx : W.nx ≤ W1.nx) (hg : ∀ x, x < W.nx → W1.get x = W.get x) : Ro W1 q L lo cs es N := ⟨(hg q hO.lp).trans hO.hp, by have := hO.lp; omega, hO.c8, hO.l8, hO.e8, fun k a b c => (hO.ls k a b c).to hx (fun r _ h2 _ => hg r h2), hO.rg⟩
theorem nodes_take {l : List Rt} {i : Nat} (h : i < l.length) : nodesR (txs (l.take (i + 1))) = nodesR (txs (l.take i)) ++ (if l[i].tx.st = 2 then [] else [l[i].tx.id]) := by
 unfold nodesR txs
 rw [tao, gEg h, Option.toList_some, mpp, List.filter_append, mpp]
 by_cases h2 : l[i].tx.st = 2 <;> simp [h2]
theorem gNodes_c (hP : PE E) (W : AW) {sp lo : Nat} {h : V} {l : List Rt} (hR : Rs W sp h l lo) : ACalls E 23 [.ptr sp 0] W fun Y W' => Y = nowGS 1 (intsV (nodesR (txs l))) ∧ W' = W := by
 refine ACalls.of hP Tryz.func23 ok_gNodese (by simp) fun _ hok => ?_
 refine awp_start hok ?_
 have hs := hR.small
 simp (maxSteps:=9^9) (disch:=omega) only [BS, e_seq, c_gNodes]
 rw [e_loop]
 refine alp (fun (i : Nat) A1 W1 => A1 0 = some (.ptr sp 0) ∧ A1 4 = some (.int .i64 i) ∧ i ≤ l.length ∧ Cl W1 ∧ W.nx ≤ W1.nx ∧ (∀ x, x < W.nx → W1.get x = W.get x) ∧
  ∃ g, A1 3 = some g ∧ nowG W1 g (intsV (nodesR (txs (l.take i)))) 1 W.nx) (fun i => l.length - i) 0
  ⟨rfl, rfl, Nat.zero_le _, Cl.X, by simp [X], fun x hx => X_old hx, .nilsl, rfl, .inl ⟨rfl, rfl⟩⟩ ?_
 rintro i A1 W1 ⟨g0, g4, gi, gC, gn, gW, g, g3, gh⟩ _
 have hR1 := hR.keep gn gW
 by_cases hi : i < l.length
 ·obtain ⟨r, r1, r2, rfl, r4⟩ := hR1.at hi
  have hto := hR.ok l[i] (gmm hi)
  have htk := nodes_take hi
  have hld : ∀ K, sem E (.load true 5) [.vptr r (i * 5)] W1 K = K l[i].V W1 := fun K => ld5 r4 hi
  have hlc : ∀ K, sem E (.load false 1) [.vptr r (i * 5)] W1 K = K (.int .u16 l[i].tx.id) W1 := fun K => ldc0 r4 hi
  have hnl : (nodesR (txs (l.take i))).length ≤ i := Nat.le_trans (nodes_len _) (by simp only [txs, lmp, ltk]; omega)
  simp (maxSteps:=9^9) (disch:=omega) only [BX, ↓reduceIte, nE, reduceCtorEq, BM, BD, c_gNodes_0, g0, g4, hR1.hp, hR1.len, clt, hi, dT, ix5 hi, hld]
  refine pc (gAlive_c hP _ hto) ?_
  by_cases h2 : l[i].tx.st = 2
  ·rw [if_pos h2, apn] at htk
   simp (maxSteps:=9^9) (disch:=omega) only [BS, BC, cond_if, ↓reduceIte, nE, reduceCtorEq, g0, g3, g4, show decide (l[i].tx.st ≠ 2) = false by simp [h2], wadd1]
   exact ⟨i + 1, ⟨tt, tt, hi, gC, gn, gW, g, rfl, by rw [htk]; exact gh⟩, by omega, by show W.nx + 0 ≤ _; omega⟩
  ·rw [if_neg h2] at htk
   simp (maxSteps:=9^9) (disch:=omega) only [BS, BC, cond_if, ↓reduceIte, nE, reduceCtorEq, BM, BD, g0, g3, g4, show decide (l[i].tx.st ≠ 2) = true by simp [h2], hR1.hp, ix5 hi, hlc, bsU]
   refine app_now (lo := W.nx) gh gC gn (by omega) rfl (by rw [ints_len]; omega) ?_
   intro h' W' gh' gC' gx gk1 gk2
   simp (maxSteps:=9^9) (disch:=omega) only [BS, ↓reduceIte, nE, reduceCtorEq, g0, g4, wadd1]
   refine ⟨i + 1, ⟨tt, tt, hi, gC', by omega, fun x hx => (gk2 x hx).trans (gW x hx), h', rfl, ?_⟩, by omega, by show W.nx + 0 ≤ _; omega⟩
   rw [htk, intsV, mpp]
   exact gh'
 ·obtain rfl : i = l.length := by omega
  rw [tkl] at gh
  simp (maxSteps:=9^9) (disch:=omega) only [BX, ↓reduceIte, nE, reduceCtorEq, BM, BD, c_gNodes_0, g0, g3, g4, hR1.hp, hR1.len, clt, hi, dF, gh.frz]
  exact ⟨_, rfl, _, W, .weak (weak_back hok (ints_bel _ _) gW), lr _, rfl, rfl⟩
def kdsX (s : Str) (L : List (List (List Int))) (a b : Tx) (n : Nat) : List Ed := ((List.range n).filter fun (kd : Nat) => isX s L a b kd).map fun (kd : Nat) => ⟨a.id, b.id, kd⟩
def edgesX (s : Str) (L : List (List (List Int))) : List Ed := s.flatMap fun a => s.flatMap fun b => kdsX s L a b 3
theorem kds_succ (s : Str) (L : List (List (List Int))) (a b : Tx) (n : Nat) : kdsX s L a b (n + 1) = kdsX s L a b n ++ (if isX s L a b n = true then [⟨a.id, b.id, n⟩] else []) := by
 unfold kdsX
 rw [List.range_succ, List.filter_append, mpp]
 by_cases h : isX s L a b n = true <;> simp [h]
theorem kds_len (s : Str) (L : List (List (List Int))) (a b : Tx) (n : Nat) : (kdsX s L a b n).length ≤ n := by
 unfold kdsX
 rw [lmp]
 exact Nat.le_trans (List.length_filter_le _ _) (by simp)
structure KE (W W1 : AW) (g : V) (es : List Ed) : Prop where
 cl : Cl W1
 nx : W.nx ≤ W1.nx
 gt : ∀ x, x < W.nx → W1.get x = W.get x
 now : nowG W1 g (es.map Ed.V) 3 W.nx
theorem bsE3 {W : AW} {K : V → AW → Prop} {a b c : Int} : sem E (.bslice 3 1 (.agg [.int .u16 0, .int .u16 0, .int .u8 0]) [0]) [.agg [.int .u16 a, .int .u16 b, .int .u8 c]] W K = K (.sl 3 true [(Ed.mk a b c).V]) W := bsE
theorem gE2_go (hP : PE E) {W W1 : AW} {sp lo q lo' N : Nat} {h : V} {l : List Rt} (hR : Rs W sp h l lo) {L : List (List (List Int))} {cs : List V} {es : List (List V)} (hO : Ro W q L lo' cs es N) (hN : N < 2 ^ 30) {i j : Nat} (hi : i < l.length) (hj : j < l.length) {e0 : List Ed} (hl : e0.length < 2 ^ 40) {A : AFr} {Q : Exit → AFr → AW → Prop} {g : V}
  (a0 : A 0 = some (.ptr sp 0)) (a1 : A 1 = some (.ptr q 0)) (a5 : A 5 = some g) (a6 : A 6 = some (.int .i64 i)) (a7 : A 7 = some (.int .i64 j)) (a8 : A 8 = some (.int .i64 0)) (hg : KE W W1 g e0)
  (hq : ∀ A' W' g', A' 0 = some (.ptr sp 0) → A' 1 = some (.ptr q 0) → A' 5 = some g' → A' 6 = some (.int .i64 i) → A' 7 = some (.int .i64 j) → KE W W' g' (e0 ++ kdsX (txs l) L l[i].tx l[j].tx 3) → W1.nx ≤ W'.nx → Q (.exit 4) A' W') : awp E (.loop c_gEdges_2) Q A W1 := by
 rw [e_loop]
 refine alp (fun (n : Nat) A2 W2 => A2 0 = some (.ptr sp 0) ∧ A2 1 = some (.ptr q 0) ∧ A2 6 = some (.int .i64 i) ∧ A2 7 = some (.int .i64 j) ∧ A2 8 = some (.int .i64 n) ∧ n ≤ 3 ∧ W1.nx ≤ W2.nx ∧ ∃ g', A2 5 = some g' ∧ KE W W2 g' (e0 ++ kdsX (txs l) L l[i].tx l[j].tx n)) (fun n => 3 - n) 0
  ⟨a0, a1, a6, a7, a8, by omega, lr _, g, a5, by rw [show kdsX (txs l) L l[i].tx l[j].tx 0 = [] from rfl, apn]; exact hg⟩ ?_
 rintro n A2 W2 ⟨g0, g1, g6, g7, g8, gn, gx, g', g5, gK⟩ _
 have hR1 := hR.keep gK.nx gK.gt
 have hO1 := hO.keep gK.nx gK.gt
 by_cases hn : n < 3
 ·have hn3 : decide ((n : Int) < 3) = true := decide_eq_true (by omega)
  have hu : IntKind.u8.wrap (n : Int) = n := IntWalk.u8_in _ (by omega)
  obtain ⟨r, r1, r2, rfl, r4⟩ := hR1.at hi
  have hai := hR.ok l[i] (gmm hi)
  have haj := hR.ok l[j] (gmm hj)
  have hsu := kds_succ (txs l) L l[i].tx l[j].tx n
  have hkl := kds_len (txs l) L l[i].tx l[j].tx n
  have hli : ∀ K, sem E (.load true 5) [.vptr r (i * 5)] W2 K = K l[i].V W2 := fun K => ld5 r4 hi
  have hlj : ∀ K, sem E (.load true 5) [.vptr r (j * 5)] W2 K = K l[j].V W2 := fun K => ld5 r4 hj
  have hci : ∀ K, sem E (.load false 1) [.vptr r (i * 5)] W2 K = K (.int .u16 l[i].tx.id) W2 := fun K => ldc0 r4 hi
  have hcj : ∀ K, sem E (.load false 1) [.vptr r (j * 5)] W2 K = K (.int .u16 l[j].tx.id) W2 := fun K => ldc0 r4 hj
  simp (maxSteps:=9^9) (disch:=omega) only [BX, ↓reduceIte, nE, reduceCtorEq, BM, BD, c_gEdges_2, g0, g1, g6, g7, g8, hn3, hR1.hp, ix5 hi, ix5 hj, hli, hlj, hu]
  refine pc (gIs_c hP _ hR1 hO1 hN hai haj n) ?_
  cases x1 : isX (txs l) L l[i].tx l[j].tx n with
  | false =>
   rw [x1, if_neg (by decide), apn] at hsu
   simp (maxSteps:=9^9) (disch:=omega) only [BS, BC, cond_if, ↓reduceIte, nE, reduceCtorEq, g0, g1, g5, g6, g7, g8, wadd1]
   exact ⟨n + 1, ⟨tt, tt, tt, tt, tt, hn, gx, g', rfl, by rw [hsu]; exact gK⟩, by omega, gx⟩
  | true =>
   rw [x1, if_pos rfl] at hsu
   simp (maxSteps:=9^9) (disch:=omega) only [BS, BC, cond_if, ↓reduceIte, nE, reduceCtorEq, BM, BD, nA, nL, g0, g5, g6, g7, g8, hR1.hp, ix5 hi, ix5 hj, hci, hcj, hu, bsE3]
   refine app_now (lo := W.nx) gK.now gK.cl gK.nx (by omega) rfl (by rw [lmp, lap]; omega) ?_
   intro h' W' gh' gC' gx' gk1 gk2
   simp (maxSteps:=9^9) (disch:=omega) only [BS, ↓reduceIte, nE, reduceCtorEq, g0, g1, g6, g7, g8, wadd1]
   refine ⟨n + 1, ⟨tt, tt, tt, tt, tt, hn, by omega, h', rfl, gC', by have := gK.nx; omega, fun x hx => (gk2 x hx).trans (gK.gt x hx), ?_⟩, by omega, by omega⟩
   rw [hsu, ← List.append_assoc, mpp]
   exact gh'
 ·obtain rfl : n = 3 := by omega
  simp (maxSteps:=9^9) (disch:=omega) only [BX, ↓reduceIte, c_gEdges_2, g8, show decide (((3 : Nat) : Int) < 3) = false by decide]
  exact hq _ _ g' g0 g1 g5 g6 g7 gK gx
theorem take_snocF {α β : Type} {l : List α} {i : Nat} (h : i < l.length) (f : α → List β) : (l.take (i + 1)).flatMap f = (l.take i).flatMap f ++ f l[i] := by
 rw [tao, gEg h, Option.toList_some, List.flatMap_append, List.flatMap_cons, List.flatMap_nil, apn]
def rowX (s : Str) (L : List (List (List Int))) (a : Tx) (s2 : Str) : List Ed := s2.flatMap fun b => kdsX s L a b 3
theorem row_len (s : Str) (L : List (List (List Int))) (a : Tx) (s2 : Str) : (rowX s L a s2).length ≤ s2.length * 3 := flat_len fun b _ => kds_len s L a b 3
theorem gE1_go (hP : PE E) {W W1 : AW} {sp lo q lo' N : Nat} {h : V} {l : List Rt} (hR : Rs W sp h l lo) {L : List (List (List Int))} {cs : List V} {es : List (List V)} (hO : Ro W q L lo' cs es N) (hN : N < 2 ^ 30) {i : Nat} (hi : i < l.length) {e0 : List Ed} (hl : e0.length < 2 ^ 39) {A : AFr} {Q : Exit → AFr → AW → Prop} {g : V}
  (a0 : A 0 = some (.ptr sp 0)) (a1 : A 1 = some (.ptr q 0)) (a5 : A 5 = some g) (a6 : A 6 = some (.int .i64 i)) (a7 : A 7 = some (.int .i64 0)) (hg : KE W W1 g e0)
  (hq : ∀ A' W' g', A' 0 = some (.ptr sp 0) → A' 1 = some (.ptr q 0) → A' 5 = some g' → A' 6 = some (.int .i64 i) → KE W W' g' (e0 ++ rowX (txs l) L l[i].tx (txs l)) → W1.nx ≤ W'.nx → Q (.exit 2) A' W') : awp E (.loop c_gEdges_1) Q A W1 := by
 have hs := hR.small
 have htl : (txs l).length = l.length := by simp only [txs, lmp]
 rw [e_loop]
 refine alp (fun (j : Nat) A2 W2 => A2 0 = some (.ptr sp 0) ∧ A2 1 = some (.ptr q 0) ∧ A2 6 = some (.int .i64 i) ∧ A2 7 = some (.int .i64 j) ∧ j ≤ l.length ∧ W1.nx ≤ W2.nx ∧ ∃ g', A2 5 = some g' ∧ KE W W2 g' (e0 ++ rowX (txs l) L l[i].tx ((txs l).take j))) (fun j => l.length - j) 0
  ⟨a0, a1, a6, a7, by omega, lr _, g, a5, by rw [show rowX (txs l) L l[i].tx ((txs l).take 0) = [] from rfl, apn]; exact hg⟩ ?_
 rintro j A2 W2 ⟨g0, g1, g6, g7, gj, gx, g', g5, gK⟩ _
 have hR1 := hR.keep gK.nx gK.gt
 by_cases hj : j < l.length
 ·have hln := row_len (txs l) L l[i].tx ((txs l).take j)
  rw [ltk] at hln
  have hsn : rowX (txs l) L l[i].tx ((txs l).take (j + 1)) = rowX (txs l) L l[i].tx ((txs l).take j) ++ kdsX (txs l) L l[i].tx l[j].tx 3 := by
   rw [rowX, take_snocF (by omega)]; simp only [rowX, txs, List.getElem_map]
  simp (maxSteps:=9^9) (disch:=omega) only [BX, ↓reduceIte, nE, reduceCtorEq, BM, BD, c_gEdges_1, g0, g7, hR1.hp, hR1.len, clt, hj, dT]
  refine gE2_go hP hR hO hN hi hj (by rw [lap]; omega) tt tt tt tt tt tt gK ?_
  intro A' W' g2 u0 u1 u5 u6 u7 uK ux
  simp (maxSteps:=9^9) (disch:=omega) only [BS, ↓reduceIte, nE, reduceCtorEq, u7, wadd1]
  refine ⟨j + 1, ⟨tt, tt, tt, tt, hj, by omega, g2, u5, by rw [hsn, ← List.append_assoc]; exact uK⟩, by omega, by omega⟩
 ·obtain rfl : j = l.length := by omega
  rw [List.take_of_length_le (by omega)] at gK
  simp (maxSteps:=9^9) (disch:=omega) only [BX, ↓reduceIte, nE, reduceCtorEq, BM, BD, c_gEdges_1, g0, g7, hR1.hp, hR1.len, clt, hj, dF]
  exact hq _ _ g' g0 g1 g5 g6 gK gx
theorem gEdges_c (hP : PE E) (W : AW) {sp lo q lo' N : Nat} {h : V} {l : List Rt} (hR : Rs W sp h l lo) {L : List (List (List Int))} {cs : List V} {es : List (List V)} (hO : Ro W q L lo' cs es N) (hN : N < 2 ^ 30) : ACalls E 22 [.ptr sp 0, .ptr q 0] W fun Y W' => Y = edsV (edgesX (txs l) L) ∧ W' = W := by
 refine ACalls.of hP Tryz.func22 ok_gEdgese (by simp) fun _ hok => ?_
 refine awp_start hok ?_
 have hs := hR.small
 have htl : (txs l).length = l.length := by simp only [txs, lmp]
 simp (maxSteps:=9^9) (disch:=omega) only [BS, e_seq, c_gEdges]
 rw [e_loop]
 refine alp (fun (i : Nat) A2 W2 => A2 0 = some (.ptr sp 0) ∧ A2 1 = some (.ptr q 0) ∧ A2 6 = some (.int .i64 i) ∧ i ≤ l.length ∧ ∃ g', A2 5 = some g' ∧ KE W W2 g' (((txs l).take i).flatMap fun a => rowX (txs l) L a (txs l))) (fun i => l.length - i) 0
  ⟨rfl, rfl, rfl, by omega, .nilsl, rfl, Cl.X, by simp [X], fun x hx => X_old hx, .inl ⟨rfl, rfl⟩⟩ ?_
 rintro i A2 W2 ⟨g0, g1, g6, gi, g', g5, gK⟩ _
 have hR1 := hR.keep gK.nx gK.gt
 by_cases hi : i < l.length
 ·have hln : (((txs l).take i).flatMap fun a => rowX (txs l) L a (txs l)).length ≤ ((txs l).take i).length * (l.length * 3) := flat_len fun a _ => by have := row_len (txs l) L a (txs l); omega
  have hln2 : ((txs l).take i).length * (l.length * 3) ≤ 65536 * (65536 * 3) := Nat.mul_le_mul (by rw [ltk]; omega) (by omega)
  have hsn := take_snocF (show i < (txs l).length by omega) fun a => rowX (txs l) L a (txs l)
  rw [show (txs l)[i] = l[i].tx by simp only [txs, List.getElem_map]] at hsn
  simp (maxSteps:=9^9) (disch:=omega) only [BX, ↓reduceIte, nE, reduceCtorEq, BM, BD, c_gEdges_0, g0, g6, hR1.hp, hR1.len, clt, hi, dT]
  refine gE1_go hP hR hO hN hi (by omega) tt tt tt tt tt gK ?_
  intro A' W' g2 u0 u1 u5 u6 uK ux
  simp (maxSteps:=9^9) (disch:=omega) only [BS, ↓reduceIte, nE, reduceCtorEq, u6, wadd1]
  refine ⟨i + 1, ⟨tt, tt, tt, hi, g2, u5, by rw [hsn]; exact uK⟩, by omega, by have := uK.nx; show W.nx + 0 ≤ _; omega⟩
 ·obtain rfl : i = l.length := by omega
  rw [List.take_of_length_le (by omega)] at gK
  simp (maxSteps:=9^9) (disch:=omega) only [BX, ↓reduceIte, nE, reduceCtorEq, BM, BD, c_gEdges_0, g0, g5, g6, hR1.hp, hR1.len, clt, hi, dF, gK.now.frz, eds_now]
  exact ⟨_, rfl, _, W, .weak (weak_back hok (bel_eds _ _) gK.gt), lr _, rfl, rfl⟩
def llV (out : List (List Int)) : V := .sl 1 false (out.map fun l => nowGS 1 (i64s l))
theorem mk24 {W : AW} {K : V → AW → Prop} {n : Nat} (h : n < 2 ^ 40) : sem E (.makesl 1 24 [.nilsl]) [.int .i64 (n : Int), .int .i64 (n : Int)] W K = K (.slr W.nx 0 n 1) (W.alloc (.vec 1 (List.replicate n .nilsl))) := by
 have hz : ∀ k, zerosV [V.nilsl] k = List.replicate k .nilsl := fun k => by
  induction k with
  | zero => rfl
  | succ k ih => simp only [zerosV, List.replicate_succ, List.flatten_cons] at ih ⊢; rw [ih]; rfl
 simp only [sem, Int.toNat_natCast, hz]
 exact propext ⟨fun h => h.2.2.2.2, fun h => ⟨by omega, tt, by omega, by omega, h⟩⟩
theorem chunks1' : ∀ (l : List V), chunks 1 l.length l = l
 | [] => rfl
 | x :: l => by
  have := chunks1' l
  simp only [lcs, chunks, if_true, List.headD_cons, List.drop_succ_cons, List.drop_zero, this]
theorem nextStep_le {N kinds : List Int} {out : List (List Int)} {x : Ed} {i : Nat} (h : ∀ l ∈ out, l.length ≤ i) : ∀ l ∈ nextStep N kinds out x, l.length ≤ i + 1 := by
 intro l hl
 unfold nextStep at hl
 split at hl
 ·rcases List.mem_or_eq_of_mem_set hl with hl | rfl
  ·have := h l hl; omega
  ·rw [lap]
   by_cases hk : lowB N x.fr < out.length
   ·rw [List.getD_eq_getElem?_getD, gEg hk]
    have := h _ (gmm hk)
    simp; omega
   ·rw [List.getD_eq_getElem?_getD, List.getElem?_eq_none (by omega)]; simp
 ·have := h l hl; omega
theorem ll_ones (out : List (List Int)) : (out.map fun l => nowGS 1 (i64s l)).all V.one = true := by
 rw [List.all_map, List.all_eq_true]
 intro l _
 exact (nowGS_S 1 (i64s l)).one
theorem ll_bel (out : List (List Int)) (n : Nat) : V.belL n (out.map fun l => nowGS 1 (i64s l)) = true := by
 have hb : ∀ l : List Int, V.belL n (i64s l) = true := by
  intro l
  induction l with
  | nil => rfl
  | cons x l ih => simp only [i64s, mcs, V.belL, Bool.and_eq_true] at ih ⊢; exact ⟨rfl, ih⟩
 induction out with
 | nil => rfl
 | cons x l ih =>
  simp only [mcs, V.belL, Bool.and_eq_true]
  exact ⟨(nowGS_S 1 (i64s x)).lens (hb x), ih⟩
theorem nextG_c (hP : PE E) (W : AW) {g m lo : Nat} {h kv : V} {P : List Ek} {N kinds : List Int} (hG : Gr W g m h P N lo) (hNs : N.Pairwise fun a b => a < b) (hPN : ∀ x ∈ P, x.1 ∈ N ∧ x.2.1 ∈ N) (hkv : isS 1 kv (u8s kinds)) (hkl : kinds.length < 2 ^ 40) (hne : N ≠ []) :
  ACalls E 31 [.ptr g 0, kv] W fun Y W' => Y = llV (nextR P N kinds) ∧ W' = W := by
 refine ACalls.of hP Tryz.func31 ok_nexte (by simp) fun _ hok => ?_
 refine awp_start hok ?_
 have hlg := hG.lg
 have hN := hG.nl
 simp (maxSteps:=9^9) (disch:=omega) only [BX, ↓reduceIte, nE, BM, BD, nA, nL, nT, c_next, hkv.cells, hG.hg, hG.now.len, ints_len, mk24]
 refine (edges_c hP _ g).mono ?_
 rintro _ W0 ⟨qe, rfl, hqe, hqn, hE⟩
 have hE0 : Ex W W0 := Ex.x0.trans hE
 have hn0 := hE.nx
 simp only [X_nx, rf, lcs, List.length_nil] at hn0
 have w2 : W0.get (rf W.nx 0) = some (.row [.ptr g 0]) := by rw [hE.get _ (by simp [X_nx, rf]), X_get]; rfl
 have w3 : W0.get (rf W.nx 1) = some (.row [kv]) := by rw [hE.get _ (by simp [X_nx, rf]), X_get]; rfl
 have w4 : W0.get (rf W.nx 2) = some (.vec 1 (List.replicate N.length .nilsl)) := by rw [hE.get _ (by simp [X_nx, rf]), X_get]; rfl
 have w5 : W0.get (rf W.nx 3) = some (.row [.slr (rf W.nx 2) 0 N.length 1]) := by rw [hE.get _ (by simp [X_nx, rf]), X_get]; rfl
 have r0 : rf W.nx 0 = W.nx := rfl
 have r1 : rf W.nx 1 = W.nx + 1 := rfl
 have r2 : rf W.nx 2 = W.nx + 2 := rfl
 have r3 : rf W.nx 3 = W.nx + 3 := rfl
 have hG0 := hG.ex hE0
 have hl := edL_lt hG
 simp (maxSteps:=9^9) (disch:=omega) only [BS]
 refine range_edges hP (q := qe) (P := P) (N := N) (by simp only [ev_t]; exact if_pos rfl) hqe hqn hE0.cl hG0 (fun i W1 => Cl W1 ∧ W0.nx < W1.nx ∧ (∀ x, x < W0.nx → x ≠ rf W.nx 2 → W1.get x = W0.get x) ∧ ∃ cs, Gc W1 cs (((edL P).take i).foldl (nextStep N kinds) (List.replicate N.length [])) W0.nx ∧ W1.get (rf W.nx 2) = some (.vec 1 cs) ∧ (((edL P).take i).foldl (nextStep N kinds) (List.replicate N.length [])).length = N.length ∧ ∀ l ∈ ((edL P).take i).foldl (nextStep N kinds) (List.replicate N.length []), l.length ≤ i) ?_ ?_ ?_ ?_
 ·intro W1 hE1 hn1
  refine ⟨hE1.cl, hn1, fun x hx _ => hE1.get x hx, List.replicate N.length .nilsl, Gc.start _ _ _, by rw [hE1.get _ (by omega)]; exact w4, by simp, by simp⟩
 ·exact fun i W1 h => ⟨h.1, h.2.1⟩
 ·rintro i hi W1 W1' ⟨j0, j1, j2, cs, j3, j4, j5, j6⟩ hE1 hlp
  have hst : ((edL P).take (i + 1)).foldl (nextStep N kinds) (List.replicate N.length []) = nextStep N kinds (((edL P).take i).foldl (nextStep N kinds) (List.replicate N.length [])) (edL P)[i] := by
   rw [tao, gEg hi, List.foldl_append]; rfl
  have hxN := hPN _ (edL_mem.1 (gmm hi))
  generalize (edL P)[i] = x at hst hxN
  rw [hst]
  generalize ((edL P).take i).foldl (nextStep N kinds) (List.replicate N.length []) = out at j3 j5 j6
  have hn1 := hE1.nx
  refine awp_startC hE1.cl ?_
  simp (maxSteps:=9^9) (disch:=omega) only [BS, BC, ↓reduceIte, nE, BM, BD, nA, nL, nT, Ed.V, hlp]
  refine ⟨tt, ?_⟩
  have hxg : ∀ y, y < W0.nx → y ≠ rf W.nx 2 → (X (W1'.put W0.nx (.loop .busy none)) W1'.nx [.row [.int .u16 x.fr, .int .u16 x.to, .int .u8 x.kd]]).get y = W0.get y := fun y hy hyr => by
   rw [X_old (by omega), put_ne (by omega), hE1.get y (by omega)]; exact j2 y hy hyr
  have hG1 := hG.ex (W1 := X (W1'.put W0.nx (.loop .busy none)) W1'.nx [.row [.int .u16 x.fr, .int .u16 x.to, .int .u8 x.kd]]) ⟨Cl.X, by simp only [X_nx, rf]; omega, fun y hy => by rw [hxg y (by omega) (by omega)]; exact hE0.get y hy⟩
  have hrv : (X (W1'.put W0.nx (.loop .busy none)) W1'.nx [.row [.int .u16 x.fr, .int .u16 x.to, .int .u8 x.kd]]).get (rf W.nx 2) = some (.vec 1 cs) := by
   rw [X_old (by omega), put_ne (by omega), hE1.get _ (by omega)]; exact j4
  have hcs := (j3.to hE1.nx fun r _ hr _ => hE1.get r hr).to (W' := X (W1'.put W0.nx (.loop .busy none)) W1'.nx [.row [.int .u16 x.fr, .int .u16 x.to, .int .u8 x.kd]]) (by simp only [X_nx, rf]; omega) fun r _ h2 ⟨ys, hy⟩ => by rw [X_old h2, put_ne (by rintro rfl; rw [hlp] at hy; cases hy)]
  refine next1_go hP (lo := W0.nx) (b2 := rf W.nx 0) (b3 := rf W.nx 1) (b5 := rf W.nx 3) (b6 := rf W1'.nx 0) (rv := rf W.nx 2) Cl.X hG1 hNs hkv hkl hxN.1 hxN.2 hcs hrv j5 (fun l hl' => by have := j6 l hl'; omega) (by simp only [X_nx, rf]; omega) rfl rfl rfl rfl (by rw [hxg _ (by omega) (by omega)]; exact w2) (by rw [hxg _ (by omega) (by omega)]; exact w3) (by rw [hxg _ (by omega) (by omega)]; exact w5) (by rw [X_get]; rfl) (by simp only [X_nx]; simp only [rf]; omega) (by simp only [X_nx]; simp only [rf]; omega) ?_
  intro A'' W'' cs' fC fn fG frv ff1 ff2
  simp only [X_nx, rf, lcs, List.length_nil] at fn
  have hloop : W''.get W0.nx = some (.loop .busy none) := by
   rw [ff1 W0.nx (by simp only [X_nx, rf]; omega) (by omega) (fun ys => by rw [X_old (by omega), put_at]; simp), X_old (by omega), put_at]
  refine ⟨rfl, hloop, fC.put (by omega), by rw [put_nx]; omega, fun y hy hyr => ?_, cs', ?_, ?_, by rw [nextStep_len]; exact j5, nextStep_le j6⟩
  ·rw [put_ne (by omega), ff2 y hy hyr]; exact hxg y hy hyr
  ·exact fG.to (by rw [put_nx]; exact lr _) fun r _ _ ⟨ys, hy⟩ => put_ne (by rintro rfl; rw [hloop] at hy; cases hy)
  ·rw [put_ne (by omega)]; exact frv
 ·rintro W1 ⟨j0, j1, j2, cs, j3, j4, j5, j6⟩ hlp
  rw [tkl] at j3 j5
  have k5 : (W1.put W0.nx (.loop .exhausted none)).get (rf W.nx 3) = some (.row [.slr (rf W.nx 2) 0 N.length 1]) := by rw [put_ne (by omega), j2 _ (by omega) (by omega)]; exact w5
  simp (maxSteps:=9^9) (disch:=omega) only [BZ, ↓reduceIte, nE, BM, k5]
  have hcs := j3.to (W' := W1.put W0.nx (.loop .exhausted none)) (by rw [put_nx]; exact lr _) fun r _ _ ⟨ys, hy⟩ => put_ne (by rintro rfl; rw [hlp] at hy; cases hy)
  have hfz := hcs.frz
  have hcl := hcs.len
  have hlen : 0 < N.length := List.length_pos_iff.2 hne
  have hnr : nextR P N kinds = (edL P).foldl (nextStep N kinds) (List.replicate N.length []) := rfl
  rw [← hnr] at hfz hcl j5
  have hch : chunks 1 N.length (cs.map (W1.put W0.nx (.loop .exhausted none)).frz) = (nextR P N kinds).map fun l => nowGS 1 (i64s l) := by
   rw [hfz]
   have := chunks1' ((nextR P N kinds).map fun l => nowGS 1 (i64s l))
   rw [lmp, j5] at this
   exact this
  refine ⟨_, rfl, .sl 1 false (chunks 1 N.length (cs.map (W1.put W0.nx (.loop .exhausted none)).frz)), W, ?_, lr _, by rw [hch]; rfl, rfl⟩
  refine .frzd (by rw [put_ne (by omega)]; exact j4) (by omega) hlen (by decide) (by rw [hfz]; exact ll_ones _) ?_
  rw [hch]
  refine weak_back hok (ll_bel _ _) fun y hy => ?_
  have hy' : y < W.nx := hy
  have hyr : y ≠ rf W.nx 2 := by omega
  simp only [AW.drop, hyr, ↓reduceIte]
  rw [put_ne (by omega), j2 y (by omega) hyr]
  exact hE0.get y hy'
def c_gNext_2 : AC := (.seq (.r [.m 34 13,.m 35 8,.u 36 (.len 1 0) 35,.b 37 (.bin .lss) 34 36] (.w 37 4)) (.seq (.block 5 (.par (.step 0 (.m 40 12) (.step 1 (.m 41 40) (.step 2 (.M 42 8 41 false) (.step 3 (.M 43 13 41 false) (.step 7 (.M 47 7 41 false) (.step 8 (.M 48 10 41 false) (.step 4 (.B 44 (.idxp 3) 42 43 41 false) (.step 5 (.U 45 (.fld 0) 44 41 false) (.step 6 (.U 46 (.load false 1) 45 41 false) (.step 9 (.B 49 (.idxp 1) 47 48 41 false) (.step 10 (.U 50 (.load false 1) 49 41 false) (.step 11 (.B 51 (.bin .eql) 46 50 41 false) (.step 12 (.M 52 51 41 false) (.step 13 (.M 53 8 52 true) (.step 14 (.M 54 13 52 true) (.step 18 (.M 58 7 52 true) (.step 19 (.M 59 11 52 true) (.step 15 (.B 55 (.idxp 3) 53 54 52 true) (.step 16 (.U 56 (.fld 1) 55 52 true) (.step 17 (.U 57 (.load false 1) 56 52 true) (.step 20 (.B 60 (.idxp 1) 58 59 52 true) (.step 21 (.U 61 (.load false 1) 60 52 true) (.step 22 (.B 62 (.bin .eql) 57 61 52 true) (.step 23 (.P 63 .pick [.t 52,.t 62,.F] 41 false) (.step 24 (.M 64 63 41 false) (.step 25 (.M 65 8 64 true) (.step 26 (.M 66 13 64 true) (.step 27 (.B 67 (.idxp 3) 65 66 64 true) (.step 28 (.U 68 (.fld 2) 67 64 true) (.step 29 (.U 69 (.load false 1) 68 64 true) (.step 30 (.B 70 (.idxa 3 1) 5 69 64 true) (.step 31 (.U 71 (.load false 1) 70 64 true) (.step 32 (.P 72 .pick [.t 64,.t 71,.F] 41 false) (.step 33 (.p 73 .pick [.t 41,.T,.t 72]) (.step 34 (.m 12 73) .done))))))))))))))))))))))))))))))))))))) (.reg [.m 38 13,.a 39 (.bin .add) 38 1,.m 13 39])))
def c_gNext_1 : AC := (.seq (.r [.m 28 11,.m 29 7,.u 30 (.len 1 0) 29,.b 31 (.bin .lss) 28 30] (.w 31 2)) (.seq (.block 3 (.r [.v 12 (.bool false)] (.seq (.r [.v 13 (.int .i64 0)] (.block 4 (.loop c_gNext_2))) (.r [.m 74 12] (.cond (.t 74) (.reg [.m 75 9,.m 76 10,.m 77 9,.m 78 10,.b 79 (.idxp 1) 77 78,.u 80 (.load false 1) 79,.m 81 11,.u 82 (.bslice 1 1 (.int .i64 0) [0]) 81,.b 83 (.append 1 8) 80 82,.b 84 (.idxp 1) 75 76,⟨none,.store 1, [.t 84,.t 83], none⟩]) .skip))))) (.reg [.m 32 11,.a 33 (.bin .add) 32 1,.m 11 33])))
def c_gNext_0 : AC := (.seq (.r [.m 22 10,.m 23 7,.u 24 (.len 1 0) 23,.b 25 (.bin .lss) 22 24] (.w 25 0)) (.seq (.block 1 (.r [.v 11 (.int .i64 0)] (.block 2 (.loop c_gNext_1)))) (.reg [.m 26 10,.a 27 (.bin .add) 26 1,.m 10 27])))
def c_gNext : AC := (.r [.u 5 .box 2,.v 6 (.nilsl)] (.r [.m 14 0,.u 15 (.call 23) 14,.m 7 15] (.r [.m 16 0,.m 17 1,.b 18 (.call 22) 16 17,.m 8 18] (.r [.m 19 7,.u 20 (.len 1 0) 19,.b 21 (.makesl 1 24 [.nilsl]) 20 20,.m 9 21] (.seq (.r [.v 10 (.int .i64 0)] (.block 0 (.loop c_gNext_0))) (.r [.m 85 9,.m 6 85] .ret))))))
theorem ok_gNexte : compF Tryz.prog Tryz.f25 ⟨false, false, []⟩ = some (c_gNext, [.tmp 6], 86) := by kernel_rfl
def hit1 (ks : Int → Bool) (x y : Int) (e : Ed) : Bool := decide (e.fr = x) && (decide (e.to = y) && ks e.kd)
def hitX (P : List Ed) (ks : Int → Bool) (x y : Int) : Bool := P.any (hit1 ks x y)
def selX (N : List Int) (P : List Ed) (ks : Int → Bool) (x : Int) (n : Nat) : List Int := ((List.range n).filter fun j => hitX P ks x (N.getD j 0)).map fun (j : Nat) => (j : Int)
def nextX (N : List Int) (P : List Ed) (ks : Int → Bool) : List (List Int) := N.map fun x => selX N P ks x N.length
def ksX (kl : List Bool) (k : Int) : Bool := kl.getD k.toNat false
theorem gN2_go (hP : PE E) {W : AW} {b5 : Nat} {kl : List Bool} (hkl : kl.length = 3) (h5 : W.get b5 = some (.row (kl.map V.bool))) {N : List Int} {P : List Ed} (hN : N.length < 2 ^ 40) (hPl : P.length < 2 ^ 40) (hk : ∀ e ∈ P, 0 ≤ e.kd ∧ e.kd < 3) {i j : Nat} (hi : i < N.length) (hj : j < N.length) {A : AFr} {Q : Exit → AFr → AW → Prop} {x9 : V}
  (a5 : A 5 = some (.ptr b5 0)) (a7 : A 7 = some (nowGS 1 (intsV N))) (a8 : A 8 = some (edsV P)) (a9 : A 9 = some x9) (a10 : A 10 = some (.int .i64 i)) (a11 : A 11 = some (.int .i64 j)) (a12 : A 12 = some (.bool false)) (a13 : A 13 = some (.int .i64 0))
  (hq : ∀ A', A' 5 = some (.ptr b5 0) → A' 7 = some (nowGS 1 (intsV N)) → A' 8 = some (edsV P) → A' 9 = some x9 → A' 10 = some (.int .i64 i) → A' 11 = some (.int .i64 j) → A' 12 = some (.bool (hitX P (ksX kl) N[i] N[j])) → Q (.exit 4) A' W) : awp E (.loop c_gNext_2) Q A W := by
 have hns := nowGS_S 1 (intsV N)
 have hes := edsV_S P
 rw [e_loop]
 refine alp (fun (n : Nat) A1 W1 => A1 5 = some (.ptr b5 0) ∧ A1 7 = some (nowGS 1 (intsV N)) ∧ A1 8 = some (edsV P) ∧ A1 9 = some x9 ∧ A1 10 = some (.int .i64 i) ∧ A1 11 = some (.int .i64 j) ∧ A1 12 = some (.bool (hitX (P.take n) (ksX kl) N[i] N[j])) ∧ A1 13 = some (.int .i64 n) ∧ n ≤ P.length ∧ W1 = W) (fun n => P.length - n) 0
  ⟨a5, a7, a8, a9, a10, a11, a12, a13, Nat.zero_le _, rfl⟩ ?_
 rintro n A1 W1 ⟨g5, g7, g8, g9, g10, g11, g12, g13, gn, rfl⟩ _
 by_cases hn : n < P.length
 ·have hat := ed_at hn
  have hke := hk _ (gmm hn)
  have hst : hitX (P.take (n + 1)) (ksX kl) N[i] N[j] = (hitX (P.take n) (ksX kl) N[i] N[j] || hit1 (ksX kl) N[i] N[j] P[n]) := by
   rw [hitX, hitX, tao, gEg hn, List.any_append, Option.toList_some, List.any_cons, List.any_nil, Bool.or_false]
  generalize P[n] = e at hat hke hst
  have hai := int_at hi
  have haj := int_at hj
  generalize N[i] = x at hai hst g12
  generalize N[j] = y at haj hst g12
  have hix : ∀ K, sem E (.idxa 3 1) [.ptr b5 0, .int .u8 e.kd] W1 K = K (.ptr b5 e.kd.toNat) W1 := fun K => by
   rw [m_idxa, if_pos (by omega)]; simp
  have hkt : e.kd.toNat < kl.length := by omega
  have hld : ∀ K, sem E (.load false 1) [.ptr b5 e.kd.toNat] W1 K = K (.bool (ksX kl e.kd)) W1 := fun K => by
   rw [m_load, h5, ksX, List.getD_eq_getElem?_getD, gEg hkt]
   simp [loadK, partV, hkt, optK_some]
  cases hb : hitX (P.take n) (ksX kl) x y with
  | true =>
   rw [hb] at g12 hst
   simp (maxSteps:=9^9) (disch:=omega) only [BS, e_seq, cond_if, ↓reduceIte, nE, c_gNext_2, g8, g12, g13, hes.len, lmp, clt, hn, dT]
   repeat (rw [guard_if]; simp (maxSteps:=9^9) (disch:=omega) only [BS, BC, ↓reduceIte, nE, BM, g5, g7, g8, g9, g10, g11, g13, wadd1])
   exact ⟨n + 1, ⟨tt, tt, tt, tt, tt, tt, by rw [hst]; rfl, tt, hn, tt⟩, by omega, lr _⟩
  | false =>
   rw [hb, Bool.false_or] at hst
   rw [hb] at g12
   simp (maxSteps:=9^9) (disch:=omega) only [BS, e_seq, cond_if, ↓reduceIte, nE, c_gNext_2, g8, g12, g13, hes.len, lmp, clt, hn, dT]
   by_cases h1 : e.fr = x
   ·by_cases h2 : e.to = y
    ·repeat (rw [guard_if]; simp (maxSteps:=9^9) (disch:=omega) only [BS, BC, ↓reduceIte, nE, BM, BD, nA, nL, g5, g7, g8, g9, g10, g11, g13, hes.idx hat, ed_cells, hns.idx hai, hns.idx haj, cmpeq, h1, h2, dT, hix, hld, wadd1])
     exact ⟨n + 1, ⟨tt, tt, tt, tt, tt, tt, by rw [hst, hit1, decide_eq_true h1, decide_eq_true h2]; rfl, tt, hn, tt⟩, by omega, lr _⟩
    ·repeat (rw [guard_if]; simp (maxSteps:=9^9) (disch:=omega) only [BS, BC, ↓reduceIte, nE, BM, BD, nA, nL, g5, g7, g8, g9, g10, g11, g13, hes.idx hat, ed_cells, hns.idx hai, hns.idx haj, cmpeq, h1, decide_eq_false h2, dT, wadd1])
     exact ⟨n + 1, ⟨tt, tt, tt, tt, tt, tt, by rw [hst, hit1, decide_eq_true h1, decide_eq_false h2]; rfl, tt, hn, tt⟩, by omega, lr _⟩
   ·repeat (rw [guard_if]; simp (maxSteps:=9^9) (disch:=omega) only [BS, BC, ↓reduceIte, nE, BM, BD, nA, nL, g5, g7, g8, g9, g10, g11, g13, hes.idx hat, ed_cells, hns.idx hai, cmpeq, decide_eq_false h1, wadd1])
    exact ⟨n + 1, ⟨tt, tt, tt, tt, tt, tt, by rw [hst, hit1, decide_eq_false h1]; rfl, tt, hn, tt⟩, by omega, lr _⟩
 ·obtain rfl : n = P.length := by omega
  rw [tkl] at g12
  simp (maxSteps:=9^9) (disch:=omega) only [BX, ↓reduceIte, nE, c_gNext_2, g8, g13, hes.len, lmp, clt, hn, dF]
  exact hq _ g5 g7 g8 g9 g10 g11 g12
structure NG (W W1 : AW) (rv lo : Nat) (out : List (List Int)) : Prop where
 cl : Cl W1
 nx : lo ≤ W1.nx
 gt : ∀ y, y < lo → y ≠ rv → W1.get y = W.get y
 cs : ∃ cs, Gc W1 cs out lo ∧ W1.get rv = some (.vec 1 cs)
theorem NG.app {W W1 : AW} {rv lo i : Nat} {out : List (List Int)} (h : NG W W1 rv lo out) (hrv : rv < lo) (hi : i < out.length) (hol : (out[i]).length < 2 ^ 40) {x : Int} {K : V → AW → Prop} {cs : List V} (hcs : Gc W1 cs out lo) (hg : W1.get rv = some (.vec 1 cs)) {hc : i < cs.length}
  (hK : ∀ c W', W1.nx ≤ W'.nx → (∀ K', sem E (.store 1) [.vptr rv i, c] W' K' = K' .undef (W'.put rv (.vec 1 (cs.set i c)))) → (∀ i', i' < cs.length → sem E (.idxp 1) [.slr rv 0 cs.length 1, .int .i64 (i' : Int)] W' = fun K => K (.vptr rv i') W') → NG W (W'.put rv (.vec 1 (cs.set i c))) rv lo (out.set i (out[i] ++ [x])) → K c W') :
  sem E (.append 1 8) [cs[i], .sl 1 true [.int .i64 x]] W1 K := by
 have hnow := hcs.now i hc hi
 have hnr : ∀ r, (r = W1.nx ∨ cs[i] = .buf true r 1 (i64s out[i]).length) → rv ≠ r ∧ ∀ y, y < lo → y ≠ r := by
  have hlo := h.nx
  intro r hr
  rcases hr with rfl | hr
  ·exact ⟨by omega, fun y hy => by omega⟩
  ·rcases hnow with ⟨e1, _⟩ | ⟨r', c1, c2, c3, c4, c5⟩
   ·rw [hr] at e1; cases e1
   ·rw [hr] at c3; cases c3
    exact ⟨by omega, fun y hy => by omega⟩
 refine app_now2 (lo := lo) hnow h.cl h.nx (by decide) rfl (by rw [i64s_len]; omega) ?_
 intro r W' gN gC gn hr gg
 obtain ⟨n1, n2⟩ := hnr r hr
 have hlo := h.nx
 have hrv' : W'.get rv = some (.vec 1 cs) := by rw [gg rv (by omega) n1]; exact hg
 have hg1 := hcs.app (f := i) (r := r) (x := x) hc hi gN gn hr gg
 refine hK _ W' gn (fun K' => stv hrv' hc (c := .buf true r 1 ((i64s out[i]).length + 1)) rfl rfl) (fun i' hi' => funext fun K => ix1 hi') ?_
 refine ⟨gC.put (by omega), by rw [put_nx]; omega, fun y hy hyr => ?_, _, hg1.to (by rw [put_nx]; exact lr _) fun y _ _ ⟨ys, hy⟩ => put_ne (by rintro rfl; rw [hrv'] at hy; cases hy), put_at⟩
 rw [put_ne hyr, gg y (by omega) (n2 y hy)]
 exact h.gt y hy hyr
theorem sel_succ (N : List Int) (P : List Ed) (ks : Int → Bool) (x : Int) (n : Nat) : selX N P ks x (n + 1) = selX N P ks x n ++ (if hitX P ks x (N.getD n 0) = true then [(n : Int)] else []) := by
 unfold selX
 rw [List.range_succ, List.filter_append, mpp, List.filter_cons]
 by_cases h : hitX P ks x (N.getD n 0) = true
 ·rw [if_pos h, if_pos h]; rfl
 ·rw [if_neg h, if_neg h]; rfl
theorem sel_len (N : List Int) (P : List Ed) (ks : Int → Bool) (x : Int) (n : Nat) : (selX N P ks x n).length ≤ n := by
 unfold selX
 rw [lmp]
 exact Nat.le_trans (List.length_filter_le _ _) (by simp)
theorem gN1_go (hP : PE E) {W W1 : AW} {b5 rv lo : Nat} {kl : List Bool} (hkl : kl.length = 3) (h5 : W.get b5 = some (.row (kl.map V.bool))) (hb : b5 < lo ∧ b5 ≠ rv) (hrv : rv < lo) {N : List Int} {P : List Ed} (hN : N.length < 2 ^ 39) (hPl : P.length < 2 ^ 40) (hk : ∀ e ∈ P, 0 ≤ e.kd ∧ e.kd < 3) {i : Nat} (hi : i < N.length) {o : List (List Int)} (ho : o.length = N.length) (hoi : o[i]? = some []) {A : AFr} {Q : Exit → AFr → AW → Prop}
  (a5 : A 5 = some (.ptr b5 0)) (a7 : A 7 = some (nowGS 1 (intsV N))) (a8 : A 8 = some (edsV P)) (a9 : A 9 = some (.slr rv 0 N.length 1)) (a10 : A 10 = some (.int .i64 i)) (a11 : A 11 = some (.int .i64 0)) (hg : NG W W1 rv lo o)
  (hq : ∀ A' W', A' 5 = some (.ptr b5 0) → A' 7 = some (nowGS 1 (intsV N)) → A' 8 = some (edsV P) → A' 9 = some (.slr rv 0 N.length 1) → A' 10 = some (.int .i64 i) → NG W W' rv lo (o.set i (selX N P (ksX kl) N[i] N.length)) → W1.nx ≤ W'.nx → Q (.exit 2) A' W') : awp E (.loop c_gNext_1) Q A W1 := by
 have hns := nowGS_S 1 (intsV N)
 rw [e_loop]
 refine alp (fun (j : Nat) A1 W2 => A1 5 = some (.ptr b5 0) ∧ A1 7 = some (nowGS 1 (intsV N)) ∧ A1 8 = some (edsV P) ∧ A1 9 = some (.slr rv 0 N.length 1) ∧ A1 10 = some (.int .i64 i) ∧ A1 11 = some (.int .i64 j) ∧ j ≤ N.length ∧ W1.nx ≤ W2.nx ∧ NG W W2 rv lo (o.set i (selX N P (ksX kl) N[i] j))) (fun j => N.length - j) 0
  ⟨a5, a7, a8, a9, a10, a11, Nat.zero_le _, lr _, by
   have : o.set i (selX N P (ksX kl) N[i] 0) = o := by
    rw [show selX N P (ksX kl) N[i] 0 = [] from rfl]
    obtain ⟨h1, h2⟩ := List.getElem?_eq_some_iff.1 hoi
    rw [← h2, List.set_getElem_self]
   rw [this]; exact hg⟩ ?_
 rintro j A1 W2 ⟨g5, g7, g8, g9, g10, g11, gj, gx, gG⟩ _
 by_cases hj : j < N.length
 ·have h5' : W2.get b5 = some (.row (kl.map V.bool)) := by rw [gG.gt b5 hb.1 hb.2]; exact h5
  have hsu := sel_succ N P (ksX kl) N[i] j
  have hsl := sel_len N P (ksX kl) N[i] j
  rw [getD_at hj] at hsu
  simp (maxSteps:=9^9) (disch:=omega) only [BS, e_seq, cond_if, ↓reduceIte, nE, c_gNext_1, g7, g11, hns.len, ints_len, clt, hj, dT, e_seq]
  refine gN2_go hP hkl h5' (by omega) hPl hk hi hj tt tt tt (x9 := .slr rv 0 N.length 1) tt tt tt tt tt ?_
  intro A' u5 u7 u8 u9 u10 u11 u12
  cases hh : hitX P (ksX kl) N[i] N[j] with
  | false =>
   rw [hh] at u12 hsu
   rw [if_neg (by decide), apn] at hsu
   simp (maxSteps:=9^9) (disch:=omega) only [BX, ↓reduceIte, nE, u5, u7, u8, u9, u10, u11, u12, wadd1]
   exact ⟨j + 1, ⟨tt, tt, tt, tt, tt, tt, hj, gx, by rw [hsu]; exact gG⟩, by omega, gx⟩
  | true =>
   rw [hh] at u12 hsu
   rw [if_pos rfl] at hsu
   obtain ⟨cs, gc, gr⟩ := gG.cs
   have hcl := gc.len
   rw [List.length_set] at hcl
   have hci : i < cs.length := by omega
   have hat : cs[i]? = some cs[i] := gEg _
   simp (maxSteps:=9^9) (disch:=omega) only [BS, e_seq, cond_if, ↓reduceIte, nE, u9, u10, u11, u12, ix1 hi, ldv gr hat, bsI]
   refine gG.app hrv (i := i) (by rw [List.length_set]; omega) (by rw [List.getElem_set_self]; omega) (x := (j : Int)) gc gr (hc := hci) ?_
   intro c W' hx hst hix hng
   rw [List.getElem_set_self, List.set_set, ← hsu] at hng
   simp (maxSteps:=9^9) (disch:=omega) only [BS, ↓reduceIte, nE, BM, u5, u7, u8, u9, u10, u11, ix1 hi, hst, wadd1]
   exact ⟨j + 1, ⟨tt, tt, tt, tt, tt, tt, hj, by rw [put_nx]; omega, hng⟩, by omega, by rw [put_nx]; omega⟩
 ·obtain rfl : j = N.length := by omega
  simp (maxSteps:=9^9) (disch:=omega) only [BX, ↓reduceIte, nE, c_gNext_1, g7, g11, hns.len, ints_len, clt, hj, dF]
  exact hq _ _ g5 g7 g8 g9 g10 gG gx
theorem next_take {N : List Int} {P : List Ed} {ks : Int → Bool} {i : Nat} (hi : i < N.length) {f : Int → List Int} : (((N.take i).map f) ++ List.replicate (N.length - i) []).set i (f N[i]) = ((N.take (i + 1)).map f) ++ List.replicate (N.length - (i + 1)) [] := by
 have h1 : ((N.take i).map f).length = i := by simp; omega
 rw [List.set_append_right _ _ (by omega), h1, Nat.sub_self, show N.length - i = (N.length - (i + 1)) + 1 by omega, List.replicate_succ, List.set_cons_zero, tao, gEg hi, mpp]
 simp
def isLL (Y : V) (W W' : AW) (out : List (List Int)) : Prop := (out ≠ [] ∧ Y = llV out ∧ W' = W) ∨ (out = [] ∧ ∃ r, Y = .slr r 0 0 1 ∧ Ex W W')
theorem gNext_c (hP : PE E) (W : AW) {sp lo q lo' N : Nat} {h : V} {l : List Rt} (hR : Rs W sp h l lo) {L : List (List (List Int))} {cs : List V} {es : List (List V)} (hO : Ro W q L lo' cs es N) (hN : N < 2 ^ 30) {k0 k1 k2 : Bool} : ACalls E 25 [.ptr sp 0, .ptr q 0, .agg [.bool k0, .bool k1, .bool k2]] W fun Y W' => isLL Y W W' (nextX (nodesR (txs l)) (edgesX (txs l) L) (ksX [k0, k1, k2])) := by
 refine ACalls.of hP Tryz.func25 ok_gNexte (by simp) fun _ hok => ?_
 refine awp_start hok ?_
 have hs := hR.small
 have htl : (txs l).length = l.length := by simp only [txs, lmp]
 have hnl := nodes_len (txs l)
 have hEx : Ex W (X W W.nx [.row [.bool k0, .bool k1, .bool k2]]) := .x0
 have hel : (edgesX (txs l) L).length ≤ 65536 * (65536 * 3) := Nat.le_trans (flat_len fun a _ => row_len (txs l) L a (txs l)) (Nat.mul_le_mul (by omega) (by omega))
 have hek : ∀ e ∈ edgesX (txs l) L, 0 ≤ e.kd ∧ e.kd < 3 := by
  intro e he
  obtain ⟨a, _, he⟩ := List.mem_flatMap.1 he
  obtain ⟨b, _, he⟩ := List.mem_flatMap.1 he
  obtain ⟨n, hn, rfl⟩ := List.mem_map.1 he
  have := List.mem_range.1 (List.mem_filter.1 hn).1
  exact ⟨by simp, by simp; omega⟩
 simp (maxSteps:=9^9) (disch:=omega) only [BZ, ↓reduceIte, reduceCtorEq, BM, BD, c_gNext]
 refine pc (gNodes_c hP _ (hR.keep hEx.nx hEx.get)) ?_
 simp (maxSteps:=9^9) (disch:=omega) only [BZ, ↓reduceIte, nE, reduceCtorEq, e_seq]
 refine pc (gEdges_c hP _ (hR.keep hEx.nx hEx.get) (hO.keep hEx.nx hEx.get) hN) ?_
 have hns := nowGS_S 1 (intsV (nodesR (txs l)))
 generalize edgesX (txs l) L = P at hel hek
 generalize nodesR (txs l) = M at hnl hns
 simp (maxSteps:=9^9) (disch:=omega) only [BS, e_seq, ↓reduceIte, nE, BM, BD, hns.len, ints_len, mk24]
 have r0 : rf W.nx 0 = W.nx := rfl
 have r1 : rf W.nx 1 = W.nx + 1 := rfl
 obtain ⟨W0, hW0⟩ : ∃ W0, W0 = X W W.nx [.row [.bool k0, .bool k1, .bool k2], .vec 1 (List.replicate M.length .nilsl)] := ⟨_, rfl⟩
 rw [← hW0]
 have hE0 : Ex W W0 := by rw [hW0]; exact .x0
 have hn0 : W0.nx = W.nx + 2 := by rw [hW0]; rfl
 have k5 : W0.get (rf W.nx 0) = some (.row ([k0, k1, k2].map V.bool)) := by rw [hW0, X_get]; rfl
 have kv : W0.get (rf W.nx 1) = some (.vec 1 (List.replicate M.length .nilsl)) := by rw [hW0, X_get]; rfl
 clear hW0
 rw [e_loop]
 refine alp (fun (i : Nat) A1 W2 => A1 5 = some (.ptr (rf W.nx 0) 0) ∧ A1 7 = some (nowGS 1 (intsV M)) ∧ A1 8 = some (edsV P) ∧ A1 9 = some (.slr (rf W.nx 1) 0 M.length 1) ∧ A1 10 = some (.int .i64 i) ∧ i ≤ M.length ∧ NG W0 W2 (rf W.nx 1) (W.nx + 2) (((M.take i).map fun x => selX M P (ksX [k0, k1, k2]) x M.length) ++ List.replicate (M.length - i) [])) (fun i => M.length - i) 0
  ⟨rfl, rfl, rfl, rfl, rfl, Nat.zero_le _, hE0.cl, by omega, fun y _ _ => rfl, _, Gc.start _ _ _, kv⟩ ?_
 rintro i A1 W2 ⟨g5, g7, g8, g9, g10, gi, gG⟩ _
 by_cases hi : i < M.length
 ·simp (maxSteps:=9^9) (disch:=omega) only [BS, e_seq, cond_if, ↓reduceIte, nE, c_gNext_0, g7, g10, hns.len, ints_len, clt, hi, dT]
  refine gN1_go hP (kl := [k0, k1, k2]) rfl k5 (by omega) (by omega) (by omega) (by omega) hek hi (by simp; omega) (by rw [List.getElem?_append_right (by rw [lmp, ltk]; omega), lmp, ltk, List.getElem?_replicate, if_pos (by omega)]) tt tt tt tt tt tt gG ?_
  intro A' W' u5 u7 u8 u9 u10 uG ux
  simp (maxSteps:=9^9) (disch:=omega) only [BS, ↓reduceIte, nE, u10, wadd1]
  exact ⟨i + 1, ⟨tt, tt, tt, tt, tt, hi, by rw [← next_take (P := P) (ks := ksX [k0, k1, k2]) hi]; exact uG⟩, by omega, by have := uG.nx; omega⟩
 ·obtain rfl : i = M.length := by omega
  rw [tkl, Nat.sub_self, List.replicate_zero, apn] at gG
  simp (maxSteps:=9^9) (disch:=omega) only [BX, ↓reduceIte, nE, c_gNext_0, g7, g9, g10, hns.len, ints_len, clt, hi, dF]
  have hnx : (M.map fun x => selX M P (ksX [k0, k1, k2]) x M.length) = nextX M P (ksX [k0, k1, k2]) := rfl
  rw [hnx] at gG
  have hnl2 : (nextX M P (ksX [k0, k1, k2])).length = M.length := by rw [nextX, lmp]
  by_cases hz : M = []
  ·subst hz
   refine ⟨_, rfl, _, _, .weak weak_id, by have := gG.nx; omega, .inr ⟨rfl, rf W.nx 1, rfl, gG.cl, by have := gG.nx; omega, fun y hy => ?_⟩⟩
   rw [gG.gt y (by omega) (by omega)]; exact hE0.get y hy
  ·obtain ⟨cs, gc, gr⟩ := gG.cs
   have hfz := gc.frz
   have hcl := gc.len
   have hlen : 0 < M.length := List.length_pos_iff.2 hz
   have hch : chunks 1 M.length (cs.map W2.frz) = (nextX M P (ksX [k0, k1, k2])).map fun l => nowGS 1 (i64s l) := by
    rw [hfz]
    have := chunks1' ((nextX M P (ksX [k0, k1, k2])).map fun l => nowGS 1 (i64s l))
    rw [lmp, hnl2] at this
    exact this
   refine ⟨_, rfl, .sl 1 false (chunks 1 M.length (cs.map W2.frz)), W, ?_, lr _, .inl ⟨by rw [ne_eq, ← List.length_eq_zero_iff]; omega, by rw [hch]; rfl, rfl⟩⟩
   refine .frzd gr (by omega) hlen (by decide) (by rw [hfz]; exact ll_ones _) ?_
   rw [hch]
   refine weak_back hok (ll_bel _ _) fun y hy => ?_
   have hy' : y < W.nx := hy
   have hyr : y ≠ rf W.nx 1 := by omega
   simp only [AW.drop, hyr, ↓reduceIte]
   rw [gG.gt y (by omega) hyr]
   exact hE0.get y hy
def Un (s : Str) : Prop := ∀ t ∈ s, ∀ t' ∈ s, ∀ k v, S.has t k v = true → S.has t' k v = true → t.id = t'.id
theorem has_ms {t t' : Tx} (h : t.ms = t'.ms) (k v : Int) : S.has t k v = S.has t' k v := by unfold S.has; rw [h]
theorem Un.upd {s : Str} (h : Un s) {i : Int} {t x : Tx} (hf : find s i = some t) (hi : x.id = t.id) (hm : x.ms = t.ms) : Un (upd s x) := by
 have hin := (find_in hf).1
 have key : ∀ y ∈ S.upd s x, ∃ z ∈ s, y.id = z.id ∧ y.ms = z.ms := fun y hy => by
  rcases upd_mem hy with rfl | hy
  ·exact ⟨t, hin, hi, hm⟩
  ·exact ⟨y, hy, rfl, rfl⟩
 intro y hy y' hy' k v h1 h2
 obtain ⟨z, z1, z2, z3⟩ := key y hy
 obtain ⟨z', w1, w2, w3⟩ := key y' hy'
 rw [z2, w2]
 exact h z z1 z' w1 k v (by rw [← has_ms z3]; exact h1) (by rw [← has_ms w3]; exact h2)
theorem Un.begin {s : Str} (h : Un s) {c i : Int} {l : List Mi} (hf : freshB s l = true) : Un (s ++ [⟨i, c, l, [], 0⟩]) := by
 simp only [freshB, Bool.and_eq_true, List.all_eq_true] at hf
 have key : ∀ t ∈ s, ∀ k v, S.has t k v = true → S.has ⟨i, c, l, [], 0⟩ k v = true → False := fun t ht k v h1 h2 => by
  rw [has_iff, decide_eq_true_eq] at h2
  have := hf.2 _ h2
  have h3 : (who s k v).isSome = true := by rw [who, List.find?_isSome]; exact ⟨t, ht, h1⟩
  rw [Option.isNone_iff_eq_none] at this
  rw [this] at h3; cases h3
 intro y hy y' hy' k v h1 h2
 rcases List.mem_append.1 hy with hy | hy <;> rcases List.mem_append.1 hy' with hy' | hy'
 ·exact h y hy y' hy' k v h1 h2
 ·rw [List.mem_singleton.1 hy'] at h2; exact (key y hy k v h1 h2).elim
 ·rw [List.mem_singleton.1 hy] at h1; exact (key y' hy' k v h2 h1).elim
 ·rw [List.mem_singleton.1 hy, List.mem_singleton.1 hy']
theorem Un.ends {s : Str} (h : Un s) (i st : Int) : Un (endR s i st).1 := by
 unfold endR
 cases hf : find s i with
 | none => exact h
 | some t =>
  simp only
  split
  ·exact h.upd hf rfl rfl
  ·exact h
theorem Un.commit {s : Str} (h : Un s) (i : Int) (ls : List (Option (List Int))) : Un (commitR s i ls).1 := by
 unfold commitR
 cases hf : find s i with
 | none => exact h
 | some t =>
  simp only
  split
  ·split
   ·split
    ·exact h.upd hf rfl rfl
    ·exact h
   ·exact h
  ·exact h
theorem Un.act {s : Str} (h : Un s) (o : Ods) (a : Ac) : Un (actG s o a).1 := by
 unfold actG
 split
 ·split
  ·exact h.commit _ _
  ·exact h.commit _ _
 ·split
  ·exact h.ends _ _
  ·split
   ·exact h.ends _ _
   ·simp only [beginR]
    split
    ·split
     ·exact h
     ·split
      ·rename_i hf; exact h.begin hf
      ·exact h
    ·exact h
theorem same_id {s : Str} (hs : s.Pairwise fun a b => a.id < b.id) : ∀ {t t' : Tx}, t ∈ s → t' ∈ s → t.id = t'.id → t = t' := by
 induction s with
 | nil => intro t t' h; cases h
 | cons a s ih =>
  intro t t' h h' e
  rw [List.pairwise_cons] at hs
  rcases List.mem_cons.1 h with rfl | h1 <;> rcases List.mem_cons.1 h' with rfl | h2
  ·rfl
  ·have := hs.1 _ h2; omega
  ·have := hs.1 _ h1; omega
  ·exact ih hs.2 h1 h2 e
theorem wr_iff {s : Str} (hs : SOk s) (hU : Un s) {k v a : Int} : ((wrR s k v).2 = true ∧ (wrR s k v).1 = a) ↔ ∃ t ∈ s, S.has t k v = true ∧ t.st ≠ 2 ∧ t.id = a := by
 unfold wrR
 cases h : who s k v with
 | none =>
  simp only
  refine ⟨fun h => (by cases h.1), fun ⟨t, ht, h1, _⟩ => ?_⟩
  have h3 : (who s k v).isSome = true := by rw [who, List.find?_isSome]; exact ⟨t, ht, h1⟩
  rw [h] at h3; cases h3
 | some t =>
  obtain ⟨h1, h2⟩ := who_mem h
  simp only [decide_eq_true_eq]
  refine ⟨fun h => ⟨t, h1, h2, h.1, h.2⟩, fun ⟨t', ht, q1, q2, q3⟩ => ?_⟩
  have := same_id hs.lt h1 ht (hU t h1 t' ht k v h2 q1)
  subst this
  exact ⟨q2, q3⟩
theorem edgeP_iff {f t k : Int} {x : Ek} : x ∈ edgeP f t k ↔ f ≠ t ∧ x = (f, t, k) := by
 unfold edgeP
 split
 ·rename_i h; exact ⟨fun h => (by cases h), fun h2 => absurd h h2.1⟩
 ·rename_i h; exact ⟨fun h2 => ⟨h, List.mem_singleton.1 h2⟩, fun h2 => List.mem_singleton.2 h2.2⟩
theorem zip_tail {l : List Int} {x y : Int} : (x, y) ∈ l.zip l.tail ↔ ∃ i, 1 ≤ i ∧ i < l.length ∧ x = l.getD (i - 1) 0 ∧ y = l.getD i 0 := by
 rw [List.mem_iff_getElem]
 constructor
 ·rintro ⟨n, hn, e⟩
  rw [List.length_zip, List.length_tail] at hn
  rw [List.getElem_zip, List.getElem_tail] at e
  cases e
  exact ⟨n + 1, by omega, by omega, by rw [Nat.add_sub_cancel, getD_at (by omega)], by rw [getD_at (by omega)]⟩
 ·rintro ⟨i, h1, h2, rfl, rfl⟩
  refine ⟨i - 1, by rw [List.length_zip, List.length_tail]; omega, ?_⟩
  rw [List.getElem_zip, List.getElem_tail, getD_at (by omega), getD_at h2]
  congr 2; omega
theorem last_iff {l : List Int} {v : Int} : l.getLast? = some v ↔ 0 < l.length ∧ l.getD (l.length - 1) 0 = v := by
 rw [List.getLast?_eq_getElem?, List.getD_eq_getElem?_getD]
 by_cases h : 0 < l.length
 ·rw [gEg (by omega)]; simp [h]
 ·obtain rfl : l = [] := List.eq_nil_of_length_eq_zero (by omega)
  simp
theorem at_iff {l : List Int} {n : Nat} {v : Int} : l[n]? = some v ↔ n < l.length ∧ l.getD n 0 = v := by
 rw [List.getD_eq_getElem?_getD]
 by_cases h : n < l.length
 ·rw [gEg h]; simp [h]
 ·rw [List.getElem?_eq_none (by omega)]; simp [h]
theorem isX_iff {s : Str} {L : List (List (List Int))} {a b : Tx} {kd : Int} : isX s L a b kd = true ↔ (a.id ≠ b.id ∧ a.st ≠ 2 ∧ b.st ≠ 2) ∧ ((kd = 0 ∧ ∃ k : Nat, k < 8 ∧ wwX a b k (ofL (keyL L k)) = true) ∨ (kd > 0 ∧ ∃ r ∈ readsR (if kd = 2 then a else b), rdX s L a b kd r = true)) := by
 unfold isX
 by_cases h : a.id = b.id ∨ a.st = 2 ∨ b.st = 2
 ·rw [if_pos h]
  refine ⟨fun h => (by cases h), fun ⟨⟨h1, h2, h3⟩, _⟩ => ?_⟩
  rcases h with h | h | h
  ·exact absurd h h1
  ·exact absurd h h2
  ·exact absurd h h3
 ·rw [if_neg h, Bool.or_eq_true, Bool.and_eq_true, Bool.and_eq_true, decide_eq_true_eq, decide_eq_true_eq, aet, aet]
  have h' : a.id ≠ b.id ∧ a.st ≠ 2 ∧ b.st ≠ 2 := ⟨fun e => h (.inl e), fun e => h (.inr (.inl e)), fun e => h (.inr (.inr e))⟩
  simp only [List.mem_range]
  exact ⟨fun h2 => ⟨h', h2⟩, fun h2 => h2.2⟩
theorem ww_iff {a b : Tx} {k : Int} {l : List Int} : wwX a b k l = true ↔ ∃ x y, (x, y) ∈ l.zip l.tail ∧ S.has a k x = true ∧ S.has b k y = true := by
 unfold wwX
 rw [aet]
 constructor
 ·rintro ⟨i, hi, h⟩
  simp only [Bool.and_eq_true, decide_eq_true_eq] at h
  exact ⟨_, _, zip_tail.2 ⟨i, h.1, List.mem_range.1 hi, rfl, rfl⟩, h.2.1, h.2.2⟩
 ·rintro ⟨x, y, h, h1, h2⟩
  obtain ⟨i, i1, i2, rfl, rfl⟩ := zip_tail.1 h
  exact ⟨i, List.mem_range.2 i2, by rw [decide_eq_true i1, h1, h2]; rfl⟩
theorem cnt_eq {s : Str} {os : Ods} {L : List (List (List Int))} (hL : ∀ k, 0 ≤ k → ofL (keyL L k) = keyO os k) {r : Rd} (hr : 0 ≤ r.1) : cntX s L r.1 (nums r.2) = countsR s os r := by
 unfold cntX countsR; rw [hL _ hr]
theorem rd1_iff {s : Str} {os : Ods} {L : List (List (List Int))} (hL : ∀ k, 0 ≤ k → ofL (keyL L k) = keyO os k) {a b : Tx} {r : Rd} (hr : 0 ≤ r.1) : rdX s L a b 1 r = true ↔ countsR s os r = true ∧ ∃ v, (nums r.2).getLast? = some v ∧ S.has a r.1 v = true := by
 unfold rdX
 rw [cnt_eq hL hr]
 simp only [dT, Bool.true_and, show decide ((1 : Int) = 2) = false by decide, Bool.false_and, Bool.or_false, Bool.and_eq_true, decide_eq_true_eq]
 refine and_congr_right fun _ => ⟨fun h => ⟨_, last_iff.2 ⟨h.1, rfl⟩, h.2⟩, fun ⟨v, h1, h2⟩ => ?_⟩
 obtain ⟨h3, rfl⟩ := last_iff.1 h1
 exact ⟨h3, h2⟩
theorem rd2_iff {s : Str} {os : Ods} {L : List (List (List Int))} (hL : ∀ k, 0 ≤ k → ofL (keyL L k) = keyO os k) {a b : Tx} {r : Rd} (hr : 0 ≤ r.1) : rdX s L a b 2 r = true ↔ countsR s os r = true ∧ ∃ v, (keyO os r.1)[(nums r.2).length]? = some v ∧ S.has b r.1 v = true := by
 unfold rdX
 rw [cnt_eq hL hr, hL _ hr]
 simp only [dT, Bool.true_and, show decide ((2 : Int) = 1) = false by decide, Bool.false_and, Bool.false_or, Bool.and_eq_true, decide_eq_true_eq]
 refine and_congr_right fun _ => ⟨fun h => ⟨_, at_iff.2 ⟨h.1, rfl⟩, h.2⟩, fun ⟨v, h1, h2⟩ => ?_⟩
 obtain ⟨h3, rfl⟩ := at_iff.1 h1
 exact ⟨h3, h2⟩
theorem build_iff {s : Str} {os : Ods} {L : List (List (List Int))} (hs : SOk s) (hU : Un s) (hL : ∀ k, 0 ≤ k → ofL (keyL L k) = keyO os k) {f t kd : Int} : (f, t, kd) ∈ buildP s os ↔ ∃ a ∈ s, ∃ b ∈ s, a.id = f ∧ b.id = t ∧ 0 ≤ kd ∧ kd < 3 ∧ isX s L a b kd = true := by
 have hrk : ∀ t ∈ s, ∀ r ∈ readsR t, 0 ≤ r.1 := fun t ht r hr => (readsR_key (hs.ok t ht).ms r hr).1
 unfold buildP
 rw [map']
 constructor
 ·rintro (h | h)
  ·obtain ⟨k, hk, h⟩ := List.mem_flatMap.1 h
   obtain ⟨⟨x, y⟩, hx, h⟩ := List.mem_flatMap.1 h
   have hk := List.mem_range.1 hk
   split at h
   ·rename_i hw
    obtain ⟨hne, e⟩ := edgeP_iff.1 h
    cases e
    obtain ⟨a, a1, a2, a3, a4⟩ := (wr_iff hs hU).1 ⟨hw.1, rfl⟩
    obtain ⟨b, b1, b2, b3, b4⟩ := (wr_iff hs hU).1 ⟨hw.2, rfl⟩
    refine ⟨a, a1, b, b1, a4, b4, by decide, by decide, isX_iff.2 ⟨⟨by rw [a4, b4]; exact hne, a3, b3⟩, .inl ⟨rfl, k, hk, ?_⟩⟩⟩
    rw [hL _ (by omega)]
    exact ww_iff.2 ⟨x, y, hx, a2, b2⟩
   ·cases h
  ·obtain ⟨c, hc, h⟩ := List.mem_flatMap.1 h
   unfold txnP at h
   split at h
   ·cases h
   ·rename_i hst
    obtain ⟨r, hr, h⟩ := List.mem_flatMap.1 h
    have hr0 := hrk c hc r hr
    split at h
    ·rename_i hcn
     rcases List.mem_append.1 h with h | h
     ·unfold lastP at h
      split at h
      ·rename_i v hv
       split at h
       ·rename_i hw
        obtain ⟨hne, e⟩ := edgeP_iff.1 h
        cases e
        obtain ⟨a, a1, a2, a3, a4⟩ := (wr_iff hs hU).1 ⟨hw, rfl⟩
        exact ⟨a, a1, c, hc, a4, rfl, by decide, by decide, isX_iff.2 ⟨⟨by rw [a4]; exact hne, a3, hst⟩, .inr ⟨by decide, r, by rw [if_neg (by decide)]; exact hr, (rd1_iff hL hr0).2 ⟨hcn, v, hv, a2⟩⟩⟩⟩
       ·cases h
      ·cases h
     ·unfold nextP at h
      split at h
      ·rename_i v hv
       split at h
       ·rename_i hw
        obtain ⟨hne, e⟩ := edgeP_iff.1 h
        cases e
        obtain ⟨a, a1, a2, a3, a4⟩ := (wr_iff hs hU).1 ⟨hw, rfl⟩
        exact ⟨c, hc, a, a1, rfl, a4, by decide, by decide, isX_iff.2 ⟨⟨by rw [a4]; exact hne, hst, a3⟩, .inr ⟨by decide, r, by rw [if_pos rfl]; exact hr, (rd2_iff hL hr0).2 ⟨hcn, v, hv, a2⟩⟩⟩⟩
       ·cases h
      ·cases h
    ·cases h
 ·rintro ⟨a, ha, b, hb, rfl, rfl, k0, k3, h⟩
  obtain ⟨⟨n1, n2, n3⟩, h⟩ := isX_iff.1 h
  rcases h with ⟨rfl, k, hk, h⟩ | ⟨hk, r, hr, h⟩
  ·rw [hL _ (by omega)] at h
   obtain ⟨x, y, h1, h2, h3⟩ := ww_iff.1 h
   obtain ⟨w1, w2⟩ := (wr_iff hs hU).2 ⟨a, ha, h2, n2, rfl⟩
   obtain ⟨w3, w4⟩ := (wr_iff hs hU).2 ⟨b, hb, h3, n3, rfl⟩
   refine .inl (List.mem_flatMap.2 ⟨k, List.mem_range.2 hk, List.mem_flatMap.2 ⟨(x, y), h1, ?_⟩⟩)
   rw [if_pos ⟨w1, w3⟩]
   exact edgeP_iff.2 ⟨by rw [w2, w4]; exact n1, by rw [w2, w4]⟩
  ·have : kd = 1 ∨ kd = 2 := by omega
   rcases this with rfl | rfl
   ·rw [if_neg (by decide)] at hr
    obtain ⟨h1, v, h2, h3⟩ := (rd1_iff hL (hrk b hb r hr)).1 h
    obtain ⟨w1, w2⟩ := (wr_iff hs hU).2 ⟨a, ha, h3, n2, rfl⟩
    refine .inr (List.mem_flatMap.2 ⟨b, hb, ?_⟩)
    rw [txnP, if_neg n3]
    refine List.mem_flatMap.2 ⟨r, hr, ?_⟩
    rw [if_pos h1]
    refine List.mem_append_left _ ?_
    rw [lastP, h2]
    simp only
    rw [if_pos w1]
    exact edgeP_iff.2 ⟨by rw [w2]; exact n1, by rw [w2]⟩
   ·rw [if_pos rfl] at hr
    obtain ⟨h1, v, h2, h3⟩ := (rd2_iff hL (hrk a ha r hr)).1 h
    obtain ⟨w1, w2⟩ := (wr_iff hs hU).2 ⟨b, hb, h3, n3, rfl⟩
    refine .inr (List.mem_flatMap.2 ⟨a, ha, ?_⟩)
    rw [txnP, if_neg n2]
    refine List.mem_flatMap.2 ⟨r, hr, ?_⟩
    rw [if_pos h1]
    refine List.mem_append_right _ ?_
    rw [nextP, h2]
    simp only
    rw [if_pos w1]
    exact edgeP_iff.2 ⟨by rw [w2]; exact n1, by rw [w2]⟩
theorem kds_mem {s : Str} {L : List (List (List Int))} {a b : Tx} {n : Nat} {e : Ed} : e ∈ kdsX s L a b n ↔ e.fr = a.id ∧ e.to = b.id ∧ 0 ≤ e.kd ∧ e.kd < n ∧ isX s L a b e.kd = true := by
 unfold kdsX
 rw [mmp]
 constructor
 ·rintro ⟨k, hk, rfl⟩
  obtain ⟨h1, h2⟩ := List.mem_filter.1 hk
  have := List.mem_range.1 h1
  exact ⟨rfl, rfl, by simp, by simp; omega, h2⟩
 ·rintro ⟨h1, h2, h3, h4, h5⟩
  have hz : ((e.kd.toNat : Nat) : Int) = e.kd := by omega
  refine ⟨e.kd.toNat, List.mem_filter.2 ⟨List.mem_range.2 (by omega), by rw [hz]; exact h5⟩, ?_⟩
  rw [hz, ← h1, ← h2]
theorem edges_mem {s : Str} {L : List (List (List Int))} {e : Ed} : e ∈ edgesX s L ↔ ∃ a ∈ s, ∃ b ∈ s, a.id = e.fr ∧ b.id = e.to ∧ 0 ≤ e.kd ∧ e.kd < 3 ∧ isX s L a b e.kd = true := by
 unfold edgesX
 rw [List.mem_flatMap]
 constructor
 ·rintro ⟨a, ha, h⟩
  obtain ⟨b, hb, h⟩ := List.mem_flatMap.1 h
  obtain ⟨h1, h2, h3, h4, h5⟩ := kds_mem.1 h
  exact ⟨a, ha, b, hb, h1.symm, h2.symm, h3, h4, h5⟩
 ·rintro ⟨a, ha, b, hb, h1, h2, h3, h4, h5⟩
  exact ⟨a, ha, List.mem_flatMap.2 ⟨b, hb, kds_mem.2 ⟨h1.symm, h2.symm, h3, h4, h5⟩⟩⟩
theorem edges_pw {s : Str} (hs : s.Pairwise fun a b => a.id < b.id) (L : List (List (List Int))) : (edgesX s L).Pairwise fun a b => a < b := by
 unfold edgesX
 refine List.pairwise_flatMap.2 ⟨fun a ha => List.pairwise_flatMap.2 ⟨fun b hb => ?_, ?_⟩, ?_⟩
 ·unfold kdsX
  refine List.pairwise_map.2 (List.Pairwise.filter _ (List.pairwise_lt_range.imp fun h => ?_))
  exact lt_iff.2 (.inr ⟨rfl, .inr ⟨rfl, by simp only; omega⟩⟩)
 ·refine hs.imp fun h x hx y hy => ?_
  obtain ⟨x1, x2, _⟩ := kds_mem.1 hx
  obtain ⟨y1, y2, _⟩ := kds_mem.1 hy
  exact lt_iff.2 (.inr ⟨by rw [x1, y1], .inl (by rw [x2, y2]; exact h)⟩)
 ·refine hs.imp fun h x hx y hy => ?_
  obtain ⟨_, _, hx⟩ := List.mem_flatMap.1 hx
  obtain ⟨_, _, hy⟩ := List.mem_flatMap.1 hy
  obtain ⟨x1, x2, _⟩ := kds_mem.1 hx
  obtain ⟨y1, y2, _⟩ := kds_mem.1 hy
  exact lt_iff.2 (.inl (by rw [x1, y1]; exact h))
theorem ed_irr {a b : Ed} (h : a < b) : ¬ b < a ∧ a ≠ b := by
 rw [lt_iff] at h
 refine ⟨fun h2 => ?_, ?_⟩
 ·rw [lt_iff] at h2; omega
 ·rintro rfl; omega
theorem edges_eq {s : Str} {os : Ods} {L : List (List (List Int))} (hs : SOk s) (hU : Un s) (hL : ∀ k, 0 ≤ k → ofL (keyL L k) = keyO os k) : edL (buildP s os) = edgesX s L := by
 have hpw := edges_pw hs.lt L
 refine sortL_unique (perm_of_mem (List.pairwise_map.2 ((tally_nodup _).imp fun h e => h (toEd_inj e))) (hpw.imp fun h => (ed_irr h).2) fun e => ?_) (hpw.imp fun h => ?_)
 ·rw [edges_mem, ← build_iff hs hU hL, mmp]
  constructor
  ·rintro ⟨x, hx, rfl⟩; exact (tally_mem _ x).1 hx
  ·intro h; exact ⟨ofEd e, (tally_mem _ _).2 h, to_of e⟩
 ·exact decide_eq_false (ed_irr h).1
theorem lowB_at {N : List Int} (hN : N.Pairwise fun a b => a < b) {j : Nat} (hj : j < N.length) : lowB N N[j] = j := by
 have h := List.pairwise_iff_getElem.1 hN
 exact lowB_of (by omega) (fun i hi hij => h i j hi hj hij) (fun h => by omega)
theorem at_low {N : List Int} (hN : N.Pairwise fun a b => a < b) {x : Int} (hx : x ∈ N) : ∃ j, ∃ h : j < N.length, N[j] = x ∧ lowB N x = j := by
 obtain ⟨j, hj, rfl⟩ := List.getElem_of_mem hx
 exact ⟨j, hj, rfl, lowB_at hN hj⟩
theorem low_mono {N : List Int} (hN : N.Pairwise fun a b => a < b) {x y : Int} (hx : x ∈ N) (hy : y ∈ N) (h : x ≤ y) : lowB N x ≤ lowB N y := by
 obtain ⟨i, hi, rfl, e1⟩ := at_low hN hx
 obtain ⟨j, hj, rfl, e2⟩ := at_low hN hy
 rw [e1, e2]
 have := List.pairwise_iff_getElem.1 hN
 by_cases hji : j < i
 ·have := this j i hj hi hji; omega
 ·omega
structure NxI (N : List Int) (ks : Int → Bool) (l : List Ed) (out : List (List Int)) : Prop where
 len : out.length = N.length
 pw : ∀ i (h : i < out.length), (out[i]).Pairwise fun a b => a < b
 mem : ∀ i (h : i < out.length) (h' : i < N.length) t, t ∈ out[i] ↔ ∃ e ∈ l, e.fr = N[i] ∧ ks e.kd = true ∧ t = (lowB N e.to : Int)
theorem next_inv {N kinds : List Int} {ks : Int → Bool} (hN : N.Pairwise fun a b => a < b) (l : List Ed) : (l.Pairwise fun a b => a < b) → (∀ e ∈ l, e.fr ∈ N ∧ e.to ∈ N ∧ (kinds.any fun k => decide (e.kd = k)) = ks e.kd) → NxI N ks l (l.foldl (nextStep N kinds) (List.replicate N.length [])) := by
 refine snocInd (p := fun l => (l.Pairwise fun a b => a < b) → (∀ e ∈ l, e.fr ∈ N ∧ e.to ∈ N ∧ (kinds.any fun k => decide (e.kd = k)) = ks e.kd) → NxI N ks l (l.foldl (nextStep N kinds) (List.replicate N.length []))) ?_ (fun l x ih => ?_) l
 ·intro _ _
  exact ⟨by simp, fun i h => by simp, fun i h h' t => by simp⟩
 ·intro hp hm
  obtain ⟨p1, _, p3⟩ := List.pairwise_append.1 hp
  have ih := ih p1 fun e he => hm e (by simp [he])
  obtain ⟨m1, m2, m3⟩ := hm x (by simp)
  rw [List.foldl_append, List.foldl_cons, List.foldl_nil]
  generalize l.foldl (nextStep N kinds) (List.replicate N.length []) = out at ih
  obtain ⟨f, hf, f1, f2⟩ := at_low hN m1
  have hfo : f < out.length := by rw [ih.len]; exact hf
  have hgd : out.getD f [] = out[f] := by rw [List.getD_eq_getElem?_getD, gEg hfo]; rfl
  have hne : ∀ i (h : i < N.length), N[i] = x.fr → i = f := fun i h e => by rw [← lowB_at hN h, e, f2]
  unfold nextStep
  rw [f2, hgd, m3]
  by_cases hk : ks x.kd = true
  ·cases hc : out[f].any fun t => decide ((lowB N x.to : Int) = t) with
   | true =>
    rw [if_neg (by simp)]
    refine ⟨ih.len, ih.pw, fun i h h' t => ?_⟩
    rw [ih.mem i h h']
    constructor
    ·rintro ⟨e, he, r⟩; exact ⟨e, by simp [he], r⟩
    ·rintro ⟨e, he, r1, r2, r3⟩
     rcases List.mem_append.1 he with he | he
     ·exact ⟨e, he, r1, r2, r3⟩
     ·rw [List.mem_singleton.1 he] at r1 r2 r3
      have := hne i h' r1.symm
      subst this
      obtain ⟨t', ht, h2⟩ := List.any_eq_true.1 hc
      rw [decide_eq_true_eq] at h2
      rw [r3, h2]
      exact (ih.mem i h h' _).1 ht
   | false =>
    rw [if_pos ⟨hk, rfl⟩]
    refine ⟨by rw [List.length_set]; exact ih.len, fun i h => ?_, fun i h h' t => ?_⟩
    ·rw [List.length_set] at h
     rw [List.getElem_set]
     split
     ·rename_i e
      subst e
      refine List.pairwise_append.2 ⟨ih.pw f h, List.pairwise_singleton _ _, fun t ht t' ht' => ?_⟩
      rw [List.mem_singleton.1 ht']
      obtain ⟨e, he, r1, r2, rfl⟩ := (ih.mem f h hf t).1 ht
      have hlt := p3 e he x (by simp)
      rw [lt_iff, r1, f1] at hlt
      have hle := low_mono hN (hm e (by simp [he])).2.1 m2 (by omega)
      have hnn : ¬ ((lowB N x.to : Int) = (lowB N e.to : Int)) := fun e1 => by
       have := List.any_eq_false.1 hc _ ht
       rw [decide_eq_true_eq] at this; exact this e1
      omega
     ·exact ih.pw i h
    ·rw [List.length_set] at h
     rw [List.getElem_set]
     split
     ·rename_i e
      subst e
      rw [map', ih.mem f h h', msg]
      constructor
      ·rintro (⟨e, he, r⟩ | rfl)
       ·exact ⟨e, by simp [he], r⟩
       ·exact ⟨x, by simp, f1.symm, hk, rfl⟩
      ·rintro ⟨e, he, r1, r2, r3⟩
       rcases List.mem_append.1 he with he | he
       ·exact .inl ⟨e, he, r1, r2, r3⟩
       ·rw [List.mem_singleton.1 he] at r3; exact .inr r3
     ·rename_i hfi
      rw [ih.mem i h h']
      constructor
      ·rintro ⟨e, he, r⟩; exact ⟨e, by simp [he], r⟩
      ·rintro ⟨e, he, r1, r2, r3⟩
       rcases List.mem_append.1 he with he | he
       ·exact ⟨e, he, r1, r2, r3⟩
       ·rw [List.mem_singleton.1 he] at r1
        exact absurd (hne i h' r1.symm).symm hfi
  ·rw [if_neg (fun h => hk h.1)]
   refine ⟨ih.len, ih.pw, fun i h h' t => ?_⟩
   rw [ih.mem i h h']
   constructor
   ·rintro ⟨e, he, r⟩; exact ⟨e, by simp [he], r⟩
   ·rintro ⟨e, he, r1, r2, r3⟩
    rcases List.mem_append.1 he with he | he
    ·exact ⟨e, he, r1, r2, r3⟩
    ·rw [List.mem_singleton.1 he] at r2; exact absurd r2 hk
theorem sel_pw (N : List Int) (P : List Ed) (ks : Int → Bool) (x : Int) (n : Nat) : (selX N P ks x n).Pairwise fun a b => a < b := by
 unfold selX
 exact List.pairwise_map.2 (List.Pairwise.filter _ (List.pairwise_lt_range.imp fun h => by omega))
theorem pw_eq {l m : List Int} (hl : l.Pairwise fun a b => a < b) (hm : m.Pairwise fun a b => a < b) (h : ∀ x, x ∈ l ↔ x ∈ m) : l = m := by
 refine (perm_of_mem (hl.imp fun h => by omega) (hm.imp fun h => by omega) h).eq_of_pairwise ?_ hl hm
 intro a b _ _ h1 h2; omega
theorem next_eq {P : List Ek} {N kinds : List Int} {ks : Int → Bool} (hN : N.Pairwise fun a b => a < b) (hp : (edL P).Pairwise fun a b => a < b) (hm : ∀ e ∈ edL P, e.fr ∈ N ∧ e.to ∈ N ∧ (kinds.any fun k => decide (e.kd = k)) = ks e.kd) : nextR P N kinds = nextX N (edL P) ks := by
 have hI := next_inv hN (edL P) hp hm
 refine List.ext_getElem (by rw [nextX, lmp]; exact hI.len) fun i h1 h2 => ?_
 have h1' : i < N.length := by rw [← hI.len]; exact h1
 simp only [nextX, List.getElem_map]
 refine pw_eq (hI.pw i h1) (sel_pw _ _ _ _ _) fun t => ?_
 refine (hI.mem i h1 h1' t).trans ?_
 rw [selX, mmp]
 constructor
 ·rintro ⟨e, he, r1, r2, rfl⟩
  obtain ⟨j, hj, j1, j2⟩ := at_low hN (hm e he).2.1
  refine ⟨j, List.mem_filter.2 ⟨List.mem_range.2 hj, ?_⟩, by rw [j2]⟩
  rw [getD_at hj, j1, hitX, aet]
  exact ⟨e, he, by rw [hit1, decide_eq_true r1, decide_eq_true rfl, r2]; rfl⟩
 ·rintro ⟨j, hj, rfl⟩
  obtain ⟨hj, hh⟩ := List.mem_filter.1 hj
  have hj := List.mem_range.1 hj
  rw [getD_at hj, hitX, aet] at hh
  obtain ⟨e, he, hh⟩ := hh
  simp only [hit1, Bool.and_eq_true, decide_eq_true_eq] at hh
  exact ⟨e, he, hh.1, hh.2.2, by rw [hh.2.1, lowB_at hN hj]⟩
def c_asked_0 : AC := (.seq (.r [.m 7 6,.a 8 (.bin .lss) 7 3] (.w 8 0)) (.seq (.block 1 (.r [.m 11 6,.b 12 (.idxa 3 1) 3 11,.u 13 (.load false 1) 12] (.cond (.t 13) (.reg [.m 14 5,.m 15 6,.u 16 (.conv .u8) 15,.u 17 (.bslice 1 1 (.int .u8 0) [0]) 16,.b 18 (.append 1 1) 14 17,.m 5 18]) .skip))) (.reg [.m 9 6,.a 10 (.bin .add) 9 1,.m 6 10])))
def c_asked : AC := (.r [.u 3 .box 1,.v 4 (.nilsl)] (.r [.v 5 (.nilsl)] (.seq (.r [.v 6 (.int .i64 0)] (.block 0 (.loop c_asked_0))) (.r [.m 19 0,.m 20 5,.b 21 (.call 31) 19 20,.m 4 21] .ret))))
theorem ok_askede : compF Tryz.prog Tryz.f24 ⟨false, false, []⟩ = some (c_asked, [.tmp 4], 22) := by kernel_rfl
theorem nextG0_c (hP : PE E) (W : AW) {g m lo : Nat} {h kv : V} {ks : List V} (hG : Gr W g m h [] [] lo) (hkv : isS 1 kv ks) :
  ACalls E 31 [.ptr g 0, kv] W fun Y W' => ∃ r, Y = .slr r 0 0 1 ∧ Ex W W' := by
 refine ACalls.of hP Tryz.func31 ok_nexte (by simp) fun _ hok => ?_
 refine awp_start hok ?_
 have hlg := hG.lg
 have hmk : ∀ (W : AW) K, sem E (.makesl 1 24 [.nilsl]) [.int .i64 0, .int .i64 0] W K = K (.slr W.nx 0 0 1) (W.alloc (.vec 1 [])) := fun W K => mk24 (n := 0) (by decide)
 have hln : ∀ (W : AW) K n, sem E (.len 1 n) [h] W K = K (.int .i64 0) W := fun W K n => hG.now.len
 simp (maxSteps:=9^9) (disch:=omega) only [BX, ↓reduceIte, nE, BM, BD, nA, nL, nT, c_next, hkv.cells, hG.hg, hln, hmk]
 refine (edges_c hP _ g).mono ?_
 rintro _ W0 ⟨qe, rfl, hqe, hqn, hE⟩
 have hE0 : Ex W W0 := Ex.x0.trans hE
 have hn0 := hE.nx
 simp only [X_nx, rf, lcs, List.length_nil] at hn0
 have r3 : rf W.nx 3 = W.nx + 3 := rfl
 have w5 : W0.get (rf W.nx 3) = some (.row [.slr (rf W.nx 2) 0 0 1]) := by rw [hE.get _ (by simp [X_nx, rf]), X_get]; rfl
 have hG0 := hG.ex hE0
 have hel : (edL []).length = 0 := Nat.le_zero.1 (edL_le [])
 simp (maxSteps:=9^9) (disch:=omega) only [BS]
 refine range_edges hP (q := qe) (P := []) (N := []) (by simp only [ev_t]; exact if_pos rfl) hqe hqn hE0.cl hG0 (fun i W1 => Cl W1 ∧ W0.nx < W1.nx ∧ Ex W0 W1) ?_ ?_ ?_ ?_
 ·exact fun W1 hE1 hn1 => ⟨hE1.cl, hn1, hE1⟩
 ·exact fun i W1 h => ⟨h.1, h.2.1⟩
 ·intro i hi; omega
 ·rintro W1 ⟨j0, j1, j2⟩ hlp
  have k5 : (W1.put W0.nx (.loop .exhausted none)).get (rf W.nx 3) = some (.row [.slr (rf W.nx 2) 0 0 1]) := by rw [put_ne (by omega), j2.get _ (by omega)]; exact w5
  simp (maxSteps:=9^9) (disch:=omega) only [BZ, ↓reduceIte, nE, BM, k5]
  refine ⟨_, rfl, _, _, .weak weak_id, by rw [put_nx]; omega, rf W.nx 2, rfl, j2.cl.put (by omega), by rw [put_nx]; omega, fun y hy => ?_⟩
  rw [put_ne (by omega), j2.get _ (by omega)]
  exact hE0.get y hy
theorem nextA_c (hP : PE E) (W : AW) {g m lo : Nat} {h kv : V} {P : List Ek} {N kinds : List Int} (hG : Gr W g m h P N lo) (hNs : N.Pairwise fun a b => a < b) (hPN : ∀ x ∈ P, x.1 ∈ N ∧ x.2.1 ∈ N) (hkv : isS 1 kv (u8s kinds)) (hkl : kinds.length < 2 ^ 40) :
  ACalls E 31 [.ptr g 0, kv] W fun Y W' => isLL Y W W' (nextR P N kinds) := by
 by_cases hN : N = []
 ·subst hN
  obtain rfl : P = [] := List.eq_nil_iff_forall_not_mem.2 fun x hx => by have := (hPN x hx).1; cases this
  have hel : edL [] = [] := List.eq_nil_of_length_eq_zero (Nat.le_zero.1 (edL_le []))
  refine (nextG0_c hP W hG hkv).mono ?_
  rintro Y W' h
  exact .inr ⟨by rw [nextR, hel]; rfl, h⟩
 ·refine (nextG_c hP W hG hNs hPN hkv hkl hN).mono ?_
  rintro Y W' ⟨h1, h2⟩
  refine .inl ⟨?_, h1, h2⟩
  have hl : ∀ (l : List Ed) o, (l.foldl (nextStep N kinds) o).length = o.length := by
   intro l
   induction l with
   | nil => intro o; rfl
   | cons x l ih => intro o; rw [List.foldl_cons, ih, nextStep_len]
  rw [ne_eq, ← List.length_eq_zero_iff, nextR, hl, lrp, List.length_eq_zero_iff]
  exact hN
def kindS (kl : List Bool) (n : Nat) : List Int := ((List.range n).filter fun k => kl.getD k false).map fun (k : Nat) => (k : Int)
theorem kinds_succ (kl : List Bool) (n : Nat) : kindS kl (n + 1) = kindS kl n ++ (if kl.getD n false = true then [(n : Int)] else []) := by
 unfold kindS
 rw [List.range_succ, List.filter_append, mpp, List.filter_cons]
 by_cases h : kl.getD n false = true
 ·rw [if_pos h, if_pos h]; rfl
 ·rw [if_neg h, if_neg h]; rfl
theorem kinds_len (kl : List Bool) (n : Nat) : (kindS kl n).length ≤ n := by
 unfold kindS
 rw [lmp]
 exact Nat.le_trans (List.length_filter_le _ _) (by simp)
theorem kinds_any {kl : List Bool} {k : Int} (h0 : 0 ≤ k) (h3 : k < 3) : ((kindS kl 3).any fun x => decide (k = x)) = ksX kl k := by
 rw [Bool.eq_iff_iff, aet, kindS, ksX]
 constructor
 ·rintro ⟨x, hx, h⟩
  obtain ⟨n, hn, rfl⟩ := List.mem_map.1 hx
  rw [decide_eq_true_eq] at h
  rw [show k.toNat = n by omega]
  exact (List.mem_filter.1 hn).2
 ·intro h
  exact ⟨k, List.mem_map.2 ⟨k.toNat, List.mem_filter.2 ⟨List.mem_range.2 (by omega), h⟩, by omega⟩, decide_eq_true rfl⟩
theorem bsK {W : AW} {K : V → AW → Prop} {a : Int} : sem E (.bslice 1 1 (.int .u8 0) [0]) [.int .u8 a] W K = K (.sl 1 true [.int .u8 a]) W := by
 simp [sem, rsem, tsem, fillE, V.cells]
theorem asked_c (hP : PE E) (W : AW) {g m lo : Nat} {h : V} {P : List Ek} {N : List Int} (hG : Gr W g m h P N lo) (hNs : N.Pairwise fun a b => a < b) (hPN : ∀ x ∈ P, x.1 ∈ N ∧ x.2.1 ∈ N) {k0 k1 k2 : Bool} :
  ACalls E 24 [.ptr g 0, .agg [.bool k0, .bool k1, .bool k2]] W fun Y W' => isLL Y W W' (nextR P N (kindS [k0, k1, k2] 3)) := by
 refine ACalls.of hP Tryz.func24 ok_askede (by simp) fun _ hok => ?_
 refine awp_start hok ?_
 simp (maxSteps:=9^9) (disch:=omega) only [BZ, BM, BD, c_asked]
 have r0 : rf W.nx 0 = W.nx := rfl
 obtain ⟨W0, hW0⟩ : ∃ W0, W0 = X W W.nx [.row [.bool k0, .bool k1, .bool k2]] := ⟨_, rfl⟩
 rw [← hW0]
 have hE0 : Ex W W0 := by rw [hW0]; exact .x0
 have hn0 : W0.nx = W.nx + 1 := by rw [hW0]; rfl
 have k5 : W0.get (rf W.nx 0) = some (.row ([k0, k1, k2].map V.bool)) := by rw [hW0, X_get]; rfl
 clear hW0
 obtain ⟨kl, hkl⟩ : ∃ kl, kl = [k0, k1, k2] := ⟨_, rfl⟩
 rw [← hkl] at k5 ⊢
 have hkl3 : kl.length = 3 := by rw [hkl]; rfl
 clear hkl
 rw [e_loop]
 refine alp (fun (i : Nat) A1 W1 => A1 0 = some (.ptr g 0) ∧ A1 3 = some (.ptr (rf W.nx 0) 0) ∧ A1 6 = some (.int .i64 i) ∧ i ≤ 3 ∧ Cl W1 ∧ W0.nx ≤ W1.nx ∧ (∀ x, x < W0.nx → W1.get x = W0.get x) ∧ ∃ hh, A1 5 = some hh ∧ nowG W1 hh (u8s (kindS kl i)) 1 W0.nx) (fun i => 3 - i) 0
  ⟨rfl, rfl, rfl, by omega, hE0.cl, lr _, fun x _ => rfl, .nilsl, rfl, .inl ⟨rfl, rfl⟩⟩ ?_
 rintro i A1 W1 ⟨g0, g3, g6, gi, gC, gn, gW, hh, g5, gh⟩ _
 have hE1 : Ex W W1 := hE0.trans ⟨gC, gn, gW⟩
 by_cases hi : i < 3
 ·have hi3 : decide ((i : Int) < 3) = true := decide_eq_true (by omega)
  have hsu := kinds_succ kl i
  have hkn := kinds_len kl i
  have hu : IntKind.u8.wrap (i : Int) = i := IntWalk.u8_in _ (by omega)
  have hix : ∀ K, sem E (.idxa 3 1) [.ptr (rf W.nx 0) 0, .int .i64 (i : Int)] W1 K = K (.ptr (rf W.nx 0) i) W1 := fun K => by
   rw [m_idxa, if_pos (by omega)]; simp
  have hki : i < kl.length := by omega
  have hld : ∀ K, sem E (.load false 1) [.ptr (rf W.nx 0) i] W1 K = K (.bool (kl.getD i false)) W1 := fun K => by
   rw [m_load, gW _ (by omega), k5, List.getD_eq_getElem?_getD, gEg hki]
   simp [loadK, partV, hki, optK_some]
  cases hk : kl.getD i false with
  | false =>
   rw [hk] at hsu hld
   rw [if_neg (by decide), apn] at hsu
   simp (maxSteps:=9^9) (disch:=omega) only [BX, ↓reduceIte, nE, reduceCtorEq, c_asked_0, g0, g3, g5, g6, hi3, hix, hld, wadd1]
   exact ⟨i + 1, ⟨tt, tt, tt, hi, gC, gn, gW, hh, rfl, by rw [hsu]; exact gh⟩, by omega, gn⟩
  | true =>
   rw [hk] at hsu hld
   rw [if_pos rfl] at hsu
   simp (maxSteps:=9^9) (disch:=omega) only [BS, e_seq, cond_if, ↓reduceIte, nE, c_asked_0, g3, g5, g6, hi3, hix, hld, hu, bsK]
   refine app_now (lo := W0.nx) gh gC gn (by omega) rfl (by rw [u8s, lmp]; omega) ?_
   intro h' W' gh' gC' gx gk1 gk2
   simp (maxSteps:=9^9) (disch:=omega) only [BS, ↓reduceIte, nE, reduceCtorEq, g0, g3, g6, wadd1]
   refine ⟨i + 1, ⟨tt, tt, tt, hi, gC', by omega, fun x hx => (gk2 x hx).trans (gW x hx), h', rfl, ?_⟩, by omega, by omega⟩
   rw [hsu, u8s, mpp]
   exact gh'
 ·obtain rfl : i = 3 := by omega
  simp (maxSteps:=9^9) (disch:=omega) only [BX, ↓reduceIte, nE, reduceCtorEq, c_asked_0, g0, g5, g6, show decide (((3 : Nat) : Int) < 3) = false by decide, gh.frz]
  refine (nextA_c hP _ (hG.ex hE1) hNs hPN (nowGS_S 1 _) (by have := kinds_len kl 3; omega)).mono ?_
  rintro Y W2 hY
  rcases hY with ⟨h1, rfl, rfl⟩ | ⟨h1, r, rfl, hE⟩
  ·simp (maxSteps:=9^9) (disch:=omega) only [BS, BC, ↓reduceIte]
   refine ⟨_, rfl, _, W, .weak ?_, lr _, .inl ⟨h1, rfl, rfl⟩⟩
   exact weak_back hok (ll_bel _ _) fun y hy => hE1.get y hy
  ·simp (maxSteps:=9^9) (disch:=omega) only [BS, BC, ↓reduceIte]
   refine ⟨_, rfl, _, _, .weak weak_id, by have := hE.nx; have := hE1.nx; omega, .inr ⟨h1, r, rfl, hE1.trans hE⟩⟩
end Go.AL.S
