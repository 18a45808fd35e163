/- What the program's functions do, part 3. Conditions: none. -/
import Derived.Test.YtfncnpcoekinjaaGreatDoorBb
import Derived.OpenShut
import Derived.ChangeArms
import Derived.ReadAgain
open Nat renaming reduceEqDiff → nE, reduceLeDiff → nL, reduceAdd → nA, reduceLT → nT, le_refl → lr
open List renaming getElem?_eq_getElem → gEg, length_map → lmp, getElem_mem → gmm, length_append → lap, length_cons → lcs, mem_singleton → msg, append_nil → apn, mem_append → map', take_length → tkl, map_cons → mcs, map_append → mpp, mem_map → mmp, any_eq_true → aet, length_replicate → lrp, take_add_one → tao, length_take → ltk, mem_filter → mfl
set_option maxRecDepth 100000
set_option maxHeartbeats 2000000
namespace Go.AL.S
open Go Go.AL Go.Proofs
def c_alive : AC := (.r [.u 1 .box 0,.v 2 (.bool false)] (.r [.u 3 (.fld 4) 1,.u 4 (.load false 1) 3,.p 5 (.bin .neq) [.t 4,.c (.int .u8 2)],.m 2 5] .ret))
theorem X5 : compF Tryz.prog Tryz.f77 ⟨false, false, []⟩ = some (c_alive, [.tmp 2], 6) := by kernel_rfl
def c_reads_0 : AC := (.r [.b 12 (.bin .lss) 11 10] (.seq (.w 12 0) (.seq (.block 1 (.r [.b 13 (.idxp 3) 9 11,.u 14 (.load true 3) 13,.p 4 (.alloc [.bool false,.int .u8 0,.int .u16 0]) [],⟨none,.store 3, [.t 4,.t 14], none⟩] (.r [.u 15 (.fld 0) 4,.u 16 (.load false 1) 15,.m 17 16,.M 18 2 17 true,.U 19 (.len 1 0) 18 17 true,.U 20 (.fld 3) 1 17 true,.U 21 (.load false 1) 20 17 true,.U 22 (.len 1 0) 21 17 true,.B 23 (.bin .lss) 19 22 17 true,.p 24 .pick [.t 17,.t 23,.F]] (.cond (.t 24) (.par (.step 0 (.m 25 2) (.step 1 (.u 26 (.fld 1) 4) (.step 3 (.u 28 (.fld 3) 1) (.step 5 (.m 30 2) (.step 2 (.u 27 (.load false 1) 26) (.step 4 (.u 29 (.load false 1) 28) (.step 6 (.u 31 (.len 1 0) 30) (.step 7 (.b 32 (.idxp 1) 29 31) (.step 8 (.u 33 (.load false 1) 32) (.step 9 (.u 34 (.pcall 47) 33) (.step 10 (.b 35 (.build [.int .u8 0,.nilsl] [(0, 1), (1, 1)]) 27 34) (.step 11 (.u 36 (.bslice 2 1 (.agg [.int .u8 0,.nilsl]) [0]) 35) (.step 12 (.b 37 (.append 2 32) 25 36) (.step 13 (.m 2 37) .done))))))))))))))) .skip)))) (.reg [.a 38 (.bin .add) 11 1,.m 11 38]))))
def c_reads : AC := (.r [.u 1 .box 0,.v 2 (.nilsl)] (.seq (.r [.u 5 (.fld 4) 1,.u 6 (.load false 1) 5,.p 7 (.bin .neq) [.t 6,.c (.int .u8 1)]] (.cond (.t 7) (.r [.v 2 (.nilsl)] .ret) .skip)) (.seq (.r [.u 8 (.fld 2) 1,.u 9 (.load false 1) 8,.u 10 (.len 1 0) 9,.v 11 (.int .i64 0)] (.block 0 (.loop c_reads_0))) (.r [.m 39 2,.m 2 39] .ret))))
theorem Xn : compF Tryz.prog Tryz.f36 ⟨false, false, []⟩ = some (c_reads, [.tmp 2], 40) := by kernel_rfl
variable {E : Env}
theorem Wm (hP : PE E) (W : AW) (t : Tx) : ACalls E 77 [t.V] W fun Y W' => Y = .bool (decide (t.st ≠ 2)) ∧ W' = W := by
 refine ACalls.of hP Tryz.func77 X5 (by simp) fun _ hok => ?_
 refine Ae hok ?_
 simp only [c_alive, BZ, ↓reduceIte, nE, BM, BD, Tx.V, Dq]
 exact ⟨_, rfl, _, W, Aw hok rfl, lr _, rfl, rfl⟩
def nowG (W : AW) (h : V) (xs : List V) (s lo : Nat) : Prop := (h = .nilsl ∧ xs = []) ∨ ∃ r, lo ≤ r ∧ r < W.nx ∧ h = .buf true r s xs.length ∧ xs ≠ [] ∧ W.get r = some (.buf true s xs)
def nowGS (s : Nat) (xs : List V) : V := if xs = [] then .nilsl else .sl s false xs
theorem Dz (s : Nat) (xs : List V) : isS s (nowGS s xs) xs := by
 unfold nowGS
 split
 ·rename_i h; subst h; exact .nil
 ·exact .mk
theorem nowG.frz {W : AW} {h : V} {xs : List V} {s lo : Nat} (hn : nowG W h xs s lo) : W.frz h = nowGS s xs := by
 rcases hn with ⟨rfl, rfl⟩ | ⟨r, _, _, rfl, hne, hg⟩
 ·rfl
 ·have he : xs.isEmpty = false := by cases xs <;> simp_all
  simp [AW.frz, hg, nowGS, hne]
theorem nowG.len {W W1 : AW} {K : V → AW → Prop} {h : V} {xs : List V} {s lo n : Nat} (hn : nowG W h xs s lo) : sem E (.len 1 n) [h] W1 K = K (.int .i64 xs.length) W1 := by
 rcases hn with ⟨rfl, rfl⟩ | ⟨r, _, _, rfl, hne, hg⟩ <;> rfl
theorem nowG.to {W W' : AW} {h : V} {xs : List V} {s lo : Nat} (hn : nowG W h xs s lo) (hx : W.nx ≤ W'.nx) (hg : ∀ r, lo ≤ r → r < W.nx → (∃ ys, W.get r = some (.buf true s ys)) → W'.get r = W.get r) : nowG W' h xs s lo := by
 rcases hn with ⟨rfl, rfl⟩ | ⟨r, h1, h2, h3, h4, h5⟩
 ·exact .inl ⟨rfl, rfl⟩
 ·exact .inr ⟨r, h1, by omega, h3, h4, by rw [hg r h1 h2 ⟨_, h5⟩]; exact h5⟩
theorem Ph {W : AW} {K : V → AW → Prop} {h x : V} {xs : List V} {s lo by' : Nat} (hn : nowG W h xs s lo) (hC : Cl W) (hlo : lo ≤ W.nx) (hs : 0 < s) (hx : x.cells.all V.one = true) (hb : (xs.length + 1) * by' ≤ 2 ^ 46)
  (hK : ∀ h' W', nowG W' h' (xs ++ [x]) s lo → Cl W' → W.nx ≤ W'.nx → (∀ y, y < W.nx → (∀ ys, W.get y ≠ some (.buf true s ys)) → W'.get y = W.get y) → (∀ y, y < lo → W'.get y = W.get y) → K h' W') : sem E (.append s by') [h, .sl s true [x]] W K := by
 rcases hn with ⟨rfl, rfl⟩ | ⟨r, h1, h2, rfl, h4, h5⟩
 ·have e : sem E (.append s by') [.nilsl, .sl s true [x]] W K = K (.buf true W.nx s 1) (W.alloc (.buf true s [x])) := by
   simp [sem, elemsV, hs]
   intro; simp at hb; omega
  rw [e]
  refine hK _ _ (.inr ⟨W.nx, hlo, by rw [Ad]; omega, rfl, by simp, Ay⟩) ?_ (by rw [Ad]; omega) (fun y hy _ => Ak hy) (fun y hy => Ak (by omega))
  intro y hy
  rw [Ad] at hy
  rw [Ci, if_neg (by omega)]
  exact hC y (by omega)
 ·have e : sem E (.append s by') [.buf true r s xs.length, .sl s true [x]] W K = K (.buf true r s (xs.length + 1)) (W.put r (.buf true s (xs ++ [x]))) := by
   simp only [sem, elemsV, if_true, h5, lcs, List.length_nil, Nat.zero_add, List.all_cons, List.all_nil, Bool.and_true, hx]
   exact propext ⟨fun h => h.2.2.2.2.2.2.2, fun h => ⟨hs, tt, tt, tt, tt, hb, tt, h⟩⟩
  rw [e]
  refine hK _ _ (.inr ⟨r, h1, by rw [Af]; exact h2, by simp, by simp, put_at⟩) (hC.put h2) (by rw [Af]; omega) (fun y hy hne => put_ne ?_) (fun y hy => put_ne (by omega))
  rintro rfl; exact hne _ h5
def rdV (r : Int × Option (List Int)) : V := .agg [.int .u8 r.1, elV r.2]
def rkeys (l : List Mi) : List Int := (l.filter (·.read)).map (·.key)
def readsR (t : Tx) : List (Int × Option (List Int)) := if t.st ≠ 1 then [] else (rkeys t.ms).zip t.ls
theorem R7 {l : List Mi} {k : Nat} (h : k < l.length) : rkeys (l.take (k + 1)) = rkeys (l.take k) ++ (if l[k].read = true then [l[k].key] else []) := by
 rw [tao, gEg h]
 simp only [rkeys, Option.toList_some, List.filter_append, mpp]
 cases hr : l[k].read <;> simp [hr]
theorem Xe (l : List Mi) : (rkeys l).length ≤ l.length := by simp only [rkeys, lmp]; exact List.length_filter_le _ _
theorem Pj {α β : Type} : ∀ {l : List α} {a : α} {m : List β} (_ : (l.zip m).length < m.length) (h : l.length < m.length), (l ++ [a]).zip m = l.zip m ++ [(a, m[l.length])]
 | [], a, b :: m, _, _ => by simp
 | x :: l, a, [], h, _ => by simp at h
 | x :: l, a, b :: m, h, h' => by
  have := Pj (l := l) (a := a) (m := m) (by simpa using h) (by simpa using h')
  simpa using this
theorem Pk {α β : Type} : ∀ {l : List α} {a : α} {m : List β}, m.length ≤ l.length → (l ++ [a]).zip m = l.zip m
 | _, _, [], _ => by simp
 | [], _, _ :: _, h => by simp at h
 | x :: l, a, b :: m, h => by
  have := Pk (l := l) (a := a) (m := m) (by simpa using h)
  simpa using this
theorem Nh (o : Option (List Int)) : (elV o).cells = [elV o] := (Dn o).isS.cells
theorem elV_one (o : Option (List Int)) : (elV o).one = true := (Dn o).isS.one
theorem Yo (o : Option (List Int)) : cloneV 1 (elV o) = elV o := by
 cases o with
 | none => rfl
 | some l => cases l <;> rfl
theorem bs2 {W : AW} {K : V → AW → Prop} {r : Int × Option (List Int)} : sem E (.bslice 2 1 (.agg [.int .u8 0, .nilsl]) [0]) [.agg [.int .u8 r.1, elV r.2]] W K = K (.sl 2 true [rdV r]) W := by
 simp [sem, rsem, tsem, fillE, V.cells, rdV]
theorem bs2' {W : AW} {K : V → AW → Prop} {a : Int} {o : Option (List Int)} : sem E (.bslice 2 1 (.agg [.int .u8 0, .nilsl]) [0]) [.agg [.int .u8 a, elV o]] W K = K (.sl 2 true [rdV (a, o)]) W := bs2 (r := (a, o))
theorem Z0 (r : Int × Option (List Int)) : (rdV r).cells.all V.one = true := by
 simp only [rdV, Je, List.all_cons, List.all_nil, Oa, elV_one, Bool.and_true]
theorem bel_rd (l : List (Int × Option (List Int))) (n : Nat) : V.belL n (l.map rdV) = true := by
 induction l with
 | nil => rfl
 | cons x l ih =>
  simp only [mcs, V.belL, Bool.and_eq_true]
  refine ⟨?_, ih⟩
  simp only [rdV, V.bel, V.belL, V9, Bool.and_true]
theorem elV_frz {W : AW} (o : Option (List Int)) : W.frz (elV o) = elV o := by
 cases o with
 | none => rfl
 | some l => cases l <;> rfl
theorem C2 {W : AW} {K : V → AW → Prop} {f : FuncId} {vs ws : List V} {v : V} (hw : vs.map W.frz = ws) (h : ACalls E f ws W (fun X W' => X = v ∧ W' = W)) (hk : K v W) : sem E (.pcall f) vs W K := by
 subst hw; exact ⟨v, h, hk⟩
theorem Us (hP : PE E) (W : AW) {t : Tx} (ht : t.ok) : ACalls E 36 [t.V] W fun Y W' => Y = nowGS 2 ((readsR t).map rdV) ∧ W' = W := by
 refine ACalls.of hP Tryz.func36 Xn (by simp) fun _ hok => ?_
 refine Ae hok ?_
 by_cases hst : t.st = 1
 ·have hms := Dj t.ms
  have hls : isS 1 (lsV t.ls) (t.ls.map elV) := by
   unfold lsV
   split
   ·rename_i h; rw [h]; exact .nil
   ·exact .mk
  have hml := ht.msl
  have hll := ht.lsl
  simp (disch:=omega) only [c_reads, BX, ↓reduceIte, nE, BM, BD, Tx.V, Dq, hst, show decide ((1 : Int) ≠ 1) = false by decide, hms.len, lmp]
  rw [Ai]
  refine alp (fun (k : Nat) A1 W1 => A1 1 = some (.ptr (rf W.nx 0) 0) ∧ A1 9 = some (msV t.ms) ∧ A1 10 = some (.int .i64 t.ms.length) ∧ A1 11 = some (.int .i64 k) ∧ k ≤ t.ms.length ∧ Cl W1 ∧ W.nx < W1.nx ∧ (∀ x, x < W.nx → W1.get x = W.get x) ∧ W1.get (rf W.nx 0) = some (.row [.int .u16 t.id, .int .u8 t.client, msV t.ms, lsV t.ls, .int .u8 1]) ∧
   ∃ h, A1 2 = some h ∧ nowG W1 h (((rkeys (t.ms.take k)).zip t.ls).map rdV) 2 (W.nx + 1)) (fun k => t.ms.length - k) 0
   ⟨rfl, rfl, rfl, rfl, Nat.zero_le _, Cl.X, by simp [X], fun x hx => Ag hx, by rw [Ap]; rfl, .nilsl, rfl, .inl ⟨rfl, rfl⟩⟩ ?_
  rintro k A1 W1 ⟨g1, g9, g10, g11, gk, gC, gn, gW, gr, h, g2, gh⟩ _
  have r0 : rf W.nx 0 = W.nx + 0 := rfl
  by_cases hk1 : k < t.ms.length
  ·have hrt := R7 hk1
   have hrl := Xe (t.ms.take k)
   have hrl' : (t.ms.take k).length ≤ k := by simp; omega
   have hzl : (((rkeys (t.ms.take k)).zip t.ls).map rdV).length = min (rkeys (t.ms.take k)).length t.ls.length := by simp
   refine Au gC ?_
   cases hm : (t.ms[k]).read with
   | false =>
    simp (disch:=omega) only [c_reads_0, BX, ↓reduceIte, nE, BM, BD, nA, nL, nT, g9, g10, g11, clt, hk1, dT, hms.idx (Ey hk1), Mi.V, hm]
    simp (disch:=omega) only [BS, BC, Aa, ↓reduceIte, nE, BM]
    simp (disch:=omega) only [BS, BC, Ac, ↓reduceIte, nE, BM, BD, g1, g2, g9, g10, g11, Ah]
    rw [hm, if_neg (by simp), apn] at hrt
    refine ⟨k + 1, ⟨tt, tt, tt, by simp, by omega, Cl.X, by show W.nx < W1.nx + 1; omega, fun x hx => (Ag (by omega)).trans (gW x hx), gr, h, rfl, ?_⟩, by omega, by show W.nx + 1 ≤ W1.nx + 1; omega⟩
    rw [hrt]
    exact gh.to (by show W1.nx ≤ W1.nx + 1; omega) (fun r _ hr _ => Ag hr)
   | true =>
    simp (disch:=omega) only [c_reads_0, BX, ↓reduceIte, nE, BM, BD, nA, nL, nT, g9, g10, g11, clt, hk1, dT, hms.idx (Ey hk1), Mi.V, hm]
    simp (disch:=omega) only [BS, BC, Aa, ↓reduceIte, nE, BM, BD, g1, g2, gr, gh.len, hls.len, clt, lmp]
    by_cases hlt : ((rkeys (t.ms.take k)).zip t.ls).length < t.ls.length
    ·simp (disch:=omega) only [BS, BC, Ac, ↓reduceIte, nE, BM, BD, g1, g2, gr, gh.len, lmp, hlt, dT]
     have hat : (t.ls.map elV)[((rkeys (t.ms.take k)).zip t.ls).length]? = some (elV t.ls[((rkeys (t.ms.take k)).zip t.ls).length]) := by rw [List.getElem?_map, gEg hlt]; rfl
     have ho := gmm hlt
     generalize hoe : t.ls[((rkeys (t.ms.take k)).zip t.ls).length] = o at hat ho
     simp (disch:=omega) only [BS, ↓reduceIte, BM, hls.idx hat, Nh]
     have hox : (nums o).length ≤ 32 := (ht.ls o ho).1
     have hzs := Pj (a := (t.ms[k]).key) hlt (by have := hlt; simp only [List.length_zip] at this; omega)
     refine C2 (v := elV o) (by rw [mcs, List.map_nil, elV_frz]) ?_ ?_
     ·have := Dw hP (X W1 W1.nx [.row [.bool true, .int .u8 t.ms[k].key, .int .u16 t.ms[k].v]]) (elV o) _ (Dn o).isS (Df _ _) (by rw [Al]; omega)
      rw [Yo] at this
      exact this
     simp (disch:=omega) only [BS, ↓reduceIte, nE, BM, BD, nA, nL, Nh, bs2']
     have hlen : ((rkeys (t.ms.take k)).zip t.ls).length = (rkeys (t.ms.take k)).length := by have := hlt; simp only [List.length_zip] at this ⊢; omega
     have hoo : t.ls[(rkeys (t.ms.take k)).length]'(by omega) = o := by rw [← hoe]; congr 1; exact hlen.symm
     rw [hoo] at hzs
     rw [hm, if_pos rfl] at hrt
     refine Ph (lo := W.nx + 1) (gh.to (by show W1.nx ≤ W1.nx + 1; omega) (fun r _ hr _ => Ag hr)) Cl.X (by show W.nx + 1 ≤ W1.nx + 1; omega) (by omega) (Z0 _) (by rw [lmp, hlen]; omega) ?_
     intro h' W' gh' gC' gx gk1 gk2
     simp (disch:=omega) only [BS, ↓reduceIte, nE, g1, g9, g10, g11, Ah]
     have gx' : W1.nx + 1 ≤ W'.nx := gx
     refine ⟨k + 1, ⟨tt, tt, tt, by simp, by omega, gC', by omega, fun x hx => (gk2 x (by omega)).trans ((Ag (by omega)).trans (gW x hx)), (gk2 _ (by omega)).trans ((Ag (by omega)).trans gr), h', rfl, ?_⟩, by omega, by show W.nx + 1 ≤ W'.nx; omega⟩
     rw [hrt, hzs, mpp]
     exact gh'
    ·simp (disch:=omega) only [BS, BC, Ac, ↓reduceIte, nE, BM, BD, g1, g2, g9, g10, g11, hlt, dF, Ah]
     rw [hm, if_pos rfl] at hrt
     have hov : ((rkeys (t.ms.take k)) ++ [(t.ms[k]).key]).zip t.ls = (rkeys (t.ms.take k)).zip t.ls := Pk (by simp at hlt; omega)
     refine ⟨k + 1, ⟨tt, tt, tt, by simp, by omega, Cl.X, by show W.nx < W1.nx + 1; omega, fun x hx => (Ag (by omega)).trans (gW x hx), gr, h, rfl, ?_⟩, by omega, by show W.nx + 1 ≤ W1.nx + 1; omega⟩
     rw [hrt, hov]
     exact gh.to (by show W1.nx ≤ W1.nx + 1; omega) (fun r _ hr _ => Ag hr)
  ·simp (disch:=omega) only [c_reads_0, BX, ↓reduceIte, nE, BM, BD, g2, g10, g11, clt, hk1, dF]
   have hke : k = t.ms.length := by omega
   subst hke
   rw [tkl] at gh
   rw [gh.frz]
   refine ⟨_, rfl, _, W, .weak (Aj hok ?_ gW), lr _, by simp only [readsR, hst]; rfl, rfl⟩
   unfold nowGS
   split
   ·rfl
   ·exact bel_rd _ _
 ·simp (disch:=omega) only [c_reads, BX, ↓reduceIte, nE, BM, BD, Tx.V, Dq, show decide (t.st ≠ 1) = true by simp [hst]]
  exact ⟨_, rfl, _, W, Aw hok rfl, lr _, by simp [readsR, hst, nowGS], rfl⟩
def c_writer : AC := (.r [.u 3 .box 0,.v 6 (.int .u16 0),.v 7 (.bool false)] (.r [.u 11 (.fld 0) 3,.u 12 (.load false 1) 11,.m 13 1,.m 14 2,.p 15 (.call 105) [.t 12,.t 13,.t 14],.m 10 15,.u 16 (.ext 0) 10,.u 17 (.ext 1) 10,.p 8 (.alloc [.int .u16 0,.int .u8 0,.nilsl,.nilsl,.int .u8 0]) [],⟨none,.store 5, [.t 8,.t 16], none⟩,.m 9 17] (.seq (.par (.step 0 (.u 18 (.fld 0) 8) (.step 2 (.m 20 9) (.step 3 (.m 21 20) (.step 1 (.u 19 (.load false 1) 18) (.step 4 (.U 22 (.load true 5) 8 21 true) (.step 5 (.U 23 (.pcall 77) 22 21 true) (.step 6 (.p 24 .pick [.t 21,.t 23,.F]) (.step 7 (.m 6 19) (.step 8 (.m 7 24) .done)))))))))) .ret)))
theorem Sb : compF Tryz.prog Tryz.f99 ⟨false, false, []⟩ = some (c_writer, [.tmp 6, .tmp 7], 25) := by kernel_rfl
def c_edge : AC := (.r [.u 4 .box 0] (.r [.m 8 1,.m 9 2,.b 10 (.bin .neq) 8 9] (.cond (.t 10) (.par (.step 0 (.u 11 (.fld 2) 4) (.step 5 (.m 16 1) (.step 6 (.m 17 2) (.step 7 (.m 18 3) (.step 8 (.p 19 (.build [.int .u16 0,.int .u16 0,.int .u8 0] [(0, 1), (1, 1), (2, 1)]) [.t 16,.t 17,.t 18]) (.step 1 (.u 12 (.load false 1) 11) (.step 2 (.u 13 .nilck 12) (.step 3 (.u 14 (.fld 1) 13) (.step 4 (.u 15 (.load false 1) 14) (.alt (.step 9 (.b 20 (.lookup (true, [.i .u16,.i .u16,.i .u8]) (.int .i64 0) false) 15 19) (.step 10 (.a 21 (.bin .add) 20 1) (.step 11 (.b 22 (.ment (true, [.i .u16,.i .u16,.i .u8]) (.int .i64 0)) 15 19) (.step 12 (.u 23 (.ext 1) 22) (.step 13 ⟨none,.mest, [.t 15,.t 23,.t 21], none⟩ .done))))) (.step 11 (.b 22 (.ment (true, [.i .u16,.i .u16,.i .u8]) (.int .i64 0)) 15 19) (.step 12 (.u 23 (.ext 1) 22) (.step 9 (.b 20 (.lookup (true, [.i .u16,.i .u16,.i .u8]) (.int .i64 0) false) 15 19) (.step 10 (.a 21 (.bin .add) 20 1) (.step 13 ⟨none,.mest, [.t 15,.t 23,.t 21], none⟩ .done)))))))))))))))) .skip)))
theorem Xap : compF Tryz.prog Tryz.f100 ⟨false, false, []⟩ = some (c_edge, [], 24) := by kernel_rfl
def bV (p o g : Nat) : V := .agg [.ptr p 0, .ptr o 0, .ptr g 0]
def wrR (s : Str) (k v : Int) : Int × Bool := match who s k v with
 | some t => (t.id, decide (t.st ≠ 2))
 | none => (0, false)
theorem Ht (hP : PE E) (W : AW) {p ra rw o g : Nat} {s : Str} (h : St W p ra rw s) (k v : Int) (h0 : 0 ≤ k) (h1 : k < 256) (h2 : 0 ≤ v) (h3 : v < 65536) :
  ACalls E 99 [bV p o g, .int .u8 k, .int .u16 v] W fun Y W' => Y = .tuple [.int .u16 (wrR s k v).1, .bool (wrR s k v).2] ∧ W' = W := by
 refine ACalls.of hP Tryz.func99 Sb (by simp [bV]) fun _ hok => ?_
 refine Ae hok ?_
 simp only [c_writer, BZ, ↓reduceIte, nE, BM, BD, bV]
 refine pc (who_c hP _ (h.ex .x0) k v h0 h1 h2 h3) ?_
 cases hw : who s k v with
 | none =>
  simp only [BZ, Aa, ↓reduceIte, nE, BM, BD, nA, nL, nT, Ce, Ca, Option.isSome_none, Option.getD_none, Tx.V, Tx.zero]
  exact ⟨_, rfl, _, W, Aw hok rfl, lr _, by simp [wrR, hw], rfl⟩
 | some t =>
  have ht := h.ok.ok t (Hu hw).1
  simp only [BZ, Aa, ↓reduceIte, nE, BM, BD, Oh, nA, nL, nT, Ce, Ca, Option.isSome_some, Option.getD_some, Tx.V]
  refine ⟨.bool (decide (t.st ≠ 2)), Wm hP _ t, ?_⟩
  simp only [BS]
  exact ⟨_, rfl, _, W, Aw hok rfl, lr _, by simp [wrR, hw], rfl⟩
theorem S1 {E : Env} {W : AW} {K : V → AW → Prop} {sh : Bool × List SK} {z key : V} {r c : Nat} {es : List En} {e : En} (h : W.get r = some (.map es c)) (hk : keysOk sh key es) (hf : findK key es = some e) :
  sem E (.ment sh z) [.map r, key] W K = K (.tuple [e.2.1, .int .i64 e.2.2]) W := by
 simp only [sem, h, hf]
 exact propext ⟨fun h => h.2, fun h => ⟨hk, h⟩⟩
theorem S2 {E : Env} {W : AW} {K : V → AW → Prop} {sh : Bool × List SK} {z key : V} {r c : Nat} {es : List En} (h : W.get r = some (.map es c)) (hk : keysOk sh key es) (hf : findK key es = none) :
  sem E (.ment sh z) [.map r, key] W K = K (.tuple [z, .int .i64 c]) (W.put r (.map (es ++ [(key, z, c)]) (c + 1))) := by
 simp only [sem, h, hf]
 exact propext ⟨fun h => h.2, fun h => ⟨hk, h⟩⟩
theorem Xbl {E : Env} {W : AW} {K : V → AW → Prop} {r c n : Nat} {ik : IntKind} {x : V} {es es' : List En} (h : W.get r = some (.map es c)) (hs : setS n x es = some es') :
  sem E .mest [.map r, .int ik n, x] W K = K .undef (W.put r (.map es' c)) := by
 simp only [sem, h, Int.toNat_natCast, hs]
 exact propext ⟨fun h => h.2, fun h => ⟨by omega, h⟩⟩
abbrev Ek := Int × Int × Int
def ekV (e : Ek) : V := .agg [.int .u16 e.1, .int .u16 e.2.1, .int .u8 e.2.2]
def gFrom : Nat → List (Ek × Int) → List En
 | _, [] => []
 | n, x :: l => (ekV x.1, .int .i64 x.2, n) :: gFrom (n + 1) l
def getE (l : List (Ek × Int)) (k : Ek) : Option Int := (l.find? fun x => decide (x.1 = k)).map (·.2)
def setE (l : List (Ek × Int)) (k : Ek) (c : Int) : List (Ek × Int) := match l with
 | [] => []
 | x :: l => if x.1 = k then (k, c) :: l else x :: setE l k c
theorem Tc (l : List (Ek × Int)) (x : Ek × Int) : ∀ n, gFrom n (l ++ [x]) = gFrom n l ++ [(ekV x.1, .int .i64 x.2, n + l.length)] := by
 induction l with
 | nil => intro n; rfl
 | cons y l ih => intro n; simp only [List.cons_append, gFrom, ih, lcs]; rw [show n + 1 + l.length = n + (l.length + 1) by omega]
theorem Wa (a b : Ek) : (ekV a).keq (ekV b) = decide (b = a) := by
 obtain ⟨a1, a2, a3⟩ := a
 obtain ⟨b1, b2, b3⟩ := b
 rw [Bool.eq_iff_iff]
 simp only [ekV, V.keq, V.cells, V.eqs, V.eq1, Bool.and_true, Ff, Bool.and_eq_true, decide_eq_true_eq, Prod.mk.injEq]
 constructor <;> (rintro ⟨h1, h2, h3⟩; exact ⟨h1.symm, h2.symm, h3.symm⟩)
theorem Ox (k : Ek) (l : List (Ek × Int)) : ∀ n, match getE l k with
  | some c => ∃ i, findK (ekV k) (gFrom n l) = some (ekV k, .int .i64 c, i) ∧ ∀ c', setS i (.int .i64 c') (gFrom n l) = some (gFrom n (setE l k c'))
  | none => findK (ekV k) (gFrom n l) = none := by
 have hi : ∀ (l : List (Ek × Int)) n i (v : V), i < n → setS i v (gFrom n l) = none := by
  intro l
  induction l with
  | nil => intro _ _ _ _; rfl
  | cons x l ih => intro n i v h; simp only [gFrom, setS]; rw [if_neg (by omega), ih _ _ _ (by omega)]; rfl
 have hge : ∀ (l : List (Ek × Int)) n e, findK (ekV k) (gFrom n l) = some e → n ≤ e.2.2 := by
  intro l
  induction l with
  | nil => intro _ _ h; cases h
  | cons x l ih =>
   intro n e h
   simp only [gFrom, findK] at h
   split at h
   ·cases h; exact lr _
   ·have := ih _ _ h; omega
 induction l with
 | nil => intro n; rfl
 | cons x l ih =>
  intro n
  by_cases hx : x.1 = k
  ·have : getE (x :: l) k = some x.2 := by simp [getE, hx]
   rw [this]
   refine ⟨n, ?_, fun c' => ?_⟩
   ·simp only [gFrom, findK, Wa, hx, dT, if_true]
   ·simp only [gFrom, setS, setE, hx, if_true]
  ·have : getE (x :: l) k = getE l k := by simp [getE, hx]
   rw [this]
   have h1 := ih (n + 1)
   have hf : findK (ekV k) (gFrom n (x :: l)) = findK (ekV k) (gFrom (n + 1) l) := by simp only [gFrom, findK, Wa, hx, dF, Bool.false_eq_true, if_false]
   rw [hf]
   cases hg : getE l k with
   | none => rw [hg] at h1; exact h1
   | some c =>
    rw [hg] at h1
    obtain ⟨i, h2, h3⟩ := h1
    have := hge _ _ _ h2
    refine ⟨i, h2, fun c' => ?_⟩
    simp only [gFrom, setS, setE, if_neg hx]
    rw [if_neg (by simp only at this; omega), h3]
    rfl
structure Nw (W W' : AW) (p ra rw : Nat) (s : Str) : Prop where
 st : St W' p ra rw s
 ex : Ex W W'
 hp : W.nx ≤ p
 ha : W.nx ≤ ra
 hw : W.nx ≤ rw
theorem Fr.cl {W W' : AW} {p ra rw : Nat} (h : Fr W W' p ra rw) (hC : Cl W) (hp : p < W.nx) (ha : ra < W.nx) (hw : rw < W.nx) : Cl W' := by
 intro x hx
 rw [h.nx] at hx
 rw [h.get x (by omega) (by omega) (by omega)]
 exact hC x hx
theorem Nw.fr {W W1 W2 : AW} {p ra rw : Nat} {s s' : Str} (h : Nw W W1 p ra rw s) (h2 : St W2 p ra rw s') (hf : Fr W1 W2 p ra rw) : Nw W W2 p ra rw s' := by
 have a := h.hp
 have b := h.ha
 have c := h.hw
 exact ⟨h2, ⟨hf.cl h.ex.cl h.st.lp h.st.la h.st.lw, by rw [hf.nx]; exact h.ex.nx, fun x hx => by rw [hf.get x (by omega) (by omega) (by omega)]; exact h.ex.get x hx⟩, a, b, c⟩
theorem Nw.exx {W W1 W2 : AW} {p ra rw : Nat} {s : Str} (h : Nw W W1 p ra rw s) (h2 : Ex W1 W2) : Nw W W2 p ra rw s := ⟨h.st.ex h2, h.ex.trans h2, h.hp, h.ha, h.hw⟩
theorem Ny {α : Type} {p : List α → Prop} (h0 : p []) (hs : ∀ l a, p l → p (l ++ [a])) (l : List α) : p l := by
 rw [← l.reverse_reverse]
 induction l.reverse with
 | nil => exact h0
 | cons a m ih => rw [List.reverse_cons]; exact hs _ _ ih
def bumpL (l : List (Ek × Int)) (k : Ek) : List (Ek × Int) := match getE l k with
 | some c => setE l k (c + 1)
 | none => l ++ [(k, 1)]
def tally (P : List Ek) : List (Ek × Int) := P.foldl bumpL []
theorem Fh (P : List Ek) (k : Ek) : tally (P ++ [k]) = bumpL (tally P) k := by simp [tally]
theorem getE_set {l : List (Ek × Int)} {k : Ek} {c0 c : Int} (h : getE l k = some c0) (e : Ek) : getE (setE l k c) e = if e = k then some c else getE l e := by
 induction l with
 | nil => simp [getE] at h
 | cons x l ih =>
  by_cases hx : x.1 = k
  ·simp only [setE, if_pos hx]
   by_cases he : e = k
   ·subst he; simp [getE]
   ·have h1 : ¬ k = e := fun h => he h.symm
    have h2 : ¬ x.1 = e := by rw [hx]; exact h1
    simp [getE, he, h1, h2]
  ·simp only [setE, if_neg hx]
   have h' : getE l k = some c0 := by simpa [getE, hx] using h
   have := ih h'
   by_cases he : x.1 = e
   ·have hek : ¬ e = k := by rw [← he]; exact hx
    simp [getE, he, hek]
   ·have e1 : ∀ l', getE (x :: l') e = getE l' e := fun l' => by simp [getE, he]
    rw [e1, e1, this]
theorem Qw {l : List (Ek × Int)} {k : Ek} (h : getE l k = none) (c : Int) (e : Ek) : getE (l ++ [(k, c)]) e = if e = k then some c else getE l e := by
 simp only [getE, List.find?_append] at h ⊢
 by_cases he : e = k
 ·subst he
  have : (l.find? fun x => decide (x.1 = e)) = none := by simpa using h
  rw [this]; simp
 ·have : ¬ k = e := fun h => he h.symm
  simp [he, this]
theorem Ym (l : List (Ek × Int)) (k e : Ek) : getE (bumpL l k) e = if e = k then some ((getE l k).getD 0 + 1) else getE l e := by
 unfold bumpL
 cases h : getE l k with
 | none => rw [Qw h]; simp
 | some c => rw [getE_set h]; simp
theorem It (P : List Ek) (e : Ek) : getE (tally P) e = if e ∈ P then some (P.count e : Int) else none := by
 refine Ny (p := fun P => getE (tally P) e = if e ∈ P then some (P.count e : Int) else none) ?_ (fun P k ih => ?_) P
 ·rfl
 ·skip
  rw [Fh, Ym]
  by_cases he : e = k
  ·subst he
   rw [ih]
   by_cases hm : e ∈ P
   ·simp [hm]
   ·simp [hm, List.count_eq_zero_of_not_mem hm]
  ·have : ¬ k = e := fun h => he h.symm
   rw [if_neg he, ih]
   simp [he, List.count_append, this]
def keysE (l : List (Ek × Int)) : List Ek := l.map (·.1)
theorem Qs (l : List (Ek × Int)) (k : Ek) (c : Int) : keysE (setE l k c) = keysE l := by
 induction l with
 | nil => rfl
 | cons x l ih =>
  simp only [setE]
  split
  ·rename_i h; simp [keysE, h]
  ·simp only [keysE, mcs] at ih ⊢; rw [ih]
theorem getE_mem {l : List (Ek × Int)} {k : Ek} : (getE l k).isSome = true ↔ k ∈ keysE l := by
 simp only [getE, keysE, Option.isSome_map, List.find?_isSome, mmp, decide_eq_true_eq]
theorem Ir (P : List Ek) (k : Ek) : k ∈ keysE (tally P) ↔ k ∈ P := by
 rw [← getE_mem, It]
 by_cases h : k ∈ P <;> simp [h]
theorem Mf (P : List Ek) : (tally P).length ≤ P.length := by
 refine Ny (p := fun P => (tally P).length ≤ P.length) ?_ (fun P k ih => ?_) P
 ·exact lr _
 ·skip
  rw [Fh]
  unfold bumpL
  cases h : getE (tally P) k with
  | some c =>
   have := congrArg List.length (Qs (tally P) k (c + 1))
   simp only [keysE, lmp] at this
   simp only [lap, lcs, List.length_nil]; omega
  | none => simp only [lap, lcs, List.length_nil]; omega
def edgeP (f t k : Int) : List Ek := if f = t then [] else [(f, t, k)]
def keyP (s : Str) (o : Ods) (k : Int) : List Ek := ((keyO o k).zip (keyO o k).tail).flatMap fun x => if (wrR s k x.1).2 = true ∧ (wrR s k x.2).2 = true then edgeP (wrR s k x.1).1 (wrR s k x.2).1 0 else []
abbrev Rd := Int × Option (List Int)
def countsR (s : Str) (o : Ods) (r : Rd) : Bool := begins (nums r.2) (keyO o r.1) && (nums r.2).all fun v => (who s r.1 v).isSome
def lastP (s : Str) (b : Int) (r : Rd) : List Ek := match (nums r.2).getLast? with
 | some v => if (wrR s r.1 v).2 = true then edgeP (wrR s r.1 v).1 b 1 else []
 | none => []
def nextP (s : Str) (o : Ods) (b : Int) (r : Rd) : List Ek := match (keyO o r.1)[(nums r.2).length]? with
 | some v => if (wrR s r.1 v).2 = true then edgeP b (wrR s r.1 v).1 2 else []
 | none => []
def readP (s : Str) (o : Ods) (b : Int) (r : Rd) : List Ek := lastP s b r ++ nextP s o b r
def txnP (s : Str) (o : Ods) (t : Tx) : List Ek := if t.st = 2 then [] else (readsR t).flatMap fun r => if countsR s o r = true then readP s o t.id r else []
def keysP (s : Str) (o : Ods) : List Ek := (List.range 8).flatMap fun (k : Nat) => keyP s o (k : Int)
def buildP (s : Str) (o : Ods) : List Ek := keysP s o ++ s.flatMap (txnP s o)
def nodesR (s : Str) : List Int := (s.filter fun t => decide (t.st ≠ 2)).map Tx.id
def takesR (o : Ods) : List Rd → Ods × Bool
 | [] => (o, true)
 | r :: l => ((takesR (takeR o r.1 (nums r.2)).1 l).1, ((takeR o r.1 (nums r.2)).2.1 && decide ((takeR o r.1 (nums r.2)).2.2 = 0)) && (takesR (takeR o r.1 (nums r.2)).1 l).2)
theorem Fz {a b : List Int} : begins a b = true ↔ a <+: b := by
 simp only [begins, Bool.and_eq_true, decide_eq_true_eq]
 constructor
 ·rintro ⟨_, h⟩; rw [h]; exact List.take_prefix _ _
 ·intro h; exact ⟨h.length_le, List.prefix_iff_eq_take.1 h⟩
theorem keyO_set {o : Ods} (h8 : o.length = 8) {k : Int} (h0 : 0 ≤ k) (h1 : k < 8) (l : List Int) {j : Int} (j0 : 0 ≤ j) : keyO (o.set k.toNat l) j = if j = k then l else keyO o j := by
 unfold keyO
 by_cases hj : j ≥ 8
 ·have : ¬ j = k := by omega
  simp [hj, this]
 ·simp only [if_neg hj]
  by_cases e : j = k
  ·subst e
   rw [if_pos rfl, List.getD_eq_getElem?_getD, List.getElem?_set_self (by omega)]; rfl
  ·rw [if_neg e, List.getD_eq_getElem?_getD, List.getD_eq_getElem?_getD, List.getElem?_set_ne (by omega)]
theorem Pq {o : Ods} (h8 : o.length = 8) {k : Int} (h0 : 0 ≤ k) (l : List Int) : (takeR o k l).1.length = 8 ∧ (∀ j, 0 ≤ j → keyO o j <+: keyO (takeR o k l).1 j) ∧
  ((takeR o k l).2.1 = true → k < 8 ∧ l <+: keyO (takeR o k l).1 k) ∧ (∀ j, 0 ≤ j → keyO (takeR o k l).1 j = keyO o j ∨ (j = k ∧ keyO (takeR o k l).1 j = l)) := by
 unfold takeR
 by_cases c1 : k ≥ 8
 ·simp only [if_pos c1]; exact ⟨h8, fun j _ => List.prefix_refl _, by simp, fun j _ => by simp⟩
 simp only [if_neg c1]
 by_cases c2 : l.length > 32
 ·simp only [if_pos c2]; exact ⟨h8, fun j _ => List.prefix_refl _, by simp, fun j _ => by simp⟩
 simp only [if_neg c2]
 by_cases c3 : twiceB l = true
 ·simp only [if_pos c3]; exact ⟨h8, fun j _ => List.prefix_refl _, by simp, fun j _ => by simp⟩
 simp only [if_neg c3]
 by_cases c4 : begins l (keyO o k) = true
 ·simp only [if_pos c4]; exact ⟨h8, fun j _ => List.prefix_refl _, fun _ => ⟨by omega, Fz.1 c4⟩, fun j _ => by simp⟩
 simp only [if_neg c4]
 by_cases c5 : begins (keyO o k) l = true
 ·simp only [if_pos c5]
  have hs := fun {j : Int} (j0 : 0 ≤ j) => keyO_set h8 h0 (by omega) l j0
  refine ⟨by rw [List.length_set]; exact h8, fun j j0 => ?_, fun _ => ⟨by omega, by rw [hs h0, if_pos rfl]; exact List.prefix_refl _⟩, fun j j0 => ?_⟩
  ·rw [hs j0]
   by_cases e : j = k
   ·subst e; rw [if_pos rfl]; exact Fz.1 c5
   ·rw [if_neg e]; exact List.prefix_refl _
  ·rw [hs j0]
   by_cases e : j = k
   ·exact .inr ⟨e, by rw [if_pos e]⟩
   ·rw [if_neg e]; exact .inl rfl
 ·simp only [if_neg c5]; exact ⟨h8, fun j _ => List.prefix_refl _, by simp, fun j _ => by simp⟩
theorem Kl : ∀ {l : List Rd} {o : Ods}, o.length = 8 → (∀ r ∈ l, 0 ≤ r.1) → (takesR o l).1.length = 8 ∧ (∀ j, 0 ≤ j → keyO o j <+: keyO (takesR o l).1 j) ∧
  (∀ j, 0 ≤ j → keyO (takesR o l).1 j = keyO o j ∨ ∃ r ∈ l, r.1 = j ∧ nums r.2 = keyO (takesR o l).1 j) ∧
  ((takesR o l).2 = true → ∀ r ∈ l, r.1 < 8 ∧ nums r.2 <+: keyO (takesR o l).1 r.1)
 | [], o, h, _ => ⟨h, fun j _ => List.prefix_refl _, fun j _ => .inl rfl, by simp⟩
 | r :: l, o, h, hr => by
  obtain ⟨t1, t2, t3, t4⟩ := Pq h (hr r (by simp)) (nums r.2)
  obtain ⟨i1, i2, i3, i4⟩ := Kl (l := l) (o := (takeR o r.1 (nums r.2)).1) t1 (fun x hx => hr x (by simp [hx]))
  refine ⟨i1, fun j j0 => (t2 j j0).trans (i2 j j0), fun j j0 => ?_, fun ht x hx => ?_⟩
  ·rcases i3 j j0 with e | ⟨x, hx, e1, e2⟩
   ·rcases t4 j j0 with e' | ⟨e1, e2⟩
    ·exact .inl (e.trans e')
    ·refine .inr ⟨r, by simp, e1.symm, ?_⟩
     show nums r.2 = _
     exact e2.symm.trans e.symm
   ·exact .inr ⟨x, by simp [hx], e1, e2⟩
  ·simp only [takesR, Bool.and_eq_true] at ht
   rcases List.mem_cons.1 hx with rfl | hx
   ·obtain ⟨a, b⟩ := t3 ht.1.1
    exact ⟨a, b.trans (i2 _ (hr x (by simp)))⟩
   ·exact i4 ht.2 x hx
def mapId (s : Str) (i : Int) (f : Tx → Tx) : Str := s.map fun t => if t.id = i then f t else t
theorem Eu {s : Str} {i : Int} {f : Tx → Tx} (h : ∀ t ∈ s, t.id = i → f t = t) : mapId s i f = s := by
 unfold mapId
 conv => rhs; rw [← List.map_id s]
 refine List.map_congr_left fun t ht => ?_
 split
 ·rename_i e; exact h t ht e
 ·rfl
theorem Ip : ∀ {s : Str} {t x : Tx} {f : Tx → Tx}, (s.Pairwise fun a b => a.id < b.id) → t ∈ s → x.id = t.id → f t = x → upd s x = mapId s t.id f
 | [], _, _, _, _, h, _, _ => by simp at h
 | y :: s, t, x, f, hs, ht, hi, hf => by
  have hp := List.pairwise_cons.1 hs
  by_cases e : y.id = x.id
  ·have hy : y = t := by
    rcases List.mem_cons.1 ht with h | h
    ·exact h.symm
    ·have := hp.1 t h; omega
   subst hy
   have : mapId s y.id f = s := Eu fun z hz e' => by have := hp.1 z hz; omega
   simp only [upd, if_pos e, mapId, mcs, if_true] at this ⊢
   rw [this, hf]
  ·have ht' : t ∈ s := by
    rcases List.mem_cons.1 ht with h | h
    ·subst h; exact absurd hi.symm e
    ·exact h
   have := Ip hp.2 ht' hi hf
   have hne : ¬ y.id = t.id := by rw [← hi]; exact e
   simp only [upd, if_neg e, mapId, mcs, if_neg hne] at this ⊢
   rw [this]
def endT (st : Int) (t : Tx) : Tx := if t.st = 0 then { t with st := st } else t
def comT (ls : List (Option (List Int))) (t : Tx) : Tx := if t.st = 0 ∧ okC ls = true ∧ reads t.ms = ls.length then { t with st := 1, ls := ls } else t
theorem Ih (st : Int) (t : Tx) : (endT st t).id = t.id := by unfold endT; split <;> rfl
theorem Pb (ls : List (Option (List Int))) (t : Tx) : (comT ls t).id = t.id := by unfold comT; split <;> rfl
theorem V1 {s : Str} {i : Int} {t : Tx} (h : find s i = some t) : t ∈ s ∧ t.id = i := by
 have h1 := List.mem_of_find?_eq_some h
 have h2 := List.find?_some h
 exact ⟨h1, by simpa using h2⟩
theorem Em {s : Str} (hs : s.Pairwise fun a b => a.id < b.id) {i : Int} {x : Tx} (hx : x ∈ s) (hi : x.id = i) : find s i = some x := by
 rw [← hi]; exact Jc hs hx
theorem Q8 {s : Str} (hs : s.Pairwise fun a b => a.id < b.id) (i st : Int) : (endR s i st).1 = mapId s i (endT st) := by
 unfold endR
 cases hf : find s i with
 | none =>
  refine (Eu fun t ht e => ?_).symm
  rw [Em hs ht e] at hf; cases hf
 | some t =>
  obtain ⟨h1, h2⟩ := V1 hf
  by_cases h0 : t.st = 0
  ·simp only [if_pos h0]
   rw [← h2]
   exact Ip (x := { t with st := st }) hs h1 rfl (by simp [endT, h0])
  ·simp only [if_neg h0]
   refine (Eu fun x hx e => ?_).symm
   rw [Em hs hx e] at hf; cases hf
   simp [endT, h0]
theorem Re {s : Str} (hs : s.Pairwise fun a b => a.id < b.id) (i : Int) (ls : List (Option (List Int))) : (commitR s i ls).1 = mapId s i (comT ls) := by
 unfold commitR
 cases hf : find s i with
 | none =>
  refine (Eu fun t ht e => ?_).symm
  rw [Em hs ht e] at hf; cases hf
 | some t =>
  obtain ⟨h1, h2⟩ := V1 hf
  by_cases hc : t.st = 0 ∧ okC ls = true ∧ reads t.ms = ls.length
  ·obtain ⟨c1, c2, c3⟩ := hc
   simp only [if_pos c1, if_pos c2, if_pos c3]
   rw [← h2]
   exact Ip (x := { t with st := 1, ls := ls }) hs h1 rfl (by simp only [comT, if_pos (And.intro c1 (And.intro c2 c3))])
  ·have : (if t.st = 0 then (if okC ls = true then (if reads t.ms = ls.length then (upd s { t with st := 1, ls := ls }, (0 : Int)) else (s, 10)) else (s, 4)) else (s, 7)).1 = s := by
    by_cases c1 : t.st = 0
    ·by_cases c2 : okC ls = true
     ·by_cases c3 : reads t.ms = ls.length
      ·exact absurd ⟨c1, c2, c3⟩ hc
      ·simp only [if_pos c1, if_pos c2, if_neg c3]
     ·simp only [if_pos c1, if_neg c2]
    ·simp only [if_neg c1]
   simp only [this]
   refine (Eu fun x hx e => ?_).symm
   rw [Em hs hx e] at hf; cases hf
   simp only [comT, if_neg hc]
theorem Xbk {s : Str} (hs : s.Pairwise fun a b => a.id < b.id) (i : Int) {f : Tx → Tx} (hf : ∀ t, (f t).id = t.id) : (mapId s i f).Pairwise fun a b => a.id < b.id := by
 unfold mapId
 rw [List.pairwise_map]
 refine hs.imp fun {x y} h => ?_
 have e : ∀ t : Tx, (if t.id = i then f t else t).id = t.id := fun t => by split <;> simp [hf]
 rw [e, e]; exact h
theorem R4 (o : Ods) (l m : List Rd) : takesR o (l ++ m) = ((takesR (takesR o l).1 m).1, (takesR o l).2 && (takesR (takesR o l).1 m).2) := by
 induction l generalizing o with
 | nil => simp [takesR]
 | cons r l ih => simp only [List.cons_append, takesR, ih, Bool.and_assoc]
theorem rk_mem {l : List Mi} {k : Int} (h : k ∈ rkeys l) : ∃ m ∈ l, m.key = k := by
 simp only [rkeys, mmp, mfl] at h
 obtain ⟨m, ⟨h1, _⟩, h2⟩ := h
 exact ⟨m, h1, h2⟩
theorem Fo {t : Tx} (h : ∀ m ∈ t.ms, m.ok) : ∀ r ∈ readsR t, 0 ≤ r.1 ∧ r.1 < 256 := by
 intro r hr
 unfold readsR at hr
 split at hr
 ·simp at hr
 ·obtain ⟨m, h1, h2⟩ := rk_mem (List.of_mem_zip (a := r.1) (b := r.2) hr).1
  rw [← h2]; exact ⟨(h m h1).1, (h m h1).2.1⟩
theorem comT_ms (ls : List (Option (List Int))) (t : Tx) : (comT ls t).ms = t.ms := by unfold comT; split <;> rfl
theorem Du {f t k : Int} {x : Ek} : x ∈ edgeP f t k ↔ f ≠ t ∧ x = (f, t, k) := by
 unfold edgeP
 split
 ·rename_i h; simp [h]
 ·rename_i h; simp [h]
theorem K8 {s : Str} {o : Ods} {k : Int} {x : Ek} : x ∈ keyP s o k ↔ ∃ u v, (u, v) ∈ (keyO o k).zip (keyO o k).tail ∧ (wrR s k u).2 = true ∧ (wrR s k v).2 = true ∧ (wrR s k u).1 ≠ (wrR s k v).1 ∧ x = ((wrR s k u).1, (wrR s k v).1, 0) := by
 simp only [keyP, List.mem_flatMap, Prod.exists]
 constructor
 ·rintro ⟨u, v, h1, h2⟩
  split at h2
  ·rename_i h3
   obtain ⟨h4, h5⟩ := Du.1 h2
   exact ⟨u, v, h1, h3.1, h3.2, h4, h5⟩
  ·simp at h2
 ·rintro ⟨u, v, h1, h2, h3, h4, h5⟩
  exact ⟨u, v, h1, by rw [if_pos ⟨h2, h3⟩]; exact Du.2 ⟨h4, h5⟩⟩
theorem E7 {s : Str} {b : Int} {r : Rd} {x : Ek} : x ∈ lastP s b r ↔ ∃ v, (nums r.2).getLast? = some v ∧ (wrR s r.1 v).2 = true ∧ (wrR s r.1 v).1 ≠ b ∧ x = ((wrR s r.1 v).1, b, 1) := by
 unfold lastP
 cases h : (nums r.2).getLast? with
 | none => simp
 | some v =>
  simp only [Option.some.injEq]
  constructor
  ·intro h2
   split at h2
   ·rename_i h3
    obtain ⟨h4, h5⟩ := Du.1 h2
    exact ⟨v, rfl, h3, h4, h5⟩
   ·simp at h2
  ·rintro ⟨_, rfl, h3, h4, h5⟩
   rw [if_pos h3]; exact Du.2 ⟨h4, h5⟩
theorem E6 {s : Str} {o : Ods} {b : Int} {r : Rd} {x : Ek} : x ∈ nextP s o b r ↔ ∃ v, (keyO o r.1)[(nums r.2).length]? = some v ∧ (wrR s r.1 v).2 = true ∧ b ≠ (wrR s r.1 v).1 ∧ x = (b, (wrR s r.1 v).1, 2) := by
 unfold nextP
 cases h : (keyO o r.1)[(nums r.2).length]? with
 | none => simp
 | some v =>
  simp only [Option.some.injEq]
  constructor
  ·intro h2
   split at h2
   ·rename_i h3
    obtain ⟨h4, h5⟩ := Du.1 h2
    exact ⟨v, rfl, h3, h4, h5⟩
   ·simp at h2
  ·rintro ⟨_, rfl, h3, h4, h5⟩
   rw [if_pos h3]; exact Du.2 ⟨h4, h5⟩
theorem Et {s : Str} {o : Ods} {t : Tx} {x : Ek} : x ∈ txnP s o t ↔ t.st ≠ 2 ∧ ∃ r ∈ readsR t, countsR s o r = true ∧ (x ∈ lastP s t.id r ∨ x ∈ nextP s o t.id r) := by
 unfold txnP
 by_cases h : t.st = 2
 ·simp [h]
 ·simp only [if_neg h, List.mem_flatMap]
  constructor
  ·rintro ⟨r, h1, h2⟩
   split at h2
   ·rename_i h3
    exact ⟨h, r, h1, h3, by simpa [readP] using h2⟩
   ·simp at h2
  ·rintro ⟨_, r, h1, h2, h3⟩
   exact ⟨r, h1, by rw [if_pos h2]; simpa [readP] using h3⟩
theorem Hg {s : Str} {o : Ods} {x : Ek} : x ∈ buildP s o ↔ (∃ k : Nat, k < 8 ∧ x ∈ keyP s o (k : Int)) ∨ ∃ t ∈ s, x ∈ txnP s o t := by
 simp only [buildP, keysP, map', List.mem_flatMap, List.mem_range]
theorem zip_pre {l l' : List Int} (h : l <+: l') {p : Int × Int} (hp : p ∈ l.zip l.tail) : p ∈ l'.zip l'.tail := by
 obtain ⟨m, rfl⟩ := h
 cases l with
 | nil => simp at hp
 | cons a l =>
  simp only [List.tail_cons, List.cons_append] at hp ⊢
  have hl : a :: (l ++ m) = (a :: l) ++ m := rfl
  obtain ⟨i, hi, rfl⟩ := List.mem_iff_getElem.1 hp
  simp only [List.length_zip, lcs] at hi
  refine List.mem_iff_getElem.2 ⟨i, by simp; omega, ?_⟩
  rw [List.getElem_zip, List.getElem_zip]
  have e1 : (a :: (l ++ m))[i]'(by simp; omega) = (a :: l)[i]'(by simp; omega) := by
   simp only [hl]; rw [List.getElem_append_left]
  have e2 : (l ++ m)[i]'(by simp; omega) = l[i]'(by omega) := by rw [List.getElem_append_left]
  rw [e1, e2]
theorem Yw {a b c : List Int} (h : begins a b = true) (h' : b <+: c) : begins a c = true := Fz.2 ((Fz.1 h).trans h')
theorem Hp {s s' : Str} {o o' : Ods} (hs : SOk s) (hw : ∀ k v, (wrR s k v).2 = true → wrR s' k v = wrR s k v) (hi : ∀ k v, (who s k v).isSome = true → (who s' k v).isSome = true) (ho : ∀ j : Int, 0 ≤ j → keyO o j <+: keyO o' j)
  (ht : ∀ t ∈ s, ∀ r ∈ readsR t, ∃ t' ∈ s', t'.id = t.id ∧ t'.st ≠ 2 ∧ r ∈ readsR t') {x : Ek} (hx : x ∈ buildP s o) : x ∈ buildP s' o' := by
 rw [Hg] at hx ⊢
 rcases hx with ⟨k, hk, h⟩ | ⟨t, hm, h⟩
 ·refine .inl ⟨k, hk, ?_⟩
  rw [K8] at h ⊢
  obtain ⟨u, v, h1, h2, h3, h4, h5⟩ := h
  refine ⟨u, v, zip_pre (ho _ (by omega)) h1, ?_⟩
  rw [hw _ _ h2, hw _ _ h3]
  exact ⟨h2, h3, h4, h5⟩
 ·right
  rw [Et] at h
  obtain ⟨h1, r, h2, h3, h4⟩ := h
  obtain ⟨t', m1, m2, m3, m4⟩ := ht t hm r h2
  have hr := (Fo (hs.ok t hm).ms r h2).1
  refine ⟨t', m1, Et.2 ⟨m3, r, m4, ?_, ?_⟩⟩
  ·simp only [countsR, Bool.and_eq_true, List.all_eq_true] at h3 ⊢
   exact ⟨Yw h3.1 (ho _ hr), fun v hv => hi _ _ (h3.2 v hv)⟩
  ·rw [m2]
   rcases h4 with h4 | h4
   ·left
    rw [E7] at h4 ⊢
    obtain ⟨v, a1, a2, a3, a4⟩ := h4
    exact ⟨v, a1, by rw [hw _ _ a2]; exact a2, by rw [hw _ _ a2]; exact a3, by rw [hw _ _ a2]; exact a4⟩
   ·right
    rw [E6] at h4 ⊢
    obtain ⟨v, a1, a2, a3, a4⟩ := h4
    refine ⟨v, ?_, by rw [hw _ _ a2]; exact a2, by rw [hw _ _ a2]; exact a3, by rw [hw _ _ a2]; exact a4⟩
    obtain ⟨m, hm'⟩ := ho _ hr
    rw [← hm', List.getElem?_append_left (by
     rcases Nat.lt_or_ge (nums r.2).length (keyO o r.1).length with h | h
     ·exact h
     ·rw [List.getElem?_eq_none h] at a1; cases a1)]
    exact a1
theorem Gj {s : Str} {i k v : Int} {f : Tx → Tx} (hf : ∀ t, (f t).ms = t.ms) : who (mapId s i f) k v = (who s k v).map fun t => if t.id = i then f t else t := by
 induction s with
 | nil => rfl
 | cons t s ih =>
  have hi : S.has (if t.id = i then f t else t) k v = S.has t k v := by unfold S.has; split <;> simp [hf]
  simp only [who, mapId, mcs, List.find?_cons, hi] at ih ⊢
  cases S.has t k v with
  | true => rfl
  | false => exact ih
theorem T4 {s : Str} {t : Tx} {k v : Int} : who (s ++ [t]) k v = (who s k v).or (if S.has t k v = true then some t else none) := by
 unfold who
 rw [List.find?_append]
 congr 1
 simp only [List.find?_cons, List.find?_nil]
 cases S.has t k v <;> simp
theorem O2 (st : Int) (t : Tx) : (endT st t).ms = t.ms := by unfold endT; split <;> rfl
theorem P9 {t : Tx} (h : t.st ≠ 1) : readsR t = [] := by simp [readsR, h]
theorem E4 {t : Tx} {r : Rd} (h : r ∈ readsR t) : t.st = 1 := by
 refine Classical.byContradiction fun hn => ?_
 rw [P9 hn] at h; simp at h
theorem Tl {st : Int} {t : Tx} {r : Rd} (h : r ∈ readsR t) : endT st t = t := by
 have := E4 h
 simp [endT, this]
theorem Tr {ls : List (Option (List Int))} {t : Tx} {r : Rd} (h : r ∈ readsR t) : comT ls t = t := by
 have := E4 h
 unfold comT
 rw [if_neg]; rw [this]; simp
theorem Np {s : Str} {o o' : Ods} (hs : SOk s) (i : Int) {f : Tx → Tx} (hid : ∀ t, (f t).id = t.id) (hms : ∀ t, (f t).ms = t.ms) (hst : ∀ t, (f t).st = 2 ↔ t.st = 2) (hrd : ∀ t r, r ∈ readsR t → f t = t) (ho : ∀ j : Int, 0 ≤ j → keyO o j <+: keyO o' j) {x : Ek} (hx : x ∈ buildP s o) : x ∈ buildP (mapId s i f) o' := by
 refine Hp hs (fun k v _ => ?_) (fun k v h => ?_) ho (fun t ht r hr => ?_) hx
 ·unfold wrR
  rw [Gj hms]
  cases who s k v with
  | none => rfl
  | some t =>
   simp only [Option.map_some]
   split
   ·rw [hid]; congr 1; exact decide_eq_decide.2 (not_congr (hst t))
   ·rfl
 ·rw [Gj hms, Option.isSome_map]; exact h
 ·refine ⟨t, ?_, rfl, by rw [E4 hr]; decide, hr⟩
  refine List.mem_map.2 ⟨t, ht, ?_⟩
  split
  ·exact hrd t r hr
  ·rfl
theorem comT_st (ls : List (Option (List Int))) (t : Tx) : (comT ls t).st = 2 ↔ t.st = 2 := by
 unfold comT; split
 ·rename_i h; simp [h.1]
 ·rfl
theorem endT3_st (t : Tx) : (endT 3 t).st = 2 ↔ t.st = 2 := by
 unfold endT; split
 ·rename_i h; simp [h]
 ·rfl
theorem Rk {s : Str} {o : Ods} {i : Int} {t0 : Tx} (hs : s.Pairwise fun a b => a.id < b.id) (hf : find s i = some t0) (h0 : t0.st = 0) {x : Ek} : x ∈ buildP (mapId s i (endT 2)) o ↔ x ∈ buildP s o ∧ x.1 ≠ i ∧ x.2.1 ≠ i := by
 have hw : ∀ k v, ((wrR (mapId s i (endT 2)) k v).2 = true ↔ (wrR s k v).2 = true ∧ (wrR s k v).1 ≠ i) ∧ (wrR (mapId s i (endT 2)) k v).1 = (wrR s k v).1 := by
  intro k v
  unfold wrR
  rw [Gj (O2 2)]
  cases hq : who s k v with
  | none => simp
  | some t =>
   have ht := (Hu hq).1
   simp only [Option.map_some]
   by_cases e : t.id = i
   ·have : t = t0 := by have := Em hs ht e; rw [hf] at this; exact (Option.some.inj this).symm
    subst this
    simp [e, endT, h0]
   ·simp [e]
 have hi : ∀ k v, (who (mapId s i (endT 2)) k v).isSome = (who s k v).isSome := fun k v => by rw [Gj (O2 2), Option.isSome_map]
 have hc : ∀ r, countsR (mapId s i (endT 2)) o r = countsR s o r := fun r => by simp only [countsR, hi]
 rw [Hg, Hg]
 have hk : ∀ k, (x ∈ keyP (mapId s i (endT 2)) o k ↔ x ∈ keyP s o k ∧ x.1 ≠ i ∧ x.2.1 ≠ i) := by
  intro k
  rw [K8, K8]
  constructor
  ·rintro ⟨u, v, h1, h2, h3, h4, h5⟩
   rw [(hw _ _).1] at h2 h3
   rw [(hw _ _).2, (hw _ _).2] at h4 h5
   subst h5
   exact ⟨⟨u, v, h1, h2.1, h3.1, h4, rfl⟩, h2.2, h3.2⟩
  ·rintro ⟨⟨u, v, h1, h2, h3, h4, h5⟩, h6, h7⟩
   subst h5
   exact ⟨u, v, h1, (hw _ _).1.2 ⟨h2, h6⟩, (hw _ _).1.2 ⟨h3, h7⟩, by rw [(hw _ _).2, (hw _ _).2]; exact h4, by rw [(hw _ _).2, (hw _ _).2]⟩
 have hl : ∀ b r, (x ∈ lastP (mapId s i (endT 2)) b r ↔ x ∈ lastP s b r ∧ x.1 ≠ i) := by
  intro b r
  rw [E7, E7]
  constructor
  ·rintro ⟨v, h1, h2, h3, h4⟩
   rw [(hw _ _).1] at h2
   rw [(hw _ _).2] at h3 h4
   subst h4
   exact ⟨⟨v, h1, h2.1, h3, rfl⟩, h2.2⟩
  ·rintro ⟨⟨v, h1, h2, h3, h4⟩, h5⟩
   subst h4
   exact ⟨v, h1, (hw _ _).1.2 ⟨h2, h5⟩, by rw [(hw _ _).2]; exact h3, by rw [(hw _ _).2]⟩
 have hn : ∀ b r, (x ∈ nextP (mapId s i (endT 2)) o b r ↔ x ∈ nextP s o b r ∧ x.2.1 ≠ i) := by
  intro b r
  rw [E6, E6]
  constructor
  ·rintro ⟨v, h1, h2, h3, h4⟩
   rw [(hw _ _).1] at h2
   rw [(hw _ _).2] at h3 h4
   subst h4
   exact ⟨⟨v, h1, h2.1, h3, rfl⟩, h2.2⟩
  ·rintro ⟨⟨v, h1, h2, h3, h4⟩, h5⟩
   subst h4
   exact ⟨v, h1, (hw _ _).1.2 ⟨h2, h5⟩, by rw [(hw _ _).2]; exact h3, by rw [(hw _ _).2]⟩
 have hL : ∀ {b r}, x ∈ lastP s b r → x.2.1 = b := fun h => by obtain ⟨v, _, _, _, h4⟩ := E7.1 h; rw [h4]
 have hN : ∀ {b r}, x ∈ nextP s o b r → x.1 = b := fun h => by obtain ⟨v, _, _, _, h4⟩ := E6.1 h; rw [h4]
 constructor
 ·rintro (⟨k, hk8, h⟩ | ⟨t', ht', h⟩)
  ·obtain ⟨h1, h2⟩ := (hk _).1 h
   exact ⟨.inl ⟨k, hk8, h1⟩, h2⟩
  ·obtain ⟨t, ht, rfl⟩ := List.mem_map.1 ht'
   obtain ⟨h1, r, h2, h3, h4⟩ := Et.1 h
   by_cases e : t.id = i
   ·have e2 : t = t0 := by have := Em hs ht e; rw [hf] at this; exact (Option.some.inj this).symm
    subst e2
    exfalso; apply h1; simp [e, endT, h0]
   ·rw [if_neg e] at h1 h2 h4
    rw [hc] at h3
    rw [hl, hn] at h4
    rcases h4 with h4 | h4
    ·exact ⟨.inr ⟨t, ht, Et.2 ⟨h1, r, h2, h3, .inl h4.1⟩⟩, h4.2, by rw [hL h4.1]; exact e⟩
    ·exact ⟨.inr ⟨t, ht, Et.2 ⟨h1, r, h2, h3, .inr h4.1⟩⟩, by rw [hN h4.1]; exact e, h4.2⟩
 ·rintro ⟨⟨k, hk8, h⟩ | ⟨t, ht, h⟩, h6, h7⟩
  ·exact .inl ⟨k, hk8, (hk _).2 ⟨h, h6, h7⟩⟩
  ·obtain ⟨h1, r, h2, h3, h4⟩ := Et.1 h
   have e : ¬ t.id = i := by
    rcases h4 with h4 | h4
    ·rw [← hL h4]; exact h7
    ·rw [← hN h4]; exact h6
   refine .inr ⟨t, List.mem_map.2 ⟨t, ht, if_neg e⟩, Et.2 ⟨h1, r, h2, by rw [hc]; exact h3, ?_⟩⟩
   rw [hl, hn]
   rcases h4 with h4 | h4
   ·exact .inl ⟨h4, h6⟩
   ·exact .inr ⟨h4, h7⟩
end Go.AL.S
namespace Go.AL.SE
open Go Go.AL Go.AL.S Go.Proofs Go.Sort
structure Ed where
 fr : Int
 to : Int
 kd : Int
 deriving DecidableEq, Inhabited
def Ed.V (e : Ed) : V := .agg [.int .u16 e.fr, .int .u16 e.to, .int .u8 e.kd]
def sgn (a b : Int) : Int := if a < b then -1 else if a > b then 1 else 0
def cmpE (a b : Ed) : Int := if sgn a.fr b.fr ≠ 0 then sgn a.fr b.fr else if sgn a.to b.to ≠ 0 then sgn a.to b.to else sgn a.kd b.kd
instance : LT Ed := ⟨fun a b => cmpE a b < 0⟩
instance (a b : Ed) : Decidable (a < b) := inferInstanceAs (Decidable (cmpE a b < 0))
def ltE (a b : Ed) : Bool := decide (a < b)
theorem Nz {a b : Int} : sgn a b < 0 ↔ a < b := by unfold sgn; split <;> (try split) <;> omega
theorem Hy {a b : Int} : sgn a b = 0 ↔ a = b := by unfold sgn; split <;> (try split) <;> omega
theorem Ol {a b : Ed} : a < b ↔ a.fr < b.fr ∨ (a.fr = b.fr ∧ (a.to < b.to ∨ (a.to = b.to ∧ a.kd < b.kd))) := by
 show cmpE a b < 0 ↔ _
 unfold cmpE
 by_cases h1 : a.fr = b.fr
 ·have e1 : sgn a.fr b.fr = 0 := Hy.2 h1
  simp only [e1, ne_eq, not_true, if_false]
  by_cases h2 : a.to = b.to
  ·have e2 : sgn a.to b.to = 0 := Hy.2 h2
   simp only [e2, not_true, if_false, Nz]
   omega
  ·have e2 : ¬ sgn a.to b.to = 0 := fun h => h2 (Hy.1 h)
   simp only [e2, not_false_iff, if_true, Nz]
   omega
 ·have e1 : ¬ sgn a.fr b.fr = 0 := fun h => h1 (Hy.1 h)
  simp only [e1, ne_eq, not_false_iff, if_true, Nz]
  omega
theorem ed_ext {a b : Ed} (h1 : a.fr = b.fr) (h2 : a.to = b.to) (h3 : a.kd = b.kd) : a = b := by
 cases a; cases b; simp at h1 h2 h3; simp [h1, h2, h3]
theorem Gk : SWO ltE where
 irrefl x := by simp only [ltE, decide_eq_false_iff_not, Ol]; omega
 trans x y z h1 h2 := by simp only [ltE, decide_eq_true_eq, Ol] at *; omega
 ntrans x y z h1 h2 := by simp only [ltE, decide_eq_false_iff_not, Ol] at *; omega
theorem Qq {a b : Ed} (h1 : ltE a b = false) (h2 : ltE b a = false) : a = b := by
 simp only [ltE, decide_eq_false_iff_not, Ol] at *
 exact ed_ext (by omega) (by omega) (by omega)
def cE (e : Ed) : List V := [.int .u16 e.fr, .int .u16 e.to, .int .u8 e.kd]
def cellsL (l : List Ed) : List V := l.flatMap cE
theorem Ho : ∀ l : List Ed, (cellsL l).length = l.length * 3
 | [] => rfl
 | e :: l => by
  have := Ho l
  simp only [cellsL, List.flatMap_cons, lap, cE, lcs, List.length_nil] at this ⊢
  omega
def cellsE (d : Array Ed) : List V := cellsL d.toList
def pv (W : AW) (r : Nat) (d : Array Ed) : AW := W.put r (.vec 3 (cellsE d))
theorem F7 {W : AW} {r : Nat} {d : Array Ed} : (pv W r d).get r = some (.vec 3 (cellsE d)) := by simp [pv, AW.put]
theorem pv_pv {W : AW} {r : Nat} {d d' : Array Ed} : pv (pv W r d) r d' = pv W r d' := by
 simp only [pv, AW.put, AW.mk.injEq, and_true]
 funext x
 by_cases h : x = r <;> simp [h]
theorem N5 {W : AW} {r : Nat} {d : Array Ed} (h : W.get r = some (.vec 3 (cellsE d))) : pv W r d = W := Cv h
section
variable {E : Env}
end
theorem C2 {E : Env} {W : AW} {K : V → AW → Prop} {f : FuncId} {vs ws : List V} {v : V} (hw : vs.map W.frz = ws) (h : ACalls E f ws W (fun X W' => X = v ∧ W' = W)) (hk : K v W) : sem E (.pcall f) vs W K := by
 subst hw; exact ⟨v, h, hk⟩
def c_nan8 : AC := (.r [.v 2 (.bool false)] (.r [.m 3 0,.m 4 0,.b 5 (.bin .neq) 3 4,.m 2 5] .ret))
theorem Xak : compF Tryz.prog Tryz.f118 ⟨true, false, []⟩ = some (c_nan8, [.tmp 2], 6) := by kernel_rfl
def c_cmp16 : AC := (.r [.v 4 (.int .i64 0)] (.r [.m 7 0,.u 8 (.call 117) 7,.m 5 8] (.r [.m 9 1,.u 10 (.call 117) 9,.m 6 10] (.seq (.r [.m 11 5] (.cond (.t 11) (.seq (.r [.m 12 6] (.cond (.t 12) (.r [.v 4 (.int .i64 0)] .ret) .skip)) (.r [.v 4 (.int .i64 (-1))] .ret)) .skip)) (.seq (.r [.m 13 6] (.cond (.t 13) (.r [.v 4 (.int .i64 1)] .ret) .skip)) (.seq (.r [.m 14 0,.m 15 1,.b 16 (.bin .lss) 14 15] (.cond (.t 16) (.r [.v 4 (.int .i64 (-1))] .ret) .skip)) (.seq (.r [.m 17 0,.m 18 1,.b 19 (.bin .gtr) 17 18] (.cond (.t 19) (.r [.v 4 (.int .i64 1)] .ret) .skip)) (.r [.v 4 (.int .i64 0)] .ret))))))))
theorem X2 : compF Tryz.prog Tryz.f91 ⟨true, false, []⟩ = some (c_cmp16, [.tmp 4], 20) := by kernel_rfl
def c_cmp8 : AC := (.r [.v 4 (.int .i64 0)] (.r [.m 7 0,.u 8 (.call 118) 7,.m 5 8] (.r [.m 9 1,.u 10 (.call 118) 9,.m 6 10] (.seq (.r [.m 11 5] (.cond (.t 11) (.seq (.r [.m 12 6] (.cond (.t 12) (.r [.v 4 (.int .i64 0)] .ret) .skip)) (.r [.v 4 (.int .i64 (-1))] .ret)) .skip)) (.seq (.r [.m 13 6] (.cond (.t 13) (.r [.v 4 (.int .i64 1)] .ret) .skip)) (.seq (.r [.m 14 0,.m 15 1,.b 16 (.bin .lss) 14 15] (.cond (.t 16) (.r [.v 4 (.int .i64 (-1))] .ret) .skip)) (.seq (.r [.m 17 0,.m 18 1,.b 19 (.bin .gtr) 17 18] (.cond (.t 19) (.r [.v 4 (.int .i64 1)] .ret) .skip)) (.r [.v 4 (.int .i64 0)] .ret))))))))
theorem Xar : compF Tryz.prog Tryz.f92 ⟨true, false, []⟩ = some (c_cmp8, [.tmp 4], 20) := by kernel_rfl
def c_cmpOr : AC := (.r [.v 2 (.int .i64 0)] (.r [.v 3 (.int .i64 0)] (.seq (.r [.m 6 0,.u 7 (.len 1 0) 6,.v 8 (.int .i64 0)] (.block 0 (.loop (.r [.b 9 (.bin .lss) 8 7] (.seq (.w 9 0) (.seq (.block 1 (.r [.b 10 (.idxp 1) 6 8,.u 11 (.load false 1) 10,.m 5 11] (.r [.m 12 5,.m 13 3,.b 14 (.bin .neq) 12 13] (.cond (.t 14) (.r [.m 15 5,.m 2 15] .ret) .skip)))) (.reg [.a 16 (.bin .add) 8 1,.m 8 16]))))))) (.r [.m 17 3,.m 2 17] .ret))))
theorem X1 : compF Tryz.prog Tryz.f59 ⟨true, false, []⟩ = some (c_cmpOr, [.tmp 2], 18) := by kernel_rfl
def c_cmpE : AC := (.r [.u 2 .box 0,.u 3 .box 1,.v 4 (.int .i64 0)] (.seq (.par (.step 0 (.u 5 (.fld 0) 2) (.step 2 (.u 7 (.fld 0) 3) (.step 5 (.u 10 (.fld 1) 2) (.step 7 (.u 12 (.fld 1) 3) (.step 10 (.u 15 (.fld 2) 2) (.step 12 (.u 17 (.fld 2) 3) (.step 1 (.u 6 (.load false 1) 5) (.step 3 (.u 8 (.load false 1) 7) (.step 4 (.b 9 (.pcall 91) 6 8) (.step 6 (.u 11 (.load false 1) 10) (.step 8 (.u 13 (.load false 1) 12) (.step 9 (.b 14 (.pcall 91) 11 13) (.step 11 (.u 16 (.load false 1) 15) (.step 13 (.u 18 (.load false 1) 17) (.step 14 (.b 19 (.pcall 92) 16 18) (.step 15 (.p 20 (.bslice 1 3 (.int .i64 0) [0, 1, 2]) [.t 9,.t 14,.t 19]) (.step 16 (.u 21 (.pcall 59) 20) (.step 17 (.m 4 21) .done))))))))))))))))))) .ret))
theorem Xaq : compF Tryz.prog Tryz.f109 ⟨true, false, []⟩ = some (c_cmpE, [.tmp 4], 22) := by kernel_rfl
variable {E : Env}
theorem Xbe (hP : PE E) (W : AW) (a : Int) : ACalls E 118 [.int .u8 a] W fun Y W' => Y = .bool false ∧ W' = W := by
 refine ACalls.of hP Tryz.func118 Xak (by simp) fun _ _ => ?_
 simp only [c_nan8, BZ, ↓reduceIte, nE, reduceCtorEq]
 exact ⟨_, rfl, _, _, .weak Ab, lr _, by simp, rfl⟩
theorem Wg (hP : PE E) (W : AW) (a b : Int) : ACalls E 91 [.int .u16 a, .int .u16 b] W fun Y W' => Y = .int .i64 (sgn a b) ∧ W' = W := by
 refine ACalls.of hP Tryz.func91 X2 (by simp) fun _ _ => ?_
 simp only [c_cmp16, BZ, ↓reduceIte, reduceCtorEq]
 refine pc (Ot hP _ _) ?_
 simp only [BZ, ↓reduceIte, nE]
 refine pc (Ot hP _ _) ?_
 by_cases h1 : a < b
 ·simp only [BX, ↓reduceIte, nE, reduceCtorEq, decide_eq_true h1]
  exact ⟨_, rfl, _, _, .weak Ab, lr _, by simp [sgn, h1], rfl⟩
 ·by_cases h2 : a > b
  ·simp only [BX, ↓reduceIte, nE, reduceCtorEq, decide_eq_false h1, decide_eq_true h2]
   exact ⟨_, rfl, _, _, .weak Ab, lr _, by simp [sgn, h1, h2], rfl⟩
  ·simp only [BX, ↓reduceIte, nE, reduceCtorEq, decide_eq_false h1, decide_eq_false h2]
   exact ⟨_, rfl, _, _, .weak Ab, lr _, by simp [sgn, h1, h2], rfl⟩
theorem cmp8_c (hP : PE E) (W : AW) (a b : Int) : ACalls E 92 [.int .u8 a, .int .u8 b] W fun Y W' => Y = .int .i64 (sgn a b) ∧ W' = W := by
 refine ACalls.of hP Tryz.func92 Xar (by simp) fun _ _ => ?_
 simp only [c_cmp8, BZ, ↓reduceIte, reduceCtorEq]
 refine pc (Xbe hP _ _) ?_
 simp only [BZ, ↓reduceIte, nE]
 refine pc (Xbe hP _ _) ?_
 by_cases h1 : a < b
 ·simp only [BX, ↓reduceIte, nE, reduceCtorEq, decide_eq_true h1]
  exact ⟨_, rfl, _, _, .weak Ab, lr _, by simp [sgn, h1], rfl⟩
 ·by_cases h2 : a > b
  ·simp only [BX, ↓reduceIte, nE, reduceCtorEq, decide_eq_false h1, decide_eq_true h2]
   exact ⟨_, rfl, _, _, .weak Ab, lr _, by simp [sgn, h1, h2], rfl⟩
  ·simp only [BX, ↓reduceIte, nE, reduceCtorEq, decide_eq_false h1, decide_eq_false h2]
   exact ⟨_, rfl, _, _, .weak Ab, lr _, by simp [sgn, h1, h2], rfl⟩
theorem b3 {W : AW} {K : V → AW → Prop} {a b c : Int} : sem E (.bslice 1 3 (.int .i64 0) [0, 1, 2]) [.int .i64 a, .int .i64 b, .int .i64 c] W K = K (.sl 1 true [.int .i64 a, .int .i64 b, .int .i64 c]) W := by
 simp [sem, rsem, tsem, fillE, V.cells]
theorem or3_c (hP : PE E) (W : AW) (a b c : Int) : ACalls E 59 [.sl 1 true [.int .i64 a, .int .i64 b, .int .i64 c]] W fun Y W' => Y = .int .i64 (if a ≠ 0 then a else if b ≠ 0 then b else c) ∧ W' = W := by
 refine ACalls.of hP Tryz.func59 X1 (by simp) fun _ _ => ?_
 simp only [c_cmpOr, BZ, ↓reduceIte, reduceCtorEq, BD, nA]
 rw [Ai]
 refine alp (fun (k : Nat) A1 W1 => A1 3 = some (.int .i64 0) ∧ A1 6 = some (.sl 1 true [.int .i64 a, .int .i64 b, .int .i64 c]) ∧ A1 7 = some (.int .i64 (3 : Nat)) ∧ A1 8 = some (.int .i64 k) ∧ k ≤ 3 ∧ W1 = W ∧ (0 < k → a = 0) ∧ (1 < k → b = 0) ∧ (2 < k → c = 0)) (fun k => 3 - k) 0
  ⟨rfl, rfl, rfl, rfl, by omega, rfl, by omega, by omega, by omega⟩ ?_
 rintro k A1 W1 ⟨g3, g6, g7, g8, gk, rfl, ga, gb, gc⟩ _
 have hk : k = 0 ∨ k = 1 ∨ k = 2 ∨ k = 3 := by omega
 rcases hk with rfl | rfl | rfl | rfl
 ·by_cases h : a = 0
  ·simp only [BX, ↓reduceIte, nE, BM, BD, nT, g3, g6, g7, g8, clt, nT, dT, Dq, h, ne_eq, not_true, dF, Ah]
   exact ⟨1, ⟨tt, tt, tt, tt, tt, tt, by (first | omega | simp | simp [h]), by (first | omega | simp | simp [h]), by (first | omega | simp | simp [h])⟩, by omega, lr _⟩
  ·simp only [BX, ↓reduceIte, nE, BM, nT, g3, g6, g7, g8, clt, nT, dT, Dq, ne_eq, h, not_false_iff]
   exact ⟨_, rfl, _, _, .weak Ab, lr _, by simp [h], rfl⟩
 ·have h0 := ga (by omega)
  by_cases h : b = 0
  ·simp only [BX, ↓reduceIte, nE, BM, nA, nT, g3, g6, g7, g8, clt, nT, dT, Dq, h, ne_eq, not_true, dF, Ah]
   exact ⟨2, ⟨tt, tt, tt, tt, tt, tt, by (first | omega | simp | simp [h]), by (first | omega | simp | simp [h]), by (first | omega | simp | simp [h])⟩, by omega, lr _⟩
  ·simp only [BX, ↓reduceIte, nE, BM, nT, g3, g6, g7, g8, clt, nT, dT, Dq, ne_eq, h, not_false_iff]
   exact ⟨_, rfl, _, _, .weak Ab, lr _, by simp [h0], rfl⟩
 ·have h0 := ga (by omega)
  have h1 := gb (by omega)
  by_cases h : c = 0
  ·simp only [BX, ↓reduceIte, nE, BM, nA, nT, g3, g6, g7, g8, clt, nT, dT, Dq, h, ne_eq, not_true, dF, Ah]
   exact ⟨3, ⟨tt, tt, tt, tt, tt, tt, by (first | omega | simp | simp [h]), by (first | omega | simp | simp [h]), by (first | omega | simp | simp [h])⟩, by omega, lr _⟩
  ·simp only [BX, ↓reduceIte, nE, BM, nT, g3, g6, g7, g8, clt, nT, dT, Dq, ne_eq, h, not_false_iff]
   exact ⟨_, rfl, _, _, .weak Ab, lr _, by simp [h0, h1], rfl⟩
 ·have h0 := ga (by omega)
  have h1 := gb (by omega)
  have h2 := gc (by omega)
  simp only [BX, ↓reduceIte, nE, g3, g7, g8, clt, Nat.lt_irrefl, dF]
  exact ⟨_, rfl, _, _, .weak Ab, lr _, by simp [h0, h1, h2], rfl⟩
theorem Cq (hP : PE E) (W : AW) (a b : Ed) : ACalls E 109 [a.V, b.V] W fun Y W' => Y = .int .i64 (cmpE a b) ∧ W' = W := by
 refine ACalls.of hP Tryz.func109 Xaq (by simp) fun _ hok => ?_
 refine Ae hok ?_
 simp only [c_cmpE, BZ, ↓reduceIte, nE, BM, BD, Ed.V]
 refine C2 rfl (Wg hP _ _ _) ?_
 simp only [BS, BC, ↓reduceIte, nE, BM]
 refine C2 rfl (Wg hP _ _ _) ?_
 simp only [BS, BC, ↓reduceIte, nE, BM]
 refine C2 rfl (cmp8_c hP _ _ _) ?_
 simp only [BS, ↓reduceIte, nE, b3]
 refine C2 rfl (or3_c hP _ _ _ _) ?_
 simp only [BS, BC, ↓reduceIte]
 exact ⟨_, rfl, _, W, Aw hok rfl, lr _, rfl, rfl⟩
end Go.AL.SE
namespace Go.AL.S
open Go Go.AL Go.RowKit
inductive Sh where
 | bool
 | int (k : IntKind)
 | sl (e : Sh)
 | st (l : List Sh)
mutual
def Sh.n : Sh → Nat
 | .st l => Sh.nL l
 | _ => 1
def Sh.nL : List Sh → Nat
 | [] => 0
 | s :: l => s.n + Sh.nL l
end
def Sh.agg : Sh → Bool
 | .st _ => true
 | _ => false
def Sh.val (s : Sh) (ws : List V) : V := if s.agg = true then .agg ws else ws.headD default
mutual
def Sh.Is : Sh → List V → Prop
 | .bool, vs => ∃ b, vs = [.bool b]
 | .int k, vs => ∃ n, vs = [.int k n] ∧ (Lit.int k n).wf = true
 | .sl e, vs => ∃ v xs, vs = [v] ∧ isS e.n v xs ∧ xs.length < 2 ^ 48 ∧ ∀ x ∈ xs, ∃ ws, e.Is ws ∧ x = e.val ws
 | .st l, vs => Sh.IsL l vs
def Sh.IsL : List Sh → List V → Prop
 | [], vs => vs = []
 | s :: l, vs => ∃ a b, vs = a ++ b ∧ s.Is a ∧ Sh.IsL l b
end
mutual
def Sh.Ty (P : Program) : Sh → TypeId → Prop
 | .bool, t => P.underlying t = some .bool ∧ P.cellsOf t = 1
 | .int k, t => P.underlying t = some (.int k) ∧ P.cellsOf t = 1
 | .sl e, t => ∃ te, P.underlying t = some (.slice te) ∧ e.Ty P te ∧ 0 < e.n ∧ P.cellsOf t = 1 ∧ 0 < P.bytesOf te
 | .st l, t => (∃ fs, P.underlying t = some (.struct fs) ∧ P.cellsOf t = Sh.nL l ∧ Sh.TyL P l 0 fs.toList) ∨
   (∃ n e te, l = List.replicate n e ∧ P.underlying t = some (.array n te) ∧ P.cellsOf t = Sh.nL l ∧ Sh.TyR P l te)
def Sh.TyL (P : Program) : List Sh → Nat → List Field → Prop
 | [], _, fs => fs = []
 | s :: l, off, fs => ∃ f r, fs = f :: r ∧ f.offset = off ∧ s.Ty P f.type ∧ Sh.TyL P l (off + s.n) r
def Sh.TyR (P : Program) : List Sh → TypeId → Prop
 | [], _ => True
 | s :: l, t => s.Ty P t ∧ Sh.TyR P l t
end
theorem Sh.Ty.cells {P : Program} : ∀ {s : Sh} {t : TypeId}, s.Ty P t → P.cellsOf t = s.n
 | .bool, _, h => h.2
 | .int _, _, h => h.2
 | .sl _, _, ⟨_, _, _, _, h, _⟩ => h
 | .st _, _, .inl ⟨_, _, h, _⟩ => h
 | .st _, _, .inr ⟨_, _, _, _, _, h, _⟩ => h
mutual
theorem Sh.Is.len : ∀ {s : Sh} {vs : List V}, s.Is vs → vs.length = s.n
 | .bool, _, ⟨_, h⟩ => by rw [h]; rfl
 | .int _, _, ⟨_, h, _⟩ => by rw [h]; rfl
 | .sl _, _, ⟨_, _, h, _⟩ => by rw [h]; rfl
 | .st l, _, h => Sh.IsL.len (l := l) h
theorem Sh.IsL.len : ∀ {l : List Sh} {vs : List V}, Sh.IsL l vs → vs.length = Sh.nL l
 | [], _, h => by rw [show _ = ([] : List V) from h]; rfl
 | s :: l, _, ⟨a, b, h, h1, h2⟩ => by rw [h, lap, Sh.Is.len h1, Sh.IsL.len h2]; rfl
end
theorem Rn {n : Nat} : ∀ {a b : List V}, V.belL n a = true → V.belL n b = true → V.belL n (a ++ b) = true
 | [], _, _, h => h
 | x :: a, b, h, h' => by
  simp only [V.belL, List.cons_append, Bool.and_eq_true] at h ⊢
  exact ⟨h.1, Rn h.2 h'⟩
theorem Ro {n : Nat} : ∀ {a : List V}, (∀ x ∈ a, x.bel n = true) → V.belL n a = true
 | [], _ => rfl
 | x :: a, h => by
  simp only [V.belL, Bool.and_eq_true]
  exact ⟨h x (by simp), Ro fun y hy => h y (by simp [hy])⟩
theorem Sh.val_bel {s : Sh} {ws : List V} {n : Nat} (h : V.belL n ws = true) (hl : s.agg = false → ws ≠ []) : (s.val ws).bel n = true := by
 unfold Sh.val
 split
 ·exact h
 ·rename_i hs
  cases ws with
  | nil => exact absurd rfl (hl (by simpa using hs))
  | cons w ws =>
   simp only [V.belL, Bool.and_eq_true] at h
   exact h.1
mutual
theorem Sh.Is.bel {n : Nat} : ∀ {s : Sh} {vs : List V}, s.Is vs → V.belL n vs = true
 | .bool, _, ⟨_, h⟩ => by rw [h]; rfl
 | .int _, _, ⟨_, h, _⟩ => by rw [h]; rfl
 | .sl e, _, ⟨v, xs, h, hs, _, hx⟩ => by
  rw [h]
  simp only [V.belL, Bool.and_true]
  refine hs.lens (Ro fun x hxm => ?_)
  obtain ⟨ws, h1, rfl⟩ := hx x hxm
  refine Sh.val_bel (Sh.Is.bel h1) fun he hw => ?_
  have := Sh.Is.len h1
  rw [hw] at this
  cases e <;> simp [Sh.agg, Sh.n] at he this
 | .st l, _, h => Sh.IsL.bel (l := l) h
theorem Sh.IsL.bel {n : Nat} : ∀ {l : List Sh} {vs : List V}, Sh.IsL l vs → V.belL n vs = true
 | [], _, h => by rw [show _ = ([] : List V) from h]; rfl
 | s :: l, _, ⟨a, b, h, h1, h2⟩ => by rw [h]; exact Rn (Sh.Is.bel h1) (Sh.IsL.bel h2)
end
def gIn (W : World) : G := ⟨fun _ => none, fun _ => none, fun b => match W.heap[b]? with
 | some (.cells a _ _) => some (a.toList, a.size)
 | _ => none, fun _ => false, fun _ => false, fun _ => (0, 0), fun _ => default⟩
def Env.inp (P : Program) (W : World) : Env where
 P := P
 B := W.heap.size
 w0 := W
 glob := fun _ => none
 globOk := fun _ _ _ h => by cases h
 γ0 := gIn W
 n0 := 0
 yield := fun _ _ _ _ => False
 yieldMono := fun _ _ _ _ _ _ h => h
theorem Env.inp_sound (P : Program) (W : World) : (Env.inp P W).Sound := fun _ _ _ _ _ _ _ _ _ h => h.elim
theorem Env.inp_rel (P : Program) (W : World) : RelW (Env.inp P W) (gIn W) W AW.empty where
 below := Below.refl _ _
 base := lr _
 con b c sz h := by
  simp only [gIn] at h
  cases hb : W.heap[b]? with
  | none => rw [hb] at h; cases h
  | some o =>
   rw [hb] at h
   cases o <;> try (cases h; done)
   case cells a t fz =>
    cases h
    exact ⟨[], t, fz, by simp, by simp⟩
 own _ _ h := by cases h
 obj _ _ h := by cases h
 bd := ⟨fun _ _ h => (by cases h), fun _ _ h => (by cases h), fun _ h => (by cases h)⟩
 lt _ _ h := by cases h
 inj _ _ _ _ _ h := by cases h
 apart _ _ _ h := by cases h
 glob _ _ h := by cases h
 dfr _ h := by cases h
 dfrB _ h := by cases h
 ext := G.le.refl _ _
 n0 := lr _
theorem gIn_con {W : World} {a : Addr} {v : Value} (h : W.cell? a = some v) : ∃ c : List Value, (gIn W).con a.block = some (c, c.length) ∧ a.spot = none ∧ a.off < c.length ∧ (∀ i, W.cell? ⟨a.block, i, none⟩ = c[i]?) := by
 unfold World.cell? at h
 cases hb : W.heap[a.block]? with
 | none => rw [hb] at h; cases h
 | some o =>
  rw [hb] at h
  cases o <;> try (cases h; done)
  case cells c t fz =>
   simp only at h
   split at h
   ·cases h
   ·rename_i hs
    refine ⟨c.toList, by simp only [gIn, hb]; rfl, by simpa using hs, ?_, fun i => ?_⟩
    ·have := Array.getElem?_eq_some_iff.1 h
     simpa using this.1
    ·simp [World.cell?, hb]
end Go.AL.S
namespace Go.AL.SE
open Go Go.AL Go.AL.S Go.Proofs Go.Sort Go.Shelf Go.RowKit
def laysEd_ren : Go.Shelf.Ren := ⟨fun | 6 => 131 | 15 => 141 | 14 => 169 | 28 => 187 | 29 => 171 | 20 => 218 | 21 => 219 | 22 => 220 | 23 => 221 | 24 => 222 | 25 => 223 | 26 => 224 | 27 => 225 | 46 => 253 | 47 => 232 | 48 => 233 | 49 => 254 | 50 => 255 | 57 => 259 | n => n, fun | 22 => 175 | 24 => 89 | 25 => 220 | 3 => 3 | 39 => 227 | 0 => 0 | 53 => 267 | 55 => 243 | 4 => 4 | 46 => 273 | 45 => 272 | 50 => 101 | 5 => 5 | 9 => 9 | 66 => 316 | 70 => 320 | 76 => 354 | 77 => 355 | n => n, fun | n => n⟩
theorem Xby : Go.Proofs.SlLaysF0.n6 Tryz.prog laysEd_ren := {
 mixed := by kernel_rfl
 f6 := ⟨Tryz.f131.name, by decide, Tryz.func131.trans (congrArg some (by kernel_rfl))⟩
 f14 := ⟨Tryz.f169.name, by decide, Tryz.func169.trans (congrArg some (by kernel_rfl))⟩
 f15 := Tryz.func141.trans (congrArg some (by kernel_rfl))
 f20 := ⟨Tryz.f218.name, by decide, Tryz.func218.trans (congrArg some (by kernel_rfl))⟩
 f21 := ⟨Tryz.f219.name, by decide, Tryz.func219.trans (congrArg some (by kernel_rfl))⟩
 f22 := ⟨Tryz.f220.name, by decide, Tryz.func220.trans (congrArg some (by kernel_rfl))⟩
 f23 := ⟨Tryz.f221.name, by decide, Tryz.func221.trans (congrArg some (by kernel_rfl))⟩
 f24 := ⟨Tryz.f222.name, by decide, Tryz.func222.trans (congrArg some (by kernel_rfl))⟩
 f25 := ⟨Tryz.f223.name, by decide, Tryz.func223.trans (congrArg some (by kernel_rfl))⟩
 f26 := ⟨Tryz.f224.name, by decide, Tryz.func224.trans (congrArg some (by kernel_rfl))⟩
 f27 := ⟨Tryz.f225.name, by decide, Tryz.func225.trans (congrArg some (by kernel_rfl))⟩
 f28 := Tryz.func187.trans (congrArg some (by kernel_rfl))
 f29 := Tryz.func171.trans (congrArg some (by kernel_rfl))
 f46 := ⟨Tryz.f253.name, by decide, Tryz.func253.trans (congrArg some (by kernel_rfl))⟩
 f47 := Tryz.func232.trans (congrArg some (by kernel_rfl))
 f48 := Tryz.func233.trans (congrArg some (by kernel_rfl))
 f49 := ⟨Tryz.f254.name, by decide, Tryz.func254.trans (congrArg some (by kernel_rfl))⟩
 f50 := ⟨Tryz.f255.name, by decide, Tryz.func255.trans (congrArg some (by kernel_rfl))⟩
 f57 := ⟨Tryz.f259.name, by decide, Tryz.func259.trans (congrArg some (by kernel_rfl))⟩
 t0 := Tryz.underlying0
 a0 := Tryz.isAgg0
 z0 := Tryz.sizeOf0
 v0 := Tryz.zeroValue0
 t3 := Tryz.underlying3
 a3 := Tryz.isAgg3
 z3 := Tryz.sizeOf3
 v3 := Tryz.zeroValue3
 t4 := Tryz.underlying4
 a4 := Tryz.isAgg4
 z4 := Tryz.sizeOf4
 v4 := Tryz.zeroValue4
 t5 := Tryz.underlying5
 a5 := Tryz.isAgg5
 z5 := Tryz.sizeOf5
 v5 := Tryz.zeroValue5
 t9 := Tryz.underlying9
 a9 := Tryz.isAgg9
 z9 := Tryz.sizeOf9
 v9 := Tryz.zeroValue9
 t22 := Tryz.underlying175
 a22 := Tryz.isAgg175
 z22 := Tryz.sizeOf175
 v22 := Tryz.zeroValue175
 t25 := Tryz.underlying220
 a25 := Tryz.isAgg220
 z25 := Tryz.sizeOf220
 v25 := Tryz.zeroValue220
 t39 := Tryz.underlying227
 a39 := Tryz.isAgg227
 z39 := Tryz.sizeOf227
 v39 := Tryz.zeroValue227
 t45 := Tryz.underlying272
 a45 := Tryz.isAgg272
 z45 := Tryz.sizeOf272
 v45 := Tryz.zeroValue272
 t46 := Tryz.underlying273
 a46 := Tryz.isAgg273
 z46 := Tryz.sizeOf273
 v46 := Tryz.zeroValue273
 t50 := Tryz.underlying101
 a50 := Tryz.isAgg101
 z50 := Tryz.sizeOf101
 v50 := Tryz.zeroValue101
 t53 := Tryz.underlying267
 a53 := Tryz.isAgg267
 z53 := Tryz.sizeOf267
 v53 := Tryz.zeroValue267
 t55 := Tryz.underlying243
 a55 := Tryz.isAgg243
 z55 := Tryz.sizeOf243
 v55 := Tryz.zeroValue243
 t66 := Tryz.underlying316
 a66 := Tryz.isAgg316
 z66 := Tryz.sizeOf316
 v66 := Tryz.zeroValue316
 t70 := Tryz.underlying320
 a70 := Tryz.isAgg320
 z70 := Tryz.sizeOf320
 v70 := Tryz.zeroValue320
 t76 := Tryz.underlying354
 a76 := Tryz.isAgg354
 z76 := Tryz.sizeOf354
 v76 := Tryz.zeroValue354
 t77 := Tryz.underlying355
 a77 := Tryz.isAgg355
 z77 := Tryz.sizeOf355
 v77 := Tryz.zeroValue355 }
variable {E : Env}
theorem Ys {P : Program} {f : FuncId} {W : World} {vs : List V} {ws : List Value} {n : Int} (hr : RelL (gIn W) vs ws) (h : ACalls (Env.inp P W) f vs AW.empty fun Y _ => Y = .int .i64 n) :
  Calls P f ws.toArray W fun e w' => e = .returned (.int .i64 n) ∧ ∃ q os, w' = Sort.grow (W.drewN q) os := by
 refine (h.2 (Env.inp_sound P W) _ _ ws (Env.inp_rel P W) hr).mono ?_
 rintro e w' ⟨v, γ', Y, W', rfl, _, _, h4, h5, rfl⟩
 cases h5
 obtain ⟨⟨h1, h2, h3, h6, h7⟩, h8⟩ := h4.below
 refine ⟨rfl, w'.drawn - W.drawn, w'.heap.extract W.heap.size w'.heap.size, ?_⟩
 have hh : w'.heap = W.heap ++ w'.heap.extract W.heap.size w'.heap.size := by
  refine Array.ext_getElem? fun k => ?_
  rw [Array.getElem?_append]
  split
  ·rename_i hk; exact h7 k hk
  ·rename_i hk
   rw [Array.getElem?_extract]
   split
   ·congr 1; omega
   ·exact Array.getElem?_eq_none (by omega)
 have hd : W.drawn + (w'.drawn - W.drawn) = w'.drawn := by have : W.drawn ≤ w'.drawn := h8; omega
 have e1 : (Env.inp P W).w0 = W := rfl
 rw [e1] at h1 h2 h3
 cases w'
 simp only at h1 h2 h3 hh hd
 subst h1 h2 h3
 simp only [Sort.grow, World.drewN, hd]
 congr 1
def encE (e : Ed) : List Value := [.int .u16 e.fr, .int .u16 e.to, .int .u8 e.kd]
theorem Ky {γ : G} : ∀ {l : List Ed} {c : List Value}, RelL γ (cellsL l) c → c = l.flatMap encE
 | [], _, h => h
 | e :: l, _, ⟨_, _, rfl, h1, _, _, rfl, h2, _, _, rfl, h3, h⟩ => by
  cases h1; cases h2; cases h3
  rw [List.flatMap_cons, ← Ky (l := l) h]; rfl
theorem Lx {γ : G} : ∀ {l : List Ed}, RelL γ (cellsL l) (l.flatMap encE)
 | [] => rfl
 | _ :: l => ⟨_, _, rfl, rfl, _, _, rfl, rfl, _, _, rfl, rfl, Lx (l := l)⟩
theorem V0 : ∀ (l : List Ed) (t : Nat), t < l.length * 3 → (l.flatMap encE)[t]? = some ((encE l[t / 3]!)[t % 3]!)
 | e :: l, t, h => by
  rw [List.flatMap_cons]
  by_cases h3 : t < 3
  ·rw [List.getElem?_append_left (by simpa [encE] using h3), Nat.div_eq_of_lt h3, Nat.mod_eq_of_lt h3]
   have : t = 0 ∨ t = 1 ∨ t = 2 := by omega
   rcases this with rfl | rfl | rfl <;> rfl
  ·obtain ⟨s, rfl⟩ : ∃ s, t = s + 3 := ⟨t - 3, by omega⟩
   rw [List.getElem?_append_right (by simp [encE]), show s + 3 - (encE e).length = s by simp [encE], V0 l s (by simp only [lcs] at h; omega), show (s + 3) / 3 = s / 3 + 1 by omega, show (s + 3) % 3 = s % 3 by omega]
   rfl
theorem C3 (l : List Ed) : (l.flatMap encE).length = l.length * 3 := by
 induction l with
 | nil => rfl
 | cons e l ih => rw [List.flatMap_cons, lap, ih, lcs]; simp [encE]; omega
theorem Vz (d : Array Ed) : (flatK encE 3 d).toList = d.toList.flatMap encE := by
 refine List.ext_getElem? fun t => ?_
 by_cases h : t < d.size * 3
 ·rw [V0 _ _ (by simpa using h), Array.getElem?_toList, Array.getElem?_eq_getElem (by simpa using h), ← getElem!_pos _ t (by simpa using h), get_flatK _ _ _ _ h]
  have h3 : t / 3 < d.size := by omega
  simp [h3]
 ·rw [List.getElem?_eq_none (by simpa using h), List.getElem?_eq_none (by rw [C3]; simpa using h)]
theorem R6 (hP : PE E) (W : AW) (r n : Nat) (d : Array Ed) (hn : d.size = n) (hpos : 0 < n) (hsm : n < 4294967296) :
  ACalls E 131 [.slr r 0 n 3, (.fn (.func 109) [] [])] (pv W r d) fun X W' => X = .tuple [] ∧ W' = pv W r (sort ltE d) := by
 refine ⟨⟨_, _, by rw [hP]; exact Tryz.func131, rfl, by decide⟩, fun _ γ w ws hW hr => ?_⟩
 obtain ⟨v, _, rfl, ⟨b, a, hb, rfl, hcap, ha, _⟩, v2, _, rfl, ⟨fs, cs2, rfl, hf1, hf2⟩, rfl⟩ := hr
 cases hf1; cases hf2
 have hg : (pv W r d).get r = some (.vec 3 (cellsE d)) := F7
 obtain ⟨b', pre, c, t, e, hb', hheap, hp, hcl, hz⟩ := hW.obj r _ hg
 rw [hb] at hb'; cases hb'
 obtain rfl := ha (by omega)
 have hc : c = (flatK encE 3 d).toList := by rw [Vz]; exact Ky hcl
 have hbl := (hW.apart r _ b hg hb).2.1
 have hcs : c.length = d.size * 3 := by rw [hc]; simp
 have eg : ∀ args w, (callFunc 109 args).run Tryz.prog w = .ok (.enter 109 args) w := enters_of Tryz.func109 (by kernel_rfl) rfl
 have hcmp : CmpLays Tryz.prog 109 #[] encE 3 cmpE b pre.length d.size w := fun m os dk hs x y =>
  Ys (P := Tryz.prog) (vs := [x.V, y.V]) (ws := [.agg (encE x).toArray, .agg (encE y).toArray]) ⟨_, _, rfl, ⟨encE x, rfl, ⟨_, _, rfl, rfl, _, _, rfl, rfl, _, _, rfl, rfl, rfl⟩⟩, _, _, rfl, ⟨encE y, rfl, ⟨_, _, rfl, rfl, _, _, rfl, rfl, _, _, rfl, rfl, rfl⟩⟩, rfl⟩ ((Cq rfl AW.empty x y).mono fun _ _ h => h.1)
 have hk := AnyQ.slices_SortFunc Xby 3 Tryz.isAgg89 Tryz.sizeOf89 encE (fun _ => rfl) (fun x v hv => by
  simp only [encE, List.mem_cons, List.not_mem_nil, or_false] at hv
  rcases hv with rfl | rfl | rfl <;> rfl) cmpE Gk 109 #[] b pre.length ((γ.vb r).2 - 0) d w eg hcmp (Ld id (flatK encE 3 d) hheap (by rw [hc]; simp)) hbl (by omega)
 rw [hP]
 rw [hn] at hk
 rw [show (γ.vb r).1 + 0 * 3 = pre.length by omega]
 refine Calls.mono hk ?_
 rintro en w' ⟨rfl, d', m, os, hpm, hso, rfl⟩
 have huq : ∀ {x : Array Ed}, PermIn 0 d.size d x → SortedIn ltE 0 d.size x → _ := fun {x} h1 h2 => sorted_unique_holds Gk (fun _ _ => Qq) d x h1 h2
 have hd' : d' = sort ltE d := by
  exact Array.toList_inj.1 ((huq (by rw [hn]; exact hpm) (by rw [hn]; exact hso)).trans (huq (sort_sorts ltE Gk d).1 (sort_sorts ltE Gk d).2).symm)
 have hds : d'.size = d.size := hpm.1
 refine ⟨_, γ, .tuple [], pv (pv W r d) r d', rfl, G.le.refl _ _, lr _, hW.laid hg hb hheap hp hz id (flatK encE 3 d') (by rw [size_flatK, hcs, hds]) ?_ m os, ⟨[], rfl, rfl⟩, rfl, by rw [pv_pv, hd']⟩
 rw [List.map_id, Vz]
 exact Lx
theorem Kr (hP : PE E) (W : AW) : ACalls E 131 [.nilsl, (.fn (.func 109) [] [])] W fun X W' => X = .tuple [] ∧ W' = W := by
 refine ⟨⟨_, _, by rw [hP]; exact Tryz.func131, rfl, by decide⟩, fun _ γ w ws hW hr => ?_⟩
 obtain ⟨v, _, rfl, rfl, v2, _, rfl, _, rfl⟩ := hr
 rw [hP]
 refine Calls.mono (AnyF.slices_SortFunc_none Xby none 0 v2 w) ?_
 rintro en w' ⟨rfl, rfl⟩
 exact ⟨_, γ, .tuple [], W, rfl, G.le.refl _ _, lr _, hW, ⟨[], rfl, rfl⟩, rfl, rfl⟩
end Go.AL.SE
namespace Go.AL.SE
open Go Go.AL Go.AL.S Go.Proofs Go.Sort
def c_e46 : AC := (.r [.u 4 (.load false 1) 1,.u 5 .rangem 4] (.block 0 (.loop (.r [.u 6 .nextm 5,.u 7 (.ext 0) 6] (.seq (.w 7 0) (.block 1 (.r [.u 8 .entry 5,.u 9 (.ext 0) 8,.p 3 (.alloc [.int .u16 0,.int .u16 0,.int .u8 0]) [],⟨none,.store 3, [.t 3,.t 9], none⟩] (.r [.m 10 0,.u 11 (.load true 3) 3,.b 12 .callv 10 11,.u 13 (.un .not) 12] (.cond (.t 13) .ret .skip)))))))))
theorem ok_e46e : compF Tryz.prog Tryz.f132 ⟨true, false, []⟩ = some (c_e46, [], 14) := by kernel_rfl
def c_e53 : AC := (.r [.u 2 .box 0,.v 4 (.nilsl)] (.seq (.r [.m 6 1] (.block 0 (.rangef (.t 6) [7] (.reg [.p 5 (.alloc [.int .u16 0,.int .u16 0,.int .u8 0]) [],⟨none,.store 3, [.t 5,.t 7], none⟩]) (.block 1 (.reg [.u 8 (.load false 1) 2,.u 9 (.load true 3) 5,.u 10 (.bslice 3 1 (.agg [.int .u16 0,.int .u16 0,.int .u8 0]) [0]) 9,.b 11 (.appendx 3 6 [.int .u16 0,.int .u16 0,.int .u8 0]) 8 10,⟨none,.store 1, [.t 2,.t 11], none⟩]))))) (.r [.u 12 (.load false 1) 2,.m 4 12] .ret)))
theorem ok_e53e : compF Tryz.prog Tryz.f168 ⟨true, false, []⟩ = some (c_e53, [.tmp 4], 13) := by kernel_rfl
def c_e44 : AC := (.r [.v 2 (.nilsl)] (.r [.m 3 0,.p 4 (.call 168) [.c (.nilsl),.t 3],.m 2 4] .ret))
theorem ok_e44e : compF Tryz.prog Tryz.f130 ⟨true, false, []⟩ = some (c_e44, [.tmp 2], 5) := by kernel_rfl
def c_e34 : AC := (.r [.v 4 (.nilsl)] (.r [.m 6 0,.u 7 (.call 130) 6,.m 5 7] (.r [.m 8 5,.m 9 1,.b 10 (.call 131) 8 9] (.r [.m 11 5,.m 4 11] .ret))))
theorem ok_e34e : compF Tryz.prog Tryz.f107 ⟨true, false, []⟩ = some (c_e34, [.tmp 4], 12) := by kernel_rfl
def c_e35 : AC := (.r [.u 1 .box 0,.v 2 (.nilfn)] (.r [.u 3 (.mkfn (.func 132) 0) 1,.m 2 3] .ret))
theorem ok_e35e : compF Tryz.prog Tryz.f108 ⟨true, false, []⟩ = some (c_e35, [.tmp 2], 4) := by kernel_rfl
variable {E : Env}
def edOf (e : En) : Ed := match e.1 with
 | .agg [.int _ a, .int _ b, .int _ c] => ⟨a, b, c⟩
 | _ => ⟨0, 0, 0⟩
theorem S7 (hP : PE E) {W : AW} {y pb m clock : Nat} {es : List En} (hb : W.get pb = some (.row [.map m])) (hm : W.get m = some (.map es clock)) (hf : Fresh es clock) (hlt : m < W.nx) (_ : pb < W.nx)
  (hk : ∀ e ∈ es, e.1 = (edOf e).V) (J : List En → AW → Prop) (h0 : J [] (W.alloc (.iter (some m) clock [] clock)))
  (hJ : ∀ done W1, J done W1 → Cl W1 ∧ W.nx < W1.nx ∧ W1.get W.nx = some (.iter (some m) clock (stamps done) clock) ∧ W1.get m = some (.map es clock))
  (hmono : ∀ (vs : List V) (W1 : AW) (K K' : V → AW → Prop), (∀ v W', K v W' → K' v W') → E.yield y vs W1 K → E.yield y vs W1 K')
  (hy : ∀ done e W1, J done W1 → e ∈ es → e.2.2 ∉ stamps done → done.length < es.length → E.yield y [(edOf e).V] (X (W1.put W.nx (.iter (some m) clock (stamps done ++ [e.2.2]) clock)) W1.nx [.row (cE (edOf e))]) (fun Y W2 => Y = .bool true ∧ J (done ++ [e]) W2)) :
  ACalls E 132 [.yld y, .ptr pb 0] W fun Y W' => Y = .tuple [] ∧ ∃ done : List En, done.Perm es ∧ J done W' := by
 refine ACalls.of hP Tryz.func132 ok_e46e (by simp) fun _ hok => ?_
 have hl : partV [V.map m] 0 1 false = some (.map m) := rfl
 simp only [c_e46, BZ, ↓reduceIte, Cs hb hl, G9 hm, Ai]
 refine alp (fun (done : List En) A1 W1 => A1 0 = some (.yld y) ∧ A1 5 = some (.ptr W.nx 0) ∧ J done W1 ∧ (stamps done).Nodup ∧ ∀ e ∈ done, e ∈ es) (fun done => es.length - done.length) []
  ⟨rfl, rfl, h0, List.nodup_nil, by simp⟩ ?_
 rintro done A1 W1 ⟨g0, g5, gJ, gn, gs⟩ _
 obtain ⟨k0, k1, k2, k3⟩ := hJ _ _ gJ
 simp only [BX, ↓reduceIte, nE, g5, Iv k2 k3]
 refine ⟨?_, ?_, ?_⟩
 ·cases es with
  | nil => exact .inr (.inl rfl)
  | cons e es => exact .inr (.inr ⟨e, by simp, hf.lt e (by simp)⟩)
 ·intro hall
  refine ⟨_, rfl, _, _, .weak Ab, Nat.le_of_lt k1, rfl, done, ?_, gJ⟩
  refine Ew (Ax gn) (Ax hf.nodup) fun x => ⟨gs x, fun hx => ?_⟩
  by_cases hm' : x.2.2 ∈ stamps done
  ·obtain ⟨x', h1, h2⟩ := List.mem_map.1 hm'
   rwa [← Hb hf.nodup (gs x' h1) hx h2]
  ·have := hall x hx hm'
   have := hf.lt x hx
   omega
 ·intro e he hne
  have hlen : done.length < es.length := by
   have h1 := Cc (l := done ++ [e]) (m := es) (Ax (by
     simp only [stamps, mpp, mcs, List.map_nil]
     exact List.nodup_append.2 ⟨gn, by simp, fun a ha b hb => by
      rw [List.mem_singleton.1 hb]
      exact fun e' => hne (e' ▸ ha)⟩)) (fun x hx => by
      rcases List.mem_append.1 hx with hx | hx
      ·exact gs x hx
      ·rw [List.mem_singleton.1 hx]; exact he)
   simp at h1; omega
  obtain ⟨W2, hW2⟩ : ∃ W2, W2 = W1.put W.nx (.iter (some m) clock (stamps done ++ [e.2.2]) clock) := ⟨_, rfl⟩
  have hyv := hy done e W1 gJ he hne hlen
  rw [← hW2] at hyv ⊢
  have hn2 : W2.nx = W1.nx := by rw [hW2]; rfl
  have hC2 : Cl W2 := by rw [hW2]; exact k0.put k1
  have hne' : m ≠ W.nx := by omega
  have j1 : W2.get W.nx = some (.iter (some m) clock (stamps done ++ [e.2.2]) clock) := by rw [hW2, S.put_at]
  have j2 : W2.get m = some (.map es clock) := by rw [hW2, S.put_ne hne']; exact k3
  have j3 : (stamps done ++ [e.2.2]).getLast? = some e.2.2 := by simp
  rw [Iw j1 j2 j3 (Fresh.find hf.nodup he), hk e he]
  rw [← hn2] at hyv
  rw [hC2.start]
  simp only [BZ, ↓reduceIte, nE, reduceCtorEq, BM, BD, nA, nL, nT, Ed.V, g0, Dr]
  refine hmono _ _ _ _ ?_ hyv
  rintro Y W3 ⟨rfl, gJ2⟩
  obtain ⟨l0, l1, l2, l3⟩ := hJ _ _ gJ2
  simp only [BS, BC, Ac, ↓reduceIte, nE, reduceCtorEq, BD, g0, g5]
  refine ⟨done ++ [e], ⟨tt, tt, gJ2, ?_, ?_⟩, ?_, ?_⟩
  ·simp only [stamps, mpp, mcs, List.map_nil]
   exact List.nodup_append.2 ⟨gn, by simp, fun a ha b hb => by
    rw [List.mem_singleton.1 hb]
    exact fun e' => hne (e' ▸ ha)⟩
  ·intro x hx
   rcases List.mem_append.1 hx with hx | hx
   ·exact gs x hx
   ·rw [List.mem_singleton.1 hx]; exact he
  ·simp; omega
  ·rw [Ad]; omega
theorem bs3 {W : AW} {K : V → AW → Prop} {a b c : V} (_ : a.cells = [a]) (_ : b.cells = [b]) (_ : c.cells = [c]) : sem E (.bslice 3 1 (.agg [.int .u16 0, .int .u16 0, .int .u8 0]) [0]) [.agg [a, b, c]] W K = K (.sl 3 true [.agg [a, b, c]]) W := by
 simp [sem, rsem, tsem, fillE, V.cells]
theorem Y0 {W : AW} {K : V → AW → Prop} {by' : Nat} {z : List V} {v : V} (h : by' ≤ 2 ^ 46) : sem E (.appendx 3 by' z) [.nilsl, .sl 3 true [v]] W K = K (.slr W.nx 0 1 3) (W.alloc (.vec 3 v.cells)) := by
 simp [sem, elemsV, h]
theorem Yz {W : AW} {K : V → AW → Prop} {by' r len : Nat} {z cells : List V} {v : V} (hg : W.get r = some (.vec 3 cells)) (hl : cells.length = len * 3) (hv : v.cells.all V.one = true) (h : (len + 1) * by' ≤ 2 ^ 46) :
  sem E (.appendx 3 by' z) [.slr r 0 len 3, .sl 3 true [v]] W K = K (.slr W.nx 0 (len + 1) 3) (W.move r (.vec 3 (cells ++ v.cells))) := by
 have ht : cells.take (len * 3) = cells := List.take_of_length_le (by omega)
 simp only [sem, elemsV, hg]
 simp [hl, hv, h, ht]
theorem X_move {W : AW} {n r : Nat} {l : List AObj} {o : AObj} (h : r < n) : (X W n l).move r o = X (W.drop r) n (l ++ [o]) := by
 refine Ji (fun x => ?_) (by simp [AW.move, X, Nat.add_assoc])
 rw [E2]
 simp only [AW.move, Ar, rf, E2, AW.drop]
 by_cases h1 : x = n + l.length
 ·subst h1
  rw [if_pos rfl, if_neg (by omega)]
  simp
 ·rw [if_neg h1]
  by_cases h2 : x = r
  ·subst h2
   rw [if_pos rfl, if_pos h, if_pos rfl]
  ·rw [if_neg h2]
   by_cases h3 : x < n
   ·rw [if_pos h3, if_pos h3, if_neg h2]
   ·rw [if_neg h3, if_neg h3, List.getElem?_append]
    split
    ·rfl
    ·rw [List.getElem?_eq_none (by omega), List.getElem?_eq_none (by simp; omega)]
theorem drop_ne {W : AW} {r x : Nat} (h : x ≠ r) : (W.drop r).get x = W.get x := by simp [AW.drop, h]
theorem Nk {r k l s : Nat} : (V.slr r k l s).cells = [.slr r k l s] := id rfl
theorem Ut {r k l s : Nat} : (V.slr r k l s).one = true := id rfl
theorem Ts (hP : PE E) {W : AW} {pb m clock : Nat} {es : List En} (hb : W.get pb = some (.row [.map m])) (hm : W.get m = some (.map es clock)) (hf : Fresh es clock) (hpb : pb < W.nx) (hmlt : m < W.nx)
  (hk : ∀ e ∈ es, e.1 = (edOf e).V) (hsz : es.length < 2 ^ 40) :
  ACalls E 168 [.nilsl, .fn (.func 132) [] [.ptr pb 0]] W fun Y W' => ∃ done : List En, done.Perm es ∧ Ex W W' ∧
   ((done = [] ∧ Y = .nilsl) ∨ ∃ r, (W.nx ≤ r ∧ done ≠ []) ∧ r < W'.nx ∧ Y = .slr r 0 done.length 3 ∧ W'.get r = some (.vec 3 (cellsL (done.map edOf)))) := by
 refine ACalls.of hP Tryz.func168 ok_e53e (by simp) fun _ hok => ?_
 refine Ae hok ?_
 simp only [c_e53, BZ, ↓reduceIte, nE, BM, BD, Dg]
 intro E' eP eG ey _
 have hP' : E'.P = Tryz.prog := eP.trans hP
 obtain ⟨W0, hW0⟩ : ∃ W0, W0 = X W W.nx [.row [.nilsl], .loop .ready none] := ⟨_, rfl⟩
 rw [← hW0]
 have hn0 : W0.nx = W.nx + 2 := by rw [hW0]; rfl
 have hE0 : Ex W W0 := by rw [hW0]; exact .x0
 have hq0 : W0.get (W.nx + 0) = some (.row [.nilsl]) := by rw [hW0]; exact Ap (k := 0)
 have hr0 : W0.get (W.nx + 1) = some (.loop .ready none) := by rw [hW0]; exact Ap (k := 1)
 have r0 : rf W.nx 0 = W.nx + 0 := rfl
 have r1 : rf W.nx 1 = W.nx + 1 := rfl
 refine (S7 (E := E') hP' (W := W0) (y := rf W.nx 1) (pb := pb) (m := m) (clock := clock) (es := es) (by rw [hE0.get _ hpb]; exact hb) (by rw [hE0.get _ hmlt]; exact hm) hf (by omega) (by omega) hk
  (fun done W1 => Cl W1 ∧ W0.nx < W1.nx ∧ W1.get W0.nx = some (.iter (some m) clock (stamps done) clock) ∧ (∀ x, x < W.nx → W1.get x = W.get x) ∧ W1.get (W.nx + 1) = some (.loop .ready none) ∧
   ((done = [] ∧ W1.get (W.nx + 0) = some (.row [.nilsl])) ∨ ∃ r, (W0.nx < r ∧ done ≠ []) ∧ r < W1.nx ∧ W1.get (W.nx + 0) = some (.row [.slr r 0 done.length 3]) ∧ W1.get r = some (.vec 3 (cellsL (done.map edOf))))) ?_ ?_ (fun vs W1 K K' hh hy => E'.yieldMono _ _ _ _ _ hh hy) ?_).mono ?_
 ·refine ⟨fun x hx => ?_, by rw [Ad]; omega, by rw [Ay]; rfl, fun x hx => by rw [Ak (by omega), hE0.get x hx], by rw [Ak (by omega)]; exact hr0, .inl ⟨rfl, by rw [Ak (by omega)]; exact hq0⟩⟩
  rw [Ad] at hx
  rw [Ci, if_neg (by omega)]
  exact hE0.cl x (by omega)
 ·rintro done W1 ⟨j0, j1, j2, j3, j4, j5⟩
  exact ⟨j0, j1, j2, by rw [j3 m hmlt]; exact hm⟩
 ·rintro done e W1 ⟨j0, j1, j2, j3, j4, j5⟩ he hne hlen
  apply ey
  have hst : ∀ (l : List En), stamps (l ++ [e]) = stamps l ++ [e.2.2] := fun l => by simp [stamps]
  refine ⟨by rw [Ag (by omega), put_ne (by omega)]; exact j4, rfl, ?_⟩
  rw [← r0] at j5
  rw [← r1] at j4
  have hcl : cellsL ([e].map edOf) = cE (edOf e) := by simp [cellsL]
  rcases j5 with ⟨rfl, j5⟩ | ⟨r, ⟨q1, q2⟩, q3, j5, q4⟩
  ·simp (disch:=omega) only [BS, BC, ↓reduceIte, nE, reduceCtorEq, BM, BD, nA, nL, nT, O6, O7, Ed.V, cE, S.put_ne, S.put_at, j4, j5, bs3 Dd Dd Dd, Y0 (by' := 6) (by decide), Nk, Ut]
   refine ⟨tt, tt, tt, Cl.X, (by first | omega | (simp only [rf]; omega) | (simp only [rf, X, lcs, List.length_nil, Nat.zero_add]; omega) | (simp [rf, X]; omega)), ?_, fun x hx => ?_, ?_, .inr ⟨rf W1.nx 2, ⟨(by first | omega | (simp only [rf]; omega) | (simp only [rf, X, lcs, List.length_nil, Nat.zero_add]; omega) | (simp [rf, X]; omega)), by simp⟩, by simp [rf], ?_, ?_⟩⟩
   ·(try simp (disch:=omega) only [Ag, S.put_ne, S.put_at]); rfl
   ·(try simp (disch:=omega) only [Ag, S.put_ne]); exact j3 x hx
   ·rw [← r1]; simp (disch:=omega) only [S.put_at]
   ·show AW.get _ (rf W.nx 0) = _; (try simp (disch:=omega) only [S.put_at]); (try rfl)
   ·(try rw [Ap]); (try simp only [List.nil_append, hcl]); (try rfl)
  ·have hcn : (cellsL (done.map edOf)).length = done.length * 3 := by rw [Ho]; simp
   have happ : ∀ (o : List AObj) o1 o2 K (a b c : Int), sem E (.appendx 3 6 [.int .u16 0, .int .u16 0, .int .u8 0]) [.slr r 0 done.length 3, .sl 3 true [.agg [.int .u16 a, .int .u16 b, .int .u8 c]]] (X ((W1.put W0.nx o1).put (rf W.nx 1) o2) W1.nx o) K = K (.slr (rf W1.nx o.length) 0 (done.length + 1) 3) (X (((W1.put W0.nx o1).put (rf W.nx 1) o2).drop r) W1.nx (o ++ [.vec 3 (cellsL (done.map edOf) ++ [.int .u16 a, .int .u16 b, .int .u8 c])])) := fun o o1 o2 K a b c => by
    rw [Yz (v := .agg [.int .u16 a, .int .u16 b, .int .u8 c]) (len := done.length) (cells := cellsL (done.map edOf)) (by rw [Ag q3, S.put_ne (by omega), S.put_ne (by omega)]; exact q4) hcn rfl (by omega), X_move q3]
    rfl
   have hdrop : ∀ (B : AW) x, x ≠ r → (B.drop r).get x = B.get x := fun B x hx => drop_ne hx
   simp (disch:=omega) only [BS, BC, ↓reduceIte, nE, BM, BD, nA, nL, nT, O6, O7, Ed.V, cE, S.put_ne, S.put_at, j4, j5, bs3 Dd Dd Dd, happ, hdrop, Nk, Ut]
   refine ⟨tt, tt, tt, Cl.X, (by first | omega | (simp only [rf]; omega) | (simp only [rf, X, lcs, List.length_nil, Nat.zero_add]; omega) | (simp [rf, X]; omega)), ?_, fun x hx => ?_, ?_, .inr ⟨rf W1.nx 2, ⟨(by first | omega | (simp only [rf]; omega) | (simp only [rf, X, lcs, List.length_nil, Nat.zero_add]; omega) | (simp [rf, X]; omega)), by simp⟩, by simp [rf], ?_, ?_⟩⟩
   ·(try simp (disch:=omega) only [Ag, S.put_ne, S.put_at, hdrop]); rw [hst]
   ·(try simp (disch:=omega) only [Ag, S.put_ne, hdrop]); exact j3 x hx
   ·rw [← r1]; simp (disch:=omega) only [S.put_at]
   ·show AW.get _ (rf W.nx 0) = _; simp (disch:=omega) only [S.put_at]
   ·(try rw [Ap]); simp only [mpp, cellsL, List.flatMap_append]; simp [cE]
 ·rintro Y W1 ⟨rfl, done, hperm, j0, j1, j2, j3, j4, j5⟩
  rw [← r0] at j5
  rw [← r1] at j4
  simp only [doneQ, j4]
  have hC : Cl (W1.put (rf W.nx 1) (.loop .exhausted none)) := j0.put (by omega)
  have hx : ∀ x, x < W.nx → (W1.put (rf W.nx 1) (.loop .exhausted none)).get x = W.get x := fun x hx => by rw [S.put_ne (by omega)]; exact j3 x hx
  rcases j5 with ⟨rfl, j5⟩ | ⟨r, ⟨q1, q2⟩, q3, j5, q4⟩
  ·simp (disch:=omega) only [BZ, ↓reduceIte, nE, BM, S.put_ne, j5]
   exact ⟨_, rfl, _, _, .weak Ab, by rw [Af]; omega, [], hperm, ⟨hC, by rw [Af]; omega, hx⟩, .inl ⟨rfl, rfl⟩⟩
  ·simp (disch:=omega) only [BZ, ↓reduceIte, nE, BM, S.put_ne, j5]
   exact ⟨_, rfl, _, _, .weak Ab, by rw [Af]; omega, done, hperm, ⟨hC, by rw [Af]; omega, hx⟩, .inr ⟨r, ⟨by omega, q2⟩, by rw [Af]; exact q3, rfl, by rw [S.put_ne (by omega)]; exact q4⟩⟩
theorem Gi (hP : PE E) {W : AW} {pb m clock : Nat} {es : List En} (hb : W.get pb = some (.row [.map m])) (hm : W.get m = some (.map es clock)) (hf : Fresh es clock) (hpb : pb < W.nx) (hmlt : m < W.nx)
  (hk : ∀ e ∈ es, e.1 = (edOf e).V) (hsz : es.length < 2 ^ 40) :
  ACalls E 130 [.fn (.func 132) [] [.ptr pb 0]] W fun Y W' => ∃ done : List En, done.Perm es ∧ Ex W W' ∧
   ((done = [] ∧ Y = .nilsl) ∨ ∃ r, (W.nx ≤ r ∧ done ≠ []) ∧ r < W'.nx ∧ Y = .slr r 0 done.length 3 ∧ W'.get r = some (.vec 3 (cellsL (done.map edOf)))) := by
 refine ACalls.of hP Tryz.func130 ok_e44e (by simp) fun _ hok => ?_
 simp only [c_e44, BZ, ↓reduceIte, reduceCtorEq]
 refine (Ts hP hb hm hf hpb hmlt hk hsz).mono ?_
 rintro Y W' ⟨done, h1, h2, h3⟩
 have hfr : W'.frz Y = Y := by rcases h3 with ⟨_, rfl⟩ | ⟨r, _, _, rfl, _⟩ <;> rfl
 simp only [BS, BC, ↓reduceIte, hfr]
 exact ⟨_, rfl, _, _, .weak Ab, h2.nx, done, h1, h2, h3⟩
theorem Ks (d : Array Ed) : (sort ltE d).toList.Perm d.toList := by
 have := (sort_sorts ltE Gk d).1
 have h := this.2.2
 rw [show (sort ltE d).extract 0 d.size = (sort ltE d) from by rw [← this.1]; simp, show d.extract 0 d.size = d from by simp] at h
 exact h
theorem Zm (d : Array Ed) : (sort ltE d).toList.Pairwise fun a b => ltE b a = false := by
 have hp := Ks d
 have := (sort_sorts ltE Gk d).2
 rw [List.pairwise_iff_getElem]
 intro i j hi hj hij
 have hs : (sort ltE d).size = d.size := by simpa using hp.length_eq
 have h1 := this i j (Nat.zero_le _) hij (by simpa [hs] using hj)
 have hi' : i < (sort ltE d).size := by simpa using hi
 have hj' : j < (sort ltE d).size := by simpa using hj
 simpa [hi', hj'] using h1
def sortL (l : List Ed) : List Ed := (sort ltE l.toArray).toList
theorem Eo (l : List Ed) : (sortL l).Perm l := Ks l.toArray
theorem Pr (l : List Ed) : (sortL l).Pairwise fun a b => ltE b a = false := Zm _
theorem Nv {l m : List Ed} (h : l.Perm m) (hm : m.Pairwise fun a b => ltE b a = false) : sortL l = m := by
 refine ((Eo l).trans h).eq_of_pairwise ?_ (Pr l) hm
 intro x y _ _ h1 h2
 exact Qq h2 h1
theorem Zk {l l' : List Ed} (h : l.Perm l') : sortL l = sortL l' := Nv (h.trans (Eo l').symm) (Pr l')
def sortedEV (l : List Ed) : V := if l = [] then .nilsl else .sl 3 false ((sortL l).map Ed.V)
theorem Wi : ∀ (l : List Ed), chunks 3 l.length (cellsL l) = l.map Ed.V
 | [] => rfl
 | e :: l => by
  have := Wi l
  show (if 3 = 1 then _ else V.agg ((cellsL (e :: l)).take 3)) :: chunks 3 l.length ((cellsL (e :: l)).drop 3) = _
  rw [if_neg (by decide), show cellsL (e :: l) = cE e ++ cellsL l from rfl, show (cE e ++ cellsL l).drop 3 = cellsL l from rfl, this]
  rfl
theorem K3 : ∀ (l : List Ed), (cellsL l).all V.one = true
 | [] => rfl
 | e :: l => by
  rw [show cellsL (e :: l) = cE e ++ cellsL l from rfl, List.all_append, K3 l]; rfl
theorem Pd (n : Nat) : ∀ (l : List Ed), V.belL n (l.map Ed.V) = true
 | [] => rfl
 | e :: l => by
  simp only [mcs, V.belL, Bool.and_eq_true]
  exact ⟨rfl, Pd n l⟩
theorem Wt (hP : PE E) {W : AW} {pb m clock : Nat} {es : List En} (hb : W.get pb = some (.row [.map m])) (hm : W.get m = some (.map es clock)) (hf : Fresh es clock) (hpb : pb < W.nx) (hmlt : m < W.nx)
  (hk : ∀ e ∈ es, e.1 = (edOf e).V) (hsz : es.length < 4294967296) :
  ACalls E 107 [.fn (.func 132) [] [.ptr pb 0], (.fn (.func 109) [] [])] W fun Y W' => Y = sortedEV (es.map edOf) ∧ W' = W := by
 refine ACalls.of hP Tryz.func107 ok_e34e (by simp) fun _ hok => ?_
 simp only [c_e34, BZ, ↓reduceIte, reduceCtorEq]
 refine (Gi hP hb hm hf hpb hmlt hk (by omega)).mono ?_
 rintro Y W' ⟨done, h1, h2, h4⟩
 rcases h4 with ⟨rfl, rfl⟩ | ⟨r, ⟨hr, hne⟩, hrn, rfl, hg⟩
 ·obtain rfl : es = [] := h1.symm.eq_nil
  simp only [BZ, ↓reduceIte, nE]
  refine pc (Kr hP _) ?_
  simp only [BZ, ↓reduceIte, nE]
  exact ⟨_, rfl, _, W, h2.back hok rfl, lr _, rfl, rfl⟩
 ·have hlen : done.length = es.length := h1.length_eq
  have hsd : (done.map edOf).toArray.size = done.length := by simp
  have hce : cellsL (done.map edOf) = cellsE (done.map edOf).toArray := by simp [cellsE]
  rw [hce] at hg
  have hpv := N5 hg
  simp only [BZ, ↓reduceIte, nE]
  rw [← hpv]
  refine (R6 hP W' r done.length (done.map edOf).toArray hsd (List.length_pos_iff.2 hne) (by omega)).mono ?_
  rintro Y W'' ⟨rfl, rfl⟩
  simp only [BZ, ↓reduceIte, nE]
  have hzl : (sortL (done.map edOf)).length = done.length := by rw [(Eo _).length_eq]; simp
  have hzs : cellsE (sort ltE (done.map edOf).toArray) = cellsL (sortL (done.map edOf)) := rfl
  have hpos : 0 < done.length := List.length_pos_iff.2 hne
  have hX : V.sl 3 false ((sortL (done.map edOf)).map Ed.V) = sortedEV (es.map edOf) := by
   have : es.map edOf ≠ [] := by
    intro e
    have := congrArg List.length e
    simp at this
    subst this
    simp at hlen
    exact hne hlen
   rw [sortedEV, if_neg this, Zk (h1.map edOf)]
  have hch : chunks 3 done.length (cellsL (sortL (done.map edOf))) = (sortL (done.map edOf)).map Ed.V := by rw [← hzl]; exact Wi _
  refine ⟨_, rfl, .sl 3 false ((sortL (done.map edOf)).map Ed.V), W, ?_, lr _, hX, rfl⟩
  rw [← hch]
  refine .frz (by rw [F7, hzs]) (by rw [Ho, hzl]) hpos (by decide) (K3 _) ?_
  refine Aj hok (by rw [hch]; exact Pd _ _) ?_
  intro x hx
  have : x ≠ r := by omega
  simp only [AW.drop, pv, AW.put, this, ↓reduceIte]
  exact h2.get x hx
end Go.AL.SE
namespace Go.AL.S
open Go Go.AL Go.AL.SE Go.Proofs
def toEd (e : Ek) : Ed := ⟨e.1, e.2.1, e.2.2⟩
def ofEd (e : Ed) : Ek := (e.fr, e.to, e.kd)
theorem of_to (e : Ek) : ofEd (toEd e) = e := rfl
theorem to_of (e : Ed) : toEd (ofEd e) = e := rfl
def edL (P : List Ek) : List Ed := sortL ((keysE (tally P)).map toEd)
theorem Ln (P : List Ek) : (edL P).Perm ((keysE (tally P)).map toEd) := Eo _
theorem edL_mem {P : List Ek} {e : Ed} : e ∈ edL P ↔ ofEd e ∈ P := by
 rw [(Ln P).mem_iff, mmp]
 constructor
 ·rintro ⟨x, hx, rfl⟩; rw [of_to]; exact (Ir P x).1 hx
 ·intro h; exact ⟨ofEd e, (Ir P _).2 h, to_of e⟩
theorem edL_len (P : List Ek) : (edL P).length = (keysE (tally P)).length := by
 rw [(Ln P).length_eq, lmp]
theorem O4 (P : List Ek) : (edL P).length ≤ P.length := by
 rw [edL_len]; simp only [keysE, lmp]; exact Mf P
theorem endR_ok {s : Str} {i st : Int} : (endR s i st).2 = 0 ↔ ∃ t, find s i = some t ∧ t.st = 0 := by
 unfold endR
 cases hf : find s i with
 | none => simp
 | some t =>
  by_cases h : t.st = 0
  ·simp [h]
  ·simp [h]
theorem endR_err {s : Str} {i st : Int} (h : (endR s i st).2 ≠ 0) : (endR s i st).1 = s := by
 unfold endR at h ⊢
 cases hf : find s i with
 | none => rfl
 | some t =>
  rw [hf] at h
  by_cases h0 : t.st = 0
  ·simp [h0] at h
  ·simp [h0]
theorem Pf (s : Str) (c i : Int) (l : List Mi) : (beginR s c i l).2 ≠ 0 ∧ (beginR s c i l).1 = s ∨ (beginR s c i l).2 = 0 ∧ (beginR s c i l).1 = s ++ [⟨i, c, l, [], 0⟩] := by
 unfold beginR
 by_cases h1 : okB c l = true
 ·by_cases h2 : i ≤ lastId s
  ·simp [h1, h2]
  ·by_cases h3 : freshB s l = true
   ·simp [h1, h2, h3]
   ·simp [h1, h2, h3]
 ·simp [h1]
end Go.AL.S
namespace Go.AL.S
open Go Go.AL Go.Proofs
variable {E : Env}
def gmap (P : List Ek) : AObj := .map (gFrom 0 (tally P)) (tally P).length
structure ekOk (e : Ek) : Prop where
 a : 0 ≤ e.1 ∧ e.1 < 65536
 b : 0 ≤ e.2.1 ∧ e.2.1 < 65536
 c : 0 ≤ e.2.2 ∧ e.2.2 < 256
abbrev shE : Bool × List SK := (true, [.i .u16, .i .u16, .i .u8])
theorem Wb {e : Ek} (h : ekOk e) : (ekV e).has shE = true := by
 obtain ⟨⟨h1, h2⟩, ⟨h3, h4⟩, h5, h6⟩ := h
 simp [ekV, V.has, V.isAgg, V.cells, V.hasKs, V.hasK, Lit.wf, IntKind.min, IntKind.max, IntKind.signed, IntKind.bits]
 omega
theorem Tb {l : List (Ek × Int)} (h : ∀ x ∈ l, ekOk x.1) {e : Ek} (he : ekOk e) : ∀ n, keysOk shE (ekV e) (gFrom n l) := by
 intro n
 refine ⟨Wb he, ?_⟩
 induction l generalizing n with
 | nil => intro e he; simp [gFrom] at he
 | cons x l ih =>
  intro e he
  rcases List.mem_cons.1 he with rfl | he
  ·exact Wb (h x (by simp))
  ·exact ih (fun x hx => h x (by simp [hx])) _ e he
theorem Kk {P : List Ek} (h : ∀ x ∈ P, ekOk x) : ∀ x ∈ tally P, ekOk x.1 := fun x hx => h _ ((Ir P _).1 (List.mem_map.2 ⟨x, hx, rfl⟩))
theorem Om {sh : Bool × List SK} {l : List (Ek × Int)} {e : Ek} {n : Nat} {k : V → Prop} : lookK sh (.int .i64 0) false (ekV e) (gFrom n l) k = k (.int .i64 ((getE l e).getD 0)) := by
 have := Ox e l n
 unfold lookK
 cases hg : getE l e with
 | none => rw [hg] at this; simp only at this; rw [this]; rfl
 | some c => rw [hg] at this; obtain ⟨i, h1, _⟩ := this; rw [h1]; rfl
theorem Ww (l : List (Ek × Int)) (e : Ek) (c c' : Int) : ∀ n, setS (n + l.length) (.int .i64 c') (gFrom n (l ++ [(e, c)])) = some (gFrom n (l ++ [(e, c')])) := by
 induction l with
 | nil => intro n; simp [gFrom, setS]
 | cons x l ih =>
  intro n
  have := ih (n + 1)
  simp only [List.cons_append, gFrom, setS, lcs]
  rw [if_neg (by omega), show n + (l.length + 1) = n + 1 + l.length by omega, this]; rfl
theorem N6 {W : AW} {r : Nat} {a b : AObj} : (W.put r a).put r b = W.put r b := by
 simp only [AW.put, AW.mk.injEq, and_true]
 funext x
 by_cases h : x = r <;> simp [h]
theorem Pl {c : Int} (h0 : 0 ≤ c) (h : c < 2 ^ 41) : IntKind.i64.wrap c = c := by
 simp only [IntKind.wrap, IntKind.signed, IntKind.bits]
 simp
 omega
theorem g_bel (l : List (Ek × Int)) (m : Nat) : ∀ n, ((gFrom n l).all fun e => e.1.bel m && e.2.1.bel m) = true := by
 induction l with
 | nil => intro n; rfl
 | cons t s ih => intro n; simp only [gFrom, List.all_cons, ih, Bool.and_true]; rfl
theorem Fb (P : List Ek) (m : Nat) : (gmap P).bel m = true := g_bel _ _ _
theorem Wr {P : List Ek} {e : Ek} {c : Int} (h : getE (tally P) e = some c) : gmap (P ++ [e]) = .map (gFrom 0 (setE (tally P) e (c + 1))) (tally P).length := by
 have hk := congrArg List.length (Qs (tally P) e (c + 1))
 simp only [keysE, lmp] at hk
 have : tally (P ++ [e]) = setE (tally P) e (c + 1) := by rw [Fh, bumpL, h]
 simp only [gmap, this, hk]
theorem Wp {P : List Ek} {e : Ek} (h : getE (tally P) e = none) : gmap (P ++ [e]) = .map (gFrom 0 (tally P ++ [(e, 1)])) ((tally P).length + 1) := by
 have : tally (P ++ [e]) = tally P ++ [(e, 1)] := by rw [Fh, bumpL, h]
 simp only [gmap, this, lap, lcs, List.length_nil]
theorem get_cnt {P : List Ek} {e : Ek} {c : Int} (h : getE (tally P) e = some c) : 0 < c ∧ c ≤ P.length := by
 rw [It] at h
 split at h
 ·rename_i hm
  have := List.count_pos_iff.2 hm
  have := List.count_le_length (a := e) (l := P)
  cases h; omega
 ·cases h
theorem To (hP : PE E) (W : AW) {p o g m : Nat} {hn : V} {P : List Ek} (hg : W.get g = some (.row [hn, .map m])) (hm : W.get m = some (gmap P)) (hgl : g < W.nx) (hml : m < W.nx) (hPk : ∀ x ∈ P, ekOk x) (hPl : P.length < 2 ^ 40) (f t k : Int) (he : ekOk (f, t, k)) :
  ACalls E 100 [bV p o g, .int .u16 f, .int .u16 t, .int .u8 k] W fun Y W' => Y = .tuple [] ∧ W' = W.put m (gmap (P ++ edgeP f t k)) := by
 refine ACalls.of hP Tryz.func100 Xap (by simp [bV]) fun _ hok => ?_
 refine Ae hok ?_
 by_cases hft : f = t
 ·have hW : W.put m (gmap (P ++ edgeP f t k)) = W := by rw [edgeP, if_pos hft, apn]; exact Cv hm
  rw [hW]
  simp (disch:=omega) only [c_edge, BX, ↓reduceIte, nE, BM, BD, bV, Dq, show decide (f ≠ t) = false by simp [hft]]
  exact ⟨_, rfl, _, W, Aw hok rfl, lr _, rfl, rfl⟩
 ·have hpe : edgeP f t k = [(f, t, k)] := by rw [edgeP, if_neg hft]
  rw [hpe]
  have hgr : ∀ l, (X W W.nx l).get g = some (.row [hn, .map m]) := fun l => by rw [Ag hgl]; exact hg
  have hmr : ∀ l, (X W W.nx l).get m = some (gmap P) := fun l => by rw [Ag hml]; exact hm
  have hks := Tb (Kk hPk) he 0
  have hlk : ∀ l K, sem E (.lookup shE (.int .i64 0) false) [.map m, .agg [.int .u16 f, .int .u16 t, .int .u8 k]] (X W W.nx l) K = K (.int .i64 ((getE (tally P) (f, t, k)).getD 0)) (X W W.nx l) := fun l K => by
   rw [show V.agg [.int .u16 f, .int .u16 t, .int .u8 k] = ekV (f, t, k) from rfl, Cw (hmr l) hks, Om]
  cases hge : getE (tally P) (f, t, k) with
  | some c =>
   obtain ⟨c1, c2⟩ := get_cnt hge
   have hf := Ox (f, t, k) (tally P) 0
   rw [hge] at hf
   obtain ⟨i, hf1, hf2⟩ := hf
   have hmo : ∀ l K, sem E (.ment shE (.int .i64 0)) [.map m, .agg [.int .u16 f, .int .u16 t, .int .u8 k]] (X W W.nx l) K = K (.tuple [.int .i64 c, .int .i64 i]) (X W W.nx l) := fun l K => S1 (hmr l) hks hf1
   have hms : ∀ l K, sem E .mest [.map m, .int .i64 (i : Int), .int .i64 (c + 1)] (X W W.nx l) K = K .undef (X (W.put m (gmap (P ++ [(f, t, k)]))) W.nx l) := fun l K => by
    rw [Xbl (hmr l) (hf2 (c + 1)), ← Wr hge, D5 hml]
   simp (disch:=omega) only [c_edge, BX, ↓reduceIte, nE, BM, BD, nA, nL, bV, Dq, show decide (f ≠ t) = true by simp [hft], hg, hlk, hge, Option.getD_some, hmo, Pl, hms]
   exact ⟨⟨_, rfl, _, W.put m (gmap (P ++ [(f, t, k)])), Jh rfl (D7 hok hml (Fb _ _)) rfl, lr _, rfl, rfl⟩, ⟨_, rfl, _, W.put m (gmap (P ++ [(f, t, k)])), Jh rfl (D7 hok hml (Fb _ _)) rfl, lr _, rfl, rfl⟩⟩
  | none =>
   have hf := Ox (f, t, k) (tally P) 0
   rw [hge] at hf
   simp only at hf
   have hks' : keysOk shE (ekV (f, t, k)) (gFrom 0 (tally P ++ [((f, t, k), 0)])) := Tb (fun x hx => by
    rcases List.mem_append.1 hx with hx | hx
    ·exact Kk hPk x hx
    ·rw [List.mem_singleton.1 hx]; exact he) he 0
   obtain ⟨A, hA⟩ : ∃ A, A = AObj.map (gFrom 0 (tally P ++ [((f, t, k), (0 : Int))])) ((tally P).length + 1) := ⟨_, rfl⟩
   have hmo : ∀ l K, sem E (.ment shE (.int .i64 0)) [.map m, .agg [.int .u16 f, .int .u16 t, .int .u8 k]] (X W W.nx l) K = K (.tuple [.int .i64 0, .int .i64 (tally P).length]) (X (W.put m A) W.nx l) := fun l K => by
    have := S2 (E := E) (K := K) (z := .int .i64 0) (hmr l) hks hf
    rw [show V.agg [.int .u16 f, .int .u16 t, .int .u8 k] = ekV (f, t, k) from rfl, this, D5 hml, hA, Tc, Nat.zero_add]
   have hmr' : ∀ l, (X (W.put m A) W.nx l).get m = some A := fun l => by rw [Ag hml, put_at]
   have hlk' : ∀ l K, sem E (.lookup shE (.int .i64 0) false) [.map m, .agg [.int .u16 f, .int .u16 t, .int .u8 k]] (X (W.put m A) W.nx l) K = K (.int .i64 0) (X (W.put m A) W.nx l) := fun l K => by
    rw [show V.agg [.int .u16 f, .int .u16 t, .int .u8 k] = ekV (f, t, k) from rfl, Cw (by rw [hmr' l, hA]) hks', Om, Qw hge]
    simp
   have hms : ∀ l K, sem E .mest [.map m, .int .i64 ((tally P).length : Int), .int .i64 (0 + 1)] (X (W.put m A) W.nx l) K = K .undef (X (W.put m (gmap (P ++ [(f, t, k)]))) W.nx l) := fun l K => by
    have hs := Ww (tally P) (f, t, k) 0 (0 + 1) 0
    rw [Nat.zero_add] at hs
    rw [Xbl (by rw [hmr' l, hA]) hs, D5 hml, N6, Wp hge]; rfl
   simp (disch:=omega) only [c_edge, BX, ↓reduceIte, nE, BM, BD, nA, nL, bV, Dq, show decide (f ≠ t) = true by simp [hft], hg, hlk, hge, Option.getD_none, hmo, Pl, hlk', hms]
   exact ⟨⟨_, rfl, _, W.put m (gmap (P ++ [(f, t, k)])), Jh rfl (D7 hok hml (Fb _ _)) rfl, lr _, rfl, rfl⟩, ⟨_, rfl, _, W.put m (gmap (P ++ [(f, t, k)])), Jh rfl (D7 hok hml (Fb _ _)) rfl, lr _, rfl, rfl⟩⟩
def c_pairs : AC := (.r [.u 2 .box 0,.u 3 .box 1,.v 4 (.nilfn)] (.r [.b 5 (.mkfn (.func 125) 0) 2 3,.m 4 5] .ret))
theorem Xp : compF Tryz.prog Tryz.f98 ⟨false, false, []⟩ = some (c_pairs, [.tmp 4], 6) := by kernel_rfl
def c_pairs1_0 : AC := (.r [.b 13 (.bin .lss) 12 11] (.seq (.w 13 0) (.seq (.block 1 (.r [.m 14 12,.m 5 14] (.seq (.par (.step 0 (.m 15 0) (.step 1 (.m 16 4) (.step 2 (.m 17 5) (.step 5 (.m 20 4) (.step 6 (.m 21 5) (.step 7 (.a 22 (.bin .add) 21 1) (.step 3 (.b 18 (.idxp 1) 16 17) (.step 4 (.u 19 (.load false 1) 18) (.step 8 (.b 23 (.idxp 1) 20 22) (.step 9 (.u 24 (.load false 1) 23) (.step 10 (.p 25 .callv [.t 15,.t 19,.t 24]) (.step 11 (.u 26 (.un .not) 25) .done))))))))))))) (.cond (.t 26) .ret .skip)))) (.reg [.a 27 (.bin .add) 12 1,.m 12 27]))))
def c_pairs1 : AC := (.r [.u 6 (.load false 1) 1,.u 7 (.load false 1) 2,.b 8 (.call 126) 6 7,.m 4 8] (.r [.m 9 4,.u 10 (.len 1 0) 9,.a 11 (.bin .sub) 10 1,.v 12 (.int .i64 0)] (.block 0 (.loop c_pairs1_0))))
theorem Sg : compF Tryz.prog Tryz.f125 ⟨false, false, []⟩ = some (c_pairs1, [], 28) := by kernel_rfl
def c_key : AC := (.r [.u 2 .box 0,.u 3 .box 1] (.r [.u 10 (.fld 1) 2,.u 11 (.load false 1) 10,.u 12 (.load false 1) 3,.b 13 (.call 98) 11 12] (.block 0 (.rangef (.t 13) [14, 15] (.r [.m 4 14] (.reg [.m 5 15])) (.block 1 (.r [.u 17 (.load true 3) 2,.u 18 (.load false 1) 3,.m 19 4,.p 20 (.call 99) [.t 17,.t 18,.t 19],.m 16 20,.u 21 (.ext 0) 16,.u 22 (.ext 1) 16,.m 6 21,.m 7 22] (.r [.u 24 (.load true 3) 2,.u 25 (.load false 1) 3,.m 26 5,.p 27 (.call 99) [.t 24,.t 25,.t 26],.m 23 27,.u 28 (.ext 0) 23,.u 29 (.ext 1) 23,.m 8 28,.m 9 29] (.r [.m 30 7,.m 31 30,.M 32 9 31 true,.p 33 .pick [.t 31,.t 32,.F]] (.cond (.t 33) (.reg [.u 34 (.load true 3) 2,.m 35 6,.m 36 8,.p 37 (.call 100) [.t 34,.t 35,.t 36,.c (.int .u8 0)]]) .skip)))))))))
theorem ok_keye : compF Tryz.prog Tryz.f75 ⟨false, false, []⟩ = some (c_key, [], 38) := by kernel_rfl
theorem pairs_c (hP : PE E) (W : AW) (o : Nat) (k : Int) : ACalls E 98 [.ptr o 0, .int .u8 k] W fun Y W' => ∃ q1 q2, Y = .fn (.func 125) [] [.ptr q1 0, .ptr q2 0] ∧ W'.get q1 = some (.row [.ptr o 0]) ∧ W'.get q2 = some (.row [.int .u8 k]) ∧ q1 < W'.nx ∧ q2 < W'.nx ∧ Ex W W' := by
 refine ACalls.of hP Tryz.func98 Xp (by simp) fun _ hok => ?_
 refine Ae hok ?_
 simp only [c_pairs, BZ, ↓reduceIte, nE, BM, BD]
 exact ⟨_, rfl, _, _, .weak Ab, by simp [X], rf W.nx 0, rf W.nx 1, rfl, by rw [Ap]; rfl, by rw [Ap]; rfl, by simp [X, rf], by simp [X, rf], .x0⟩
theorem Sa (hP : PE E) {W : AW} {y q1 q2 q : Nat} {os : Ods} {k : Int} (k0 : 0 ≤ k) (k1 : k < 256) (h1 : W.get q1 = some (.row [.ptr q 0])) (h2 : W.get q2 = some (.row [.int .u8 k])) (h : Od W q os) (J : Nat → AW → Prop)
  (h0 : J 0 W) (hJ : ∀ i W1, J i W1 → W.nx ≤ W1.nx) (hmono : ∀ (vs : List V) (W1 : AW) (K K' : V → AW → Prop), (∀ v W', K v W' → K' v W') → E.yield y vs W1 K → E.yield y vs W1 K')
  (hy : ∀ i (hi : i + 1 < (keyO os k).length) W1, J i W1 → E.yield y [.int .u16 (keyO os k)[i], .int .u16 (keyO os k)[i + 1]] W1 (fun Y W2 => Y = .bool true ∧ J (i + 1) W2)) :
  ACalls E 125 [.yld y, .ptr q1 0, .ptr q2 0] W fun Y W' => Y = .tuple [] ∧ J ((keyO os k).length - 1) W' := by
 refine ACalls.of hP Tryz.func125 Sg (by simp) fun _ hok => ?_
 have hs := E1 (keyO os k)
 have hl := (Ft h k).1
 have hw : IntKind.i64.wrap ((keyO os k).length - 1 : Int) = (keyO os k).length - 1 := by simp only [IntKind.wrap, IntKind.signed, IntKind.bits]; simp; omega
 simp only [c_pairs1, BZ, ↓reduceIte, nE, BM, h1, h2]
 refine pc (K1 hP _ h k k0 k1) ?_
 simp only [BS, Am, ↓reduceIte, hs.len, Al, hw]
 rw [Ai]
 refine alp (fun (i : Nat) A1 W1 => A1 0 = some (.yld y) ∧ A1 4 = some (oV (keyO os k)) ∧ A1 11 = some (.int .i64 ((keyO os k).length - 1)) ∧ A1 12 = some (.int .i64 i) ∧ i ≤ (keyO os k).length - 1 ∧ J i W1) (fun i => (keyO os k).length - i) 0
  ⟨rfl, rfl, rfl, rfl, Nat.zero_le _, h0⟩ ?_
 rintro i A1 W1 ⟨g0, g4, g11, g12, gi, gJ⟩ hn
 by_cases hi : i + 1 < (keyO os k).length
 ·have hd : decide ((i : Int) < (keyO os k).length - 1) = true := by simp; omega
  have hwi : IntKind.i64.wrap ((i : Int) + 1) = ((i + 1 : Nat) : Int) := Ah (by omega)
  simp only [c_pairs1_0, BX, ↓reduceIte, nE, reduceCtorEq, BM, g0, g4, g11, g12, hd, hwi, hs.idx (Ct (show i < (keyO os k).length by omega)), hs.idx (Ct hi), Dr]
  refine hmono _ _ _ _ ?_ (hy i hi W1 gJ)
  rintro Y W2 ⟨rfl, g⟩
  simp only [BS, BC, Ac, ↓reduceIte, nE, reduceCtorEq, BD, g0, g4, g11, g12, hwi]
  exact ⟨i + 1, ⟨tt, tt, tt, tt, by omega, g⟩, by omega, hJ _ _ g⟩
 ·have hd : decide ((i : Int) < (keyO os k).length - 1) = false := by simp; omega
  obtain rfl : i = (keyO os k).length - 1 := by omega
  simp only [c_pairs1_0, BX, ↓reduceIte, g11, g12, hd]
  exact ⟨_, rfl, _, _, .weak Ab, hJ _ _ gJ, rfl, gJ⟩
theorem Qa (hP : PE E) {W0 : AW} {A : AFr} {q1 q2 q pu pv : Nat} {os : Ods} {k : Int} (k0 : 0 ≤ k) (k1 : k < 256) {g : AX} {asg body : AC} {Q : Exit → AFr → AW → Prop} (hg : g.ev E A = some (.fn (.func 125) [] [.ptr q1 0, .ptr q2 0])) (h1 : W0.get q1 = some (.row [.ptr q 0])) (h2 : W0.get q2 = some (.row [.int .u8 k])) (hq1 : q1 < W0.nx) (hq2 : q2 < W0.nx) (hC : Cl W0) (h : Od W0 q os)
  (J : Nat → AW → Prop) (h0 : ∀ W1, Ex W0 W1 → W0.nx < W1.nx → J 0 W1) (hJ : ∀ i W1, J i W1 → W0.nx < W1.nx)
  (hb : ∀ i (hi : i + 1 < (keyO os k).length) W1, J i W1 → W1.get W0.nx = some (.loop .ready none) →
   awp E asg (thenQ (fun A1 W2 => W2.get W0.nx = some (.loop .ready none) ∧ awp E body (fun e _ W3 => e = .normal ∧ W3.get W0.nx = some (.loop .busy none) ∧ J (i + 1) (W3.put W0.nx (.loop .ready none))) A1 (W2.put W0.nx (.loop .busy none))) (fun _ _ _ => False)) ((A.put pu (.int .u16 (keyO os k)[i])).put pv (.int .u16 (keyO os k)[i + 1])) W1)
  (hQ : ∀ W1, J ((keyO os k).length - 1) W1 → W1.get W0.nx = some (.loop .ready none) → Q .normal A (W1.put W0.nx (.loop .exhausted none))) : awp E (.rangef g [pu, pv] asg body) Q A W0 := by
 rw [Dg, hg]
 intro E' eP eG ey _
 have hP' : E'.P = Tryz.prog := eP.trans hP
 have hE : Ex W0 (W0.alloc (.loop .ready none)) := ⟨fun r hr => by rw [Ad] at hr; rw [Ci, if_neg (by omega)]; exact hC r (by omega), by rw [Ad]; omega, fun x hx => Ak hx⟩
 simp only [mcs, List.map_nil, Gv]
 refine (Sa (E := E') hP' (y := W0.nx) k0 k1 (by rw [Ak hq1]; exact h1) (by rw [Ak hq2]; exact h2) (h.ex hE) (fun k W1 => J k W1 ∧ W1.get W0.nx = some (.loop .ready none)) ⟨h0 _ hE (by rw [Ad]; omega), Ay⟩ (fun i W1 g => by rw [Ad]; exact hJ _ _ g.1) (fun vs W1 K K' hk hy => E'.yieldMono _ _ _ _ _ hk hy) ?_).mono ?_
 ·rintro i hi W1 ⟨g1, g2⟩
  refine ey _ _ _ ⟨g2, rfl, ?_⟩
  refine Ao _ ?_ (hb i hi W1 g1 g2)
  intro e A1 W2 hh
  cases e with
  | normal =>
   refine ⟨hh.1, Ao _ ?_ hh.2⟩
   rintro e A3 W3 ⟨rfl, h2, h3⟩
   exact ⟨h2, rfl, h3, put_at⟩
  | _ => exact hh
 ·rintro Y W1 ⟨_, g1, g2⟩
  simp only [doneQ, g2]
  exact hQ _ g1 g2
structure Bd (W : AW) (p ra rw q g m : Nat) (s : Str) (os : Ods) (hn : V) (P : List Ek) : Prop where
 st : St W p ra rw s
 od : Od W q os
 hg : W.get g = some (.row [hn, .map m])
 hm : W.get m = some (gmap P)
 lg : g < W.nx
 lm : m < W.nx
 mra : m ≠ ra
 mrw : m ≠ rw
 pk : ∀ x ∈ P, ekOk x
theorem St.by {W W1 : AW} {p ra rw : Nat} {s : Str} (h : St W p ra rw s) (hn : W.nx ≤ W1.nx) (h1 : W1.get p = W.get p) (h2 : W1.get ra = W.get ra) (h3 : W1.get rw = W.get rw) : St W1 p ra rw s := by
 obtain ⟨ws, cw, a, b⟩ := h.hw
 have := h.lp
 have := h.la
 have := h.lw
 exact ⟨h1.trans h.hp, h2.trans h.ha, ⟨ws, cw, h3.trans a, b⟩, h.ne, by omega, by omega, by omega, h.ok⟩
theorem Od.by {W W1 : AW} {q : Nat} {o : Ods} (h : Od W q o) (hn : W.nx ≤ W1.nx) (h1 : W1.get q = W.get q) : Od W1 q o := by
 have := h.lq
 exact ⟨h1.trans h.hq, h.len, by omega, h.ok⟩
section
variable {W W1 : AW} {p ra rw q g m : Nat} {s : Str} {os : Ods} {hn : V} {P P' : List Ek}
theorem Bd.nem (h : Bd W p ra rw q g m s os hn P) : p ≠ m ∧ q ≠ m ∧ g ≠ m := by
 refine ⟨?_, ?_, ?_⟩ <;> rintro rfl
 ·have := h.st.hp.symm.trans h.hm; cases this
 ·have := h.od.hq.symm.trans h.hm; cases this
 ·have := h.hg.symm.trans h.hm; cases this
theorem Bd.to (h : Bd W p ra rw q g m s os hn P) (hx : W.nx ≤ W1.nx) (hg : ∀ x, x < W.nx → x ≠ m → W1.get x = W.get x) (hm : W1.get m = some (gmap P')) (hk : ∀ x ∈ P', ekOk x) : Bd W1 p ra rw q g m s os hn P' := by
 obtain ⟨n1, n2, n3⟩ := h.nem
 have a1 := h.lg
 have a2 := h.lm
 exact ⟨h.st.by hx (hg _ h.st.lp n1) (hg _ h.st.la h.mra.symm) (hg _ h.st.lw h.mrw.symm), h.od.by hx (hg _ h.od.lq n2), (hg _ h.lg n3).trans h.hg, hm, by omega, by omega, h.mra, h.mrw, hk⟩
theorem Bd.ex (h : Bd W p ra rw q g m s os hn P) (hE : Ex W W1) : Bd W1 p ra rw q g m s os hn P :=
 h.to hE.nx (fun x hx _ => hE.get x hx) ((hE.get _ h.lm).trans h.hm) h.pk
end
theorem F2 {s : Str} (h : SOk s) (k v : Int) : 0 ≤ (wrR s k v).1 ∧ (wrR s k v).1 < 65536 := by
 unfold wrR
 cases hw : who s k v with
 | none => simp
 | some t => have := h.ok t (Hu hw).1; exact ⟨this.id0, this.id1⟩
theorem edgeP_ok {f t k : Int} (hf : 0 ≤ f ∧ f < 65536) (ht : 0 ≤ t ∧ t < 65536) (hk : 0 ≤ k ∧ k < 256) : ∀ x ∈ edgeP f t k, ekOk x := by
 intro x hx
 rw [(Du.1 hx).2]; exact ⟨hf, ht, hk⟩
def kf (s : Str) (k : Int) (x : Int × Int) : List Ek := if (wrR s k x.1).2 = true ∧ (wrR s k x.2).2 = true then edgeP (wrR s k x.1).1 (wrR s k x.2).1 0 else []
theorem kf_ok {s : Str} (h : SOk s) (k : Int) (x : Int × Int) : ∀ e ∈ kf s k x, ekOk e := by
 unfold kf
 split
 ·exact edgeP_ok (F2 h _ _) (F2 h _ _) (by decide)
 ·simp
theorem key_c (hP : PE E) (W : AW) {p ra rw q g m : Nat} {s : Str} {os : Ods} {hn : V} {P : List Ek} (h : Bd W p ra rw q g m s os hn P) (k : Int) (k0 : 0 ≤ k) (k1 : k < 256) (hPl : (P ++ keyP s os k).length < 2 ^ 40) :
  ACalls E 75 [bV p q g, .int .u8 k] W fun Y W' => Y = .tuple [] ∧ W' = W.put m (gmap (P ++ keyP s os k)) := by
 refine ACalls.of hP Tryz.func75 ok_keye (by simp [bV]) fun _ hok => ?_
 refine Ae hok ?_
 simp only [c_key, BZ, ↓reduceIte, nE, BM, BD, bV]
 refine (pairs_c hP _ q k).mono ?_
 rintro _ W0 ⟨q1, q2, rfl, h1, h2, h1n, h2n, hE⟩
 have hE0 : Ex W W0 := Ex.x0.trans hE
 have hb2 : W0.get (rf W.nx 0) = some (.row [.ptr p 0, .ptr q 0, .ptr g 0]) := by rw [hE.get _ (by simp [X, rf]), Ap]; rfl
 have hb3 : W0.get (rf W.nx 1) = some (.row [.int .u8 k]) := by rw [hE.get _ (by simp [X, rf]), Ap]; rfl
 have hb2n : rf W.nx 0 < W0.nx := by have := hE.nx; simp [X, rf] at this ⊢; omega
 have hb3n : rf W.nx 1 < W0.nx := by have := hE.nx; simp [X, rf] at this ⊢; omega
 have hB0 := h.ex hE0
 have hlm := h.lm
 obtain ⟨n1, n2, n3⟩ := h.nem
 have hm2 : rf W.nx 0 ≠ m := by simp only [rf]; omega
 have hm3 : rf W.nx 1 ≠ m := by simp only [rf]; omega
 have hkP : keyP s os k = ((keyO os k).zip (keyO os k).tail).flatMap (kf s k) := rfl
 obtain ⟨Z, hZ⟩ : ∃ Z, Z = (keyO os k).zip (keyO os k).tail := ⟨_, rfl⟩
 rw [← hZ] at hkP
 have hZl : Z.length = (keyO os k).length - 1 := by rw [hZ]; simp
 have hpart : ∀ i, ((Z.take i).flatMap (kf s k)).length ≤ (keyP s os k).length := fun i => by
  rw [hkP]
  conv => rhs; rw [← List.take_append_drop i Z, List.flatMap_append, lap]
  omega
 have hpok : ∀ i, ∀ x ∈ P ++ (Z.take i).flatMap (kf s k), ekOk x := fun i x hx => by
  rcases List.mem_append.1 hx with hx | hx
  ·exact h.pk x hx
  ·obtain ⟨z, _, hz⟩ := List.mem_flatMap.1 hx
   exact kf_ok h.st.ok k z x hz
 simp only [BS]
 refine Qa hP k0 k1 (q1 := q1) (q2 := q2) (q := q) (os := os) rfl h1 h2 h1n h2n hE0.cl (h.od.ex hE0) (fun i W1 => Cl W1 ∧ W0.nx < W1.nx ∧ (∀ x, x < W0.nx → x ≠ m → W1.get x = W0.get x) ∧ W1.get m = some (gmap (P ++ (Z.take i).flatMap (kf s k)))) ?_ ?_ ?_ ?_
 ·intro W1 hE1 hn1
  exact ⟨hE1.cl, hn1, fun x hx _ => hE1.get x hx, by rw [hE1.get _ hB0.lm, hB0.hm]; simp⟩
 ·exact fun i W1 h => h.2.1
 ·rintro i hi W1 ⟨j0, j1, j2, j3⟩ hl
  have hiZ : i < Z.length := by omega
  have hZi : Z[i] = ((keyO os k)[i], (keyO os k)[i + 1]) := by simp [hZ]
  have hstep : (Z.take (i + 1)).flatMap (kf s k) = (Z.take i).flatMap (kf s k) ++ kf s k Z[i] := by
   rw [tao, gEg hiZ, List.flatMap_append]; simp [List.flatMap]
  have hu := (Ft h.od k).2 _ (gmm (show i < (keyO os k).length by omega))
  have hv := (Ft h.od k).2 _ (gmm hi)
  have hB1 := hB0.to (W1 := W1.put W0.nx (.loop .busy none)) (P' := P ++ (Z.take i).flatMap (kf s k)) (by rw [Af]; omega) (fun x hx hxm => by rw [put_ne (by omega)]; exact j2 x hx hxm) (by have := hB0.lm; rw [put_ne (by omega)]; exact j3) (hpok i)
  have g2 : (W1.put W0.nx (.loop .busy none)).get (rf W.nx 0) = some (.row [.ptr p 0, .ptr q 0, .ptr g 0]) := by rw [put_ne (by omega), j2 _ hb2n hm2]; exact hb2
  have g3 : (W1.put W0.nx (.loop .busy none)).get (rf W.nx 1) = some (.row [.int .u8 k]) := by rw [put_ne (by omega), j2 _ hb3n hm3]; exact hb3
  have hPi := hpart (i + 1)
  simp only [BZ, ↓reduceIte, nE, BM, hl]
  refine ⟨tt, ?_⟩
  simp only [BS, BC, ↓reduceIte, BM, BD, nA, nL, g2, g3]
  refine pc (Ht hP _ hB1.st k _ k0 k1 hu.1 hu.2) ?_
  simp only [BZ, ↓reduceIte, nE, BM, BD, nA, nL, g2, g3]
  refine pc (Ht hP _ hB1.st k _ k0 k1 hv.1 hv.2) ?_
  have hJ : ∀ {Q : List Ek}, Q = kf s k Z[i] → ∀ W3, W3 = (W1.put W0.nx (.loop .busy none)).put m (gmap (P ++ (Z.take i).flatMap (kf s k) ++ Q)) → W3.get W0.nx = some (.loop .busy none) ∧ Cl (W3.put W0.nx (.loop .ready none)) ∧ W0.nx < (W3.put W0.nx (.loop .ready none)).nx ∧ (∀ x, x < W0.nx → x ≠ m → (W3.put W0.nx (.loop .ready none)).get x = W0.get x) ∧ (W3.put W0.nx (.loop .ready none)).get m = some (gmap (P ++ (Z.take (i + 1)).flatMap (kf s k))) := by
   rintro Q rfl W3 rfl
   have hm0 : m ≠ W0.nx := by have := hB0.lm; omega
   have hm1 : m < W1.nx := by have := hB0.lm; omega
   refine ⟨by rw [put_ne hm0.symm, put_at], ?_, by simp only [Af]; exact j1, fun x hx hxm => by rw [put_ne (by omega), put_ne hxm, put_ne (by omega)]; exact j2 x hx hxm, by rw [put_ne hm0, put_at, hstep, List.append_assoc]⟩
   exact Cl.put (Cl.put (Cl.put j0 j1) (by rw [Af]; exact hm1)) (by simp only [Af]; exact j1)
  cases c1 : (wrR s k (keyO os k)[i]).2 with
  | false =>
   simp only [BX, Aa, ↓reduceIte, nE, BM]
   refine ⟨tt, ?_⟩
   refine hJ (Q := []) (by rw [kf, hZi, if_neg (by simp [c1])]) _ ?_
   rw [apn]; exact (Cv hB1.hm).symm
  | true =>
   cases c2 : (wrR s k (keyO os k)[i + 1]).2 with
   | false =>
    simp only [BX, Aa, ↓reduceIte, nE]
    refine ⟨tt, ?_⟩
    refine hJ (Q := []) (by rw [kf, hZi, if_neg (by simp [c2])]) _ ?_
    rw [apn]; exact (Cv hB1.hm).symm
   | true =>
    simp only [BX, Aa, ↓reduceIte, nE, BM, BD, nA, nL, g2]
    refine (To hP _ hB1.hg hB1.hm hB1.lg hB1.lm (hpok i) ?_ _ _ 0 ⟨F2 h.st.ok _ _, F2 h.st.ok _ _, show (0 : Int) ≤ 0 ∧ (0 : Int) < 256 by decide⟩).mono ?_
    ·have := hpart i
     rw [lap] at hPl ⊢; omega
    rintro _ W3 ⟨rfl, hW3⟩
    simp only [BS]
    refine ⟨tt, hJ (Q := edgeP (wrR s k (keyO os k)[i]).1 (wrR s k (keyO os k)[i + 1]).1 0) (by rw [kf, hZi, if_pos ⟨c1, c2⟩]) _ hW3⟩
 ·rintro W1 ⟨j0, j1, j2, j3⟩ hl
  rw [← hZl, tkl, ← hkP] at j3
  have hpo := hpok Z.length
  rw [tkl, ← hkP] at hpo
  simp only [e_blk]
  refine ⟨_, O5, .tuple [], W.put m (gmap (P ++ keyP s os k)), .weak (Aj (D7 hok hlm (Fb _ _)) rfl fun x hx => ?_), lr _, rfl, rfl⟩
  have hx' : x < W.nx := hx
  have hx0 : x < W0.nx := by have := hE0.nx; omega
  by_cases e : x = m
  ·subst e; rw [put_at, put_ne (by omega)]; exact j3
  ·rw [put_ne e, put_ne (by omega), j2 x hx0 e]; exact hE0.get x hx'
def c_read : AC := (.r [.u 3 .box 0,.u 5 .box 2] (.r [.u 13 (.fld 1) 5,.u 14 (.load false 1) 13,.u 15 (.len 1 0) 14,.m 6 15] (.seq (.r [.m 16 6,.a 17 (.bin .gtr) 16 0] (.cond (.t 17) (.seq (.par (.step 1 (.u 20 (.fld 0) 5) (.step 3 (.u 22 (.fld 1) 5) (.step 5 (.m 24 6) (.step 6 (.a 25 (.bin .sub) 24 1) (.step 0 (.u 19 (.load true 3) 3) (.step 2 (.u 21 (.load false 1) 20) (.step 4 (.u 23 (.load false 1) 22) (.step 7 (.b 26 (.idxp 1) 23 25) (.step 8 (.u 27 (.load false 1) 26) (.step 9 (.p 28 (.call 99) [.t 19,.t 21,.t 27]) (.step 10 (.m 18 28) (.step 11 (.u 29 (.ext 0) 18) (.step 12 (.u 30 (.ext 1) 18) (.step 13 (.m 7 29) (.step 14 (.m 8 30) .done)))))))))))))))) (.r [.m 31 8] (.cond (.t 31) (.reg [.u 32 (.load true 3) 3,.m 33 7,.m 34 1,.p 35 (.call 100) [.t 32,.t 33,.t 34,.c (.int .u8 1)]]) .skip))) .skip)) (.r [.u 37 (.fld 1) 3,.u 38 (.load false 1) 37,.u 39 (.fld 0) 5,.u 40 (.load false 1) 39,.m 41 6,.p 42 (.call 106) [.t 38,.t 40,.t 41],.m 36 42,.u 43 (.ext 0) 36,.u 44 (.ext 1) 36,.m 9 43,.m 10 44] (.r [.m 45 10] (.cond (.t 45) (.r [.u 47 (.load true 3) 3,.u 48 (.fld 0) 5,.u 49 (.load false 1) 48,.m 50 9,.p 51 (.call 99) [.t 47,.t 49,.t 50],.m 46 51,.u 52 (.ext 0) 46,.u 53 (.ext 1) 46,.m 11 52,.m 12 53] (.r [.m 54 12] (.cond (.t 54) (.reg [.u 55 (.load true 3) 3,.m 56 1,.m 57 11,.p 58 (.call 100) [.t 55,.t 56,.t 57,.c (.int .u8 2)]]) .skip))) .skip))))))
theorem Xai : compF Tryz.prog Tryz.f79 ⟨false, false, []⟩ = some (c_read, [], 59) := by kernel_rfl
def c_counts_0 : AC := (.r [.b 31 (.bin .lss) 30 29] (.seq (.w 31 0) (.seq (.block 1 (.r [.b 32 (.idxp 1) 28 30,.u 33 (.load false 1) 32,.m 8 33] (.r [.m 35 0,.u 36 (.fld 0) 5,.u 37 (.load false 1) 36,.m 38 8,.p 39 (.call 105) [.t 35,.t 37,.t 38],.m 34 39,.u 40 (.ext 0) 34,.u 41 (.ext 1) 34,.p 9 (.alloc [.int .u16 0,.int .u8 0,.nilsl,.nilsl,.int .u8 0]) [],⟨none,.store 5, [.t 9,.t 40], none⟩,.m 10 41] (.r [.m 42 10,.u 43 (.un .not) 42] (.cond (.t 43) (.r [.v 6 (.bool false)] .ret) .skip))))) (.reg [.a 44 (.bin .add) 30 1,.m 30 44]))))
def c_counts : AC := (.r [.u 5 .box 2,.v 6 (.bool false)] (.seq (.seq (.par (.step 0 (.m 11 0) (.step 1 (.p 12 (.eqn false 0) [.t 11,.c (.nilptr)]) (.step 2 (.m 13 12) (.step 3 (.M 14 1 13 false) (.step 4 (.P 15 (.eqn false 0) [.t 14,.c (.nilptr)] 13 false) (.step 5 (.p 16 .pick [.t 13,.T,.t 15]) (.step 6 (.m 17 16) (.step 7 (.U 18 (.fld 1) 5 17 false) (.step 9 (.M 20 1 17 false) (.step 10 (.U 21 (.fld 0) 5 17 false) (.step 8 (.U 19 (.load false 1) 18 17 false) (.step 11 (.U 22 (.load false 1) 21 17 false) (.step 12 (.B 23 (.pcall 104) 20 22 17 false) (.step 13 (.B 24 (.pcall 74) 19 23 17 false) (.step 14 (.U 25 (.un .not) 24 17 false) (.step 15 (.p 26 .pick [.t 17,.T,.t 25]) .done))))))))))))))))) (.cond (.t 26) (.r [.v 6 (.bool false)] .ret) .skip)) (.seq (.r [.u 27 (.fld 1) 5,.u 28 (.load false 1) 27,.u 29 (.len 1 0) 28,.v 30 (.int .i64 0)] (.block 0 (.loop c_counts_0))) (.r [.v 6 (.bool true)] .ret))))
theorem Sm : compF Tryz.prog Tryz.f78 ⟨false, false, []⟩ = some (c_counts, [.tmp 6], 45) := by kernel_rfl
def hd1 : AC → AC
 | .seq a _ => a
 | c => c
def tl1 : AC → AC
 | .seq _ b => b
 | c => c
def rdA : AC := hd1 (tl1 (tl1 c_read))
def rdB : AC := tl1 (tl1 (tl1 c_read))
theorem Yt : c_read = .seq (hd1 c_read) (.seq (hd1 (tl1 c_read)) (.seq rdA rdB)) := rfl
theorem rdB_go (hP : PE E) {W : AW} {p ra rw q g m b3 b5 : Nat} {s : Str} {os : Ods} {hn : V} {P : List Ek} (h : Bd W p ra rw q g m s os hn P) {b : Int} {r : Rd} (hb : 0 ≤ b ∧ b < 65536) (hr : 0 ≤ r.1 ∧ r.1 < 256)
  (hPl : (P ++ nextP s os b r).length < 2 ^ 40) {A : AFr} {Q : Exit → AFr → AW → Prop} (a1 : A 1 = some (.int .u16 b)) (a3 : A 3 = some (.ptr b3 0)) (a5 : A 5 = some (.ptr b5 0)) (a6 : A 6 = some (.int .i64 (nums r.2).length))
  (g3 : W.get b3 = some (.row [.ptr p 0, .ptr q 0, .ptr g 0])) (g5 : W.get b5 = some (.row [.int .u8 r.1, elV r.2]))
  (hQ : ∀ A', Q .normal A' (W.put m (gmap (P ++ nextP s os b r)))) : awp E rdB Q A W := by
 simp only [rdB, tl1, c_read, BZ, ↓reduceIte, nE, BM, BD, a3, a5, a6, g3, g5]
 refine pc (at_c hP W h.od r.1 hr.1 hr.2 (nums r.2).length) ?_
 cases hk : (keyO os r.1)[(nums r.2).length]? with
 | none =>
  have hk' : ¬ (nums r.2).length < (keyO os r.1).length := fun hlt => by rw [gEg hlt] at hk; cases hk
  have e : nextP s os b r = [] := by simp only [nextP, hk]
  simp only [BX, ↓reduceIte, nE, decide_eq_false hk']
  have := hQ
  rw [e, apn, Cv h.hm] at this
  exact this _
 | some v =>
  have hk' : (nums r.2).length < (keyO os r.1).length := by
   rcases Nat.lt_or_ge (nums r.2).length (keyO os r.1).length with h | h
   ·exact h
   ·rw [List.getElem?_eq_none h] at hk; cases hk
  have hv : 0 ≤ v ∧ v < 65536 := (Ft h.od r.1).2 v (List.mem_of_getElem? hk)
  simp only [BX, ↓reduceIte, nE, BM, BD, nA, nL, a3, a5, g3, g5, decide_eq_true hk', Option.getD_some]
  refine pc (Ht hP W h.st r.1 v hr.1 hr.2 hv.1 hv.2) ?_
  cases hw : (wrR s r.1 v).2 with
  | false =>
   have e : nextP s os b r = [] := by simp only [nextP, hk, hw]; simp
   simp only [BX, ↓reduceIte, nE]
   have := hQ
   rw [e, apn, Cv h.hm] at this
   exact this _
  | true =>
   have e : nextP s os b r = edgeP b (wrR s r.1 v).1 2 := by simp only [nextP, hk, hw, if_true]
   rw [e] at hQ hPl
   simp only [BX, ↓reduceIte, nE, BM, BD, nA, nL, a1, a3, g3]
   refine (To hP _ h.hg h.hm h.lg h.lm h.pk ?_ _ _ 2 ⟨hb, F2 h.st.ok _ _, show (0 : Int) ≤ 2 ∧ (2 : Int) < 256 by decide⟩).mono ?_
   ·rw [lap] at hPl; omega
   rintro _ W3 ⟨rfl, rfl⟩
   simp only [BS]
   exact hQ _
theorem last_at {l : List Int} (h : l ≠ []) : l.getLast? = some (l[l.length - 1]'(by have := List.length_pos_iff.2 h; omega)) := by
 rw [List.getLast?_eq_getElem?, gEg]
theorem rdA_go (hP : PE E) {W : AW} {p ra rw q g m b3 b5 : Nat} {s : Str} {os : Ods} {hn : V} {P : List Ek} (h : Bd W p ra rw q g m s os hn P) {b : Int} {r : Rd} (hb : 0 ≤ b ∧ b < 65536) (hr : 0 ≤ r.1 ∧ r.1 < 256) (hrl : (nums r.2).length < 2 ^ 40) (hrn : ∀ n ∈ nums r.2, 0 ≤ n ∧ n < 65536)
  (hPl : (P ++ lastP s b r).length < 2 ^ 40) {A : AFr} {Q : Exit → AFr → AW → Prop} (a1 : A 1 = some (.int .u16 b)) (a3 : A 3 = some (.ptr b3 0)) (a5 : A 5 = some (.ptr b5 0)) (a6 : A 6 = some (.int .i64 (nums r.2).length))
  (g3 : W.get b3 = some (.row [.ptr p 0, .ptr q 0, .ptr g 0])) (g5 : W.get b5 = some (.row [.int .u8 r.1, elV r.2]))
  (hQ : ∀ A', A' 1 = A 1 → A' 3 = A 3 → A' 5 = A 5 → A' 6 = A 6 → Q .normal A' (W.put m (gmap (P ++ lastP s b r)))) : awp E rdA Q A W := by
 have hs := (Dn r.2).isS
 by_cases hl0 : nums r.2 = []
 ·have e : lastP s b r = [] := by simp only [lastP, hl0]; rfl
  have hd : decide (((nums r.2).length : Int) > 0) = false := by simp [hl0]
  simp only [rdA, hd1, tl1, c_read, BX, ↓reduceIte, a6, hd]
  have := hQ
  rw [e, apn, Cv h.hm] at this
  refine this _ ?_ ?_ ?_ ?_ <;> simp only [BS, ↓reduceIte, nE, a1, a3, a5, a6]
 ·have hpos := List.length_pos_iff.2 hl0
  have hd : decide (((nums r.2).length : Int) > 0) = true := by simp; omega
  have hw1 : IntKind.i64.wrap ((nums r.2).length - 1 : Int) = ((nums r.2).length - 1 : Nat) := by
   have : ((nums r.2).length - 1 : Int) = ((nums r.2).length - 1 : Nat) := by omega
   rw [this]; exact Pl (by omega) (by omega)
  have hla := last_at hl0
  have hlt : (nums r.2).length - 1 < (nums r.2).length := by omega
  generalize hv : (nums r.2)[(nums r.2).length - 1]'hlt = v at hla
  have hvr : 0 ≤ v ∧ v < 65536 := hrn v (by rw [← hv]; exact gmm _)
  simp only [rdA, hd1, tl1, c_read, BX, ↓reduceIte, nE, BM, BD, nA, nL, a3, a5, a6, hd, g3, g5, hw1, hs.idx (Ct hlt), hv]
  refine pc (Ht hP W h.st r.1 v hr.1 hr.2 hvr.1 hvr.2) ?_
  cases hw : (wrR s r.1 v).2 with
  | false =>
   have e : lastP s b r = [] := by simp only [lastP, hla, hw]; simp
   simp only [BX, ↓reduceIte, nE]
   have := hQ
   rw [e, apn, Cv h.hm] at this
   refine this _ ?_ ?_ ?_ ?_ <;> simp only [BS, ↓reduceIte, nE, a1, a3, a5, a6]
  | true =>
   have e : lastP s b r = edgeP (wrR s r.1 v).1 b 1 := by simp only [lastP, hla, hw, if_true]
   rw [e] at hQ hPl
   simp only [BX, ↓reduceIte, nE, BM, BD, nA, nL, a1, a3, g3]
   refine (To hP _ h.hg h.hm h.lg h.lm h.pk ?_ _ _ 1 ⟨F2 h.st.ok _ _, hb, show (0 : Int) ≤ 1 ∧ (1 : Int) < 256 by decide⟩).mono ?_
   ·rw [lap] at hPl; omega
   rintro _ W3 ⟨rfl, rfl⟩
   simp only [BS]
   refine hQ _ ?_ ?_ ?_ ?_ <;> simp only [BS, ↓reduceIte, nE, a1, a3, a5, a6]
theorem Qr {s : Str} (h : SOk s) {b : Int} (hb : 0 ≤ b ∧ b < 65536) (r : Rd) : ∀ x ∈ lastP s b r, ekOk x := by
 intro x hx
 obtain ⟨v, _, _, _, e⟩ := E7.1 hx
 rw [e]; exact ⟨F2 h _ _, hb, show (0 : Int) ≤ 1 ∧ (1 : Int) < 256 by decide⟩
theorem Xba {s : Str} (h : SOk s) (os : Ods) {b : Int} (hb : 0 ≤ b ∧ b < 65536) (r : Rd) : ∀ x ∈ nextP s os b r, ekOk x := by
 intro x hx
 obtain ⟨v, _, _, _, e⟩ := E6.1 hx
 rw [e]; exact ⟨hb, F2 h _ _, show (0 : Int) ≤ 2 ∧ (2 : Int) < 256 by decide⟩
theorem bread_c (hP : PE E) (W : AW) {p ra rw q g m : Nat} {s : Str} {os : Ods} {hn : V} {P : List Ek} (h : Bd W p ra rw q g m s os hn P) {b : Int} {r : Rd} (hb : 0 ≤ b ∧ b < 65536) (hr : 0 ≤ r.1 ∧ r.1 < 256) (hrl : (nums r.2).length < 2 ^ 40) (hrn : ∀ n ∈ nums r.2, 0 ≤ n ∧ n < 65536) (hPl : (P ++ readP s os b r).length < 2 ^ 40) :
  ACalls E 79 [bV p q g, .int .u16 b, rdV r] W fun Y W' => Y = .tuple [] ∧ W' = W.put m (gmap (P ++ readP s os b r)) := by
 refine ACalls.of hP Tryz.func79 Xai (by simp [bV]) fun _ hok => ?_
 refine Ae hok ?_
 have hs := (Dn r.2).isS
 have hlm := h.lm
 have hPl1 : (P ++ lastP s b r).length < 2 ^ 40 := by simp only [readP, lap] at hPl ⊢; omega
 have hPl2 : (P ++ lastP s b r ++ nextP s os b r).length < 2 ^ 40 := by simp only [readP, lap] at hPl ⊢; omega
 rw [Yt]
 simp only [hd1, tl1, c_read, BZ, ↓reduceIte, nE, BM, BD, bV, rdV, hs.len, Al]
 refine rdA_go hP (h.ex .x0) hb hr hrl hrn hPl1 rfl rfl rfl rfl (by rw [Ap]; rfl) (by rw [Ap]; rfl) ?_
 intro A' q1 q3 q5 q6
 rw [D5 hlm]
 have hpk : ∀ x ∈ P ++ lastP s b r, ekOk x := fun x hx => by
  rcases List.mem_append.1 hx with hx | hx
  ·exact h.pk x hx
  ·exact Qr h.st.ok hb r x hx
 have h2 : Bd (X (W.put m (gmap (P ++ lastP s b r))) W.nx [.row [.ptr p 0, .ptr q 0, .ptr g 0], .row [.int .u8 r.1, elV r.2]]) p ra rw q g m s os hn (P ++ lastP s b r) :=
  h.to (by simp [X]) (fun x hx hxm => by rw [Ag hx, put_ne hxm]) (by rw [Ag hlm, put_at]) hpk
 refine rdB_go hP h2 hb hr hPl2 (q1.trans rfl) (q3.trans rfl) (q5.trans rfl) (q6.trans rfl) (by rw [Ap]; rfl) (by rw [Ap]; rfl) ?_
 intro A''
 rw [D5 hlm, N6, List.append_assoc]
 exact ⟨_, O5, _, _, Jh rfl (D7 hok hlm (Fb _ _)) rfl, lr _, rfl, rfl⟩
theorem counts_g (hP : PE E) (W : AW) {p ra rw q : Nat} {s : Str} {os : Ods} (hS : St W p ra rw s) (hO : Od W q os) {r : Rd} {v0 : V} (hv0 : isEl v0 r.2) (hr : 0 ≤ r.1 ∧ r.1 < 256) (hrl : (nums r.2).length < 2 ^ 40) (hrn : ∀ n ∈ nums r.2, 0 ≤ n ∧ n < 65536) :
  ACalls E 78 [.ptr p 0, .ptr q 0, .agg [.int .u8 r.1, v0]] W fun Y W' => Y = .bool (countsR s os r) ∧ W' = W := by
 refine ACalls.of hP Tryz.func78 Sm (by simp) fun _ hok => ?_
 refine Ae hok ?_
 have hs := hv0.isS
 simp only [c_counts, BZ, Aa, ↓reduceIte, nE, reduceCtorEq, BM, BD]
 refine C2 (v := oV (keyO os r.1)) rfl (of_c' hP _ (hO.ex .x0) r.1 hr.1 hr.2) ?_
 have hk := E1 (keyO os r.1)
 simp only [BS, Aa, ↓reduceIte, nE]
 refine C2 (v := .bool (begins (nums r.2) (keyO os r.1))) (by rw [mcs, mcs, List.map_nil, hs.frz, hk.frz]) (Lz hP _ hs hk hrl) ?_
 cases hb : begins (nums r.2) (keyO os r.1) with
 | false =>
  simp only [BX, Aa, ↓reduceIte, nE, BD]
  exact ⟨_, rfl, _, W, Aw hok rfl, lr _, by simp [countsR, hb], rfl⟩
 | true =>
  simp only [BX, Aa, ↓reduceIte, nE, BM, BD, hs.len, Al]
  rw [Ai]
  refine alp (fun (k : Nat) A1 W1 => A1 0 = some (.ptr p 0) ∧ A1 5 = some (.ptr (rf W.nx 0) 0) ∧ A1 28 = some (v0) ∧ A1 29 = some (.int .i64 (nums r.2).length) ∧ A1 30 = some (.int .i64 k) ∧ k ≤ (nums r.2).length ∧ Ex W W1 ∧ rf W.nx 0 < W1.nx ∧ W1.get (rf W.nx 0) = some (.row [.int .u8 r.1, v0]) ∧ ((nums r.2).take k).all (fun v => (who s r.1 v).isSome) = true) (fun k => (nums r.2).length - k) 0
   ⟨rfl, rfl, rfl, rfl, rfl, Nat.zero_le _, .x0, by simp [X, rf], by rw [Ap]; rfl, rfl⟩ ?_
  rintro k A1 W1 ⟨g0, g5, g28, g29, g30, gk, gE, gn, gr, ga⟩ _
  refine Au gE.cl ?_
  by_cases hk1 : k < (nums r.2).length
  ·have hat := Ct hk1
   have hv := hrn _ (gmm hk1)
   have htk : (nums r.2).take (k + 1) = (nums r.2).take k ++ [(nums r.2)[k]] := by rw [tao, gEg hk1]; rfl
   generalize hvv : (nums r.2)[k] = v at hat hv htk
   simp (disch:=omega) only [c_counts_0, BX, ↓reduceIte, nE, reduceCtorEq, BM, BD, g0, g5, g28, g29, g30, clt, hk1, dT, hs.idx hat, gr]
   refine pc (who_c hP _ (hS.ex gE.X) r.1 v hr.1 hr.2 hv.1 hv.2) ?_
   cases hw : who s r.1 v with
   | none =>
    simp (disch:=omega) only [BX, ↓reduceIte, nE, BM, BD, nA, nL, nT, Ce, Ca, Option.isSome_none, Option.getD_none, Tx.V, Tx.zero]
    refine ⟨_, rfl, _, W, gE.X.back hok rfl, lr _, ?_, rfl⟩
    have : (nums r.2).all (fun v => (who s r.1 v).isSome) = false := by
     rw [List.all_eq_false]
     exact ⟨v, by rw [← hvv]; exact gmm _, by simp [hw]⟩
    simp [countsR, this]
   | some t =>
    simp (disch:=omega) only [BX, ↓reduceIte, nE, reduceCtorEq, BM, BD, nA, nL, nT, Ce, Ca, Option.isSome_some, Option.getD_some, Tx.V, g0, g5, g28, g29, g30, Ah]
    refine ⟨k + 1, ⟨tt, tt, tt, tt, tt, tt, gE.X, ?_, ?_, ?_⟩, by omega, ?_⟩
    ·simp only [rf] at gn; (try simp only [rf]); omega
    ·first | exact gr | (rw [Ag gn]; exact gr)
    ·rw [htk, List.all_append, ga]; simp [hw]
    ·have := gE.nx; simp only [rf]; omega
  ·obtain rfl : k = (nums r.2).length := by omega
   rw [tkl] at ga
   simp (disch:=omega) only [c_counts_0, BX, ↓reduceIte, BM, BD, g29, g30, clt, hk1, dF]
   exact ⟨_, rfl, _, W, gE.X.back hok rfl, lr _, by simp [countsR, hb, ga], rfl⟩
theorem counts_c (hP : PE E) (W : AW) {p ra rw q : Nat} {s : Str} {os : Ods} (hS : St W p ra rw s) (hO : Od W q os) {r : Rd} (hr : 0 ≤ r.1 ∧ r.1 < 256) (hrl : (nums r.2).length < 2 ^ 40) (hrn : ∀ n ∈ nums r.2, 0 ≤ n ∧ n < 65536) :
  ACalls E 78 [.ptr p 0, .ptr q 0, rdV r] W fun Y W' => Y = .bool (countsR s os r) ∧ W' = W := counts_g hP W hS hO (Dn r.2) hr hrl hrn
def c_build_B3_0 : AC := (.r [.b 52 (.bin .lss) 51 50] (.seq (.w 52 4) (.seq (.block 5 (.r [.b 53 (.idxp 2) 49 51,.u 54 (.load true 2) 53,.p 9 (.alloc [.int .u8 0,.nilsl]) [],⟨none,.store 2, [.t 9,.t 54], none⟩] (.r [.u 55 (.load false 1) 2,.u 56 (.load false 1) 3,.u 57 (.load true 2) 9,.p 58 (.call 78) [.t 55,.t 56,.t 57]] (.cond (.t 58) (.reg [.u 59 (.load true 3) 5,.u 60 (.fld 0) 7,.u 61 (.load false 1) 60,.u 62 (.load true 2) 9,.p 63 (.call 79) [.t 59,.t 61,.t 62]]) .skip)))) (.reg [.a 64 (.bin .add) 51 1,.m 51 64]))))
def c_build_B3 : AC := (.block 3 (.seq (.r [.u 32 (.load true 5) 7,.u 33 (.call 77) 32,.u 34 (.un .not) 33] (.cond (.t 34) (.exit 3) .skip)) (.seq (.par (.step 0 (.u 35 (.fld 2) 5) (.step 2 (.u 37 (.fld 2) 5) (.step 7 (.u 42 (.fld 0) 7) (.step 3 (.u 38 (.load false 1) 37) (.step 4 (.u 39 .nilck 38) (.step 5 (.u 40 (.fld 0) 39) (.step 6 (.u 41 (.load false 1) 40) (.step 8 (.u 43 (.load false 1) 42) (.step 9 (.u 44 (.bslice 1 1 (.int .u16 0) [0]) 43) (.alt (.step 1 (.u 36 (.load false 1) 35) (.step 10 (.b 45 (.append 1 2) 41 44) (.step 11 (.u 46 .nilck 36) (.step 12 (.u 47 (.fld 0) 46) (.step 13 ⟨none,.store 1, [.t 47,.t 45], none⟩ .done))))) (.step 10 (.b 45 (.append 1 2) 41 44) (.step 1 (.u 36 (.load false 1) 35) (.step 11 (.u 46 .nilck 36) (.step 12 (.u 47 (.fld 0) 46) (.step 13 ⟨none,.store 1, [.t 47,.t 45], none⟩ .done)))))))))))))))) (.r [.u 48 (.load true 5) 7,.u 49 (.call 36) 48,.u 50 (.len 1 0) 49,.v 51 (.int .i64 0)] (.block 4 (.loop c_build_B3_0))))))
def c_build_0 : AC := (.r [.p 23 (.bin .lss) [.t 22,.c (.int .u8 8)]] (.seq (.w 23 0) (.seq (.block 1 (.r [.m 24 22,.m 6 24] (.reg [.u 25 (.load true 3) 5,.m 26 6,.b 27 (.call 75) 25 26]))) (.reg [.p 28 (.bin .add) [.t 22,.c (.int .u8 1)],.m 22 28]))))
def c_build : AC := (.r [.u 2 .box 0,.u 3 .box 1,.v 4 (.nilptr)] (.seq (.r [.u 10 (.load false 1) 2,.p 11 (.eqn false 0) [.t 10,.c (.nilptr)],.m 12 11,.U 13 (.load false 1) 3 12 false,.P 14 (.eqn false 0) [.t 13,.c (.nilptr)] 12 false,.p 15 .pick [.t 12,.T,.t 14]] (.cond (.t 15) (.r [.v 4 (.nilptr)] .ret) .skip)) (.r [.u 16 (.load false 1) 2,.u 17 (.load false 1) 3,.p 18 .mkmap [],.u 19 (.build [.nilsl,.nilmap] [(1, 1)]) 18,.u 20 .box 19,.p 21 (.build [.nilptr,.nilptr,.nilptr] [(0, 1), (1, 1), (2, 1)]) [.t 16,.t 17,.t 20],.p 5 (.alloc [.nilptr,.nilptr,.nilptr]) [],⟨none,.store 3, [.t 5,.t 21], none⟩] (.seq (.r [.v 22 (.int .u8 0)] (.block 0 (.loop c_build_0))) (.seq (.r [.u 29 (.load false 1) 2,.u 30 (.call 76) 29] (.block 2 (.rangef (.t 30) [31] (.reg [.p 7 (.alloc [.int .u16 0,.int .u8 0,.nilsl,.nilsl,.int .u8 0]) [],⟨none,.store 5, [.t 7,.t 31], none⟩]) c_build_B3))) (.r [.u 65 (.fld 2) 5,.u 66 (.load false 1) 65,.m 4 66] .ret))))))
theorem X4 : compF Tryz.prog Tryz.f38 ⟨false, false, []⟩ = some (c_build, [.tmp 4], 67) := by kernel_rfl
def rf1 (s : Str) (os : Ods) (b : Int) (r : Rd) : List Ek := if countsR s os r = true then readP s os b r else []
theorem Zz {s : Str} (h : SOk s) (os : Ods) {b : Int} (hb : 0 ≤ b ∧ b < 65536) (r : Rd) : ∀ x ∈ readP s os b r, ekOk x := by
 intro x hx
 rcases List.mem_append.1 hx with hx | hx
 ·exact Qr h hb r x hx
 ·exact Xba h os hb r x hx
theorem Zv {s : Str} (h : SOk s) (os : Ods) {b : Int} (hb : 0 ≤ b ∧ b < 65536) (r : Rd) : ∀ x ∈ rf1 s os b r, ekOk x := by
 unfold rf1
 split
 ·exact Zz h os hb r
 ·simp
theorem Jb {α β : Type} {f : α → List β} {l : List α} {k : Nat} (h : k < l.length) : (l.take (k + 1)).flatMap f = (l.take k).flatMap f ++ f l[k] := by
 rw [tao, gEg h, List.flatMap_append]; simp [List.flatMap]
theorem flat_le {α β : Type} {f : α → List β} (l : List α) (k : Nat) : ((l.take k).flatMap f).length ≤ (l.flatMap f).length := by
 conv => rhs; rw [← List.take_append_drop k l, List.flatMap_append, lap]
 omega
theorem Z1 {l : List Rd} {k : Nat} (h : k < l.length) : (l.map rdV)[k]? = some (rdV l[k]) := by simp [h]
theorem Mp (r : Rd) : (rdV r).cells = [.int .u8 r.1, elV r.2] := rfl
theorem F5 {t : Tx} (h : t.ok) : ∀ r ∈ readsR t, (nums r.2).length ≤ 32 ∧ ∀ n ∈ nums r.2, 0 ≤ n ∧ n < 65536 := by
 intro r hr
 unfold readsR at hr
 split at hr
 ·simp at hr
 ·exact h.ls _ (List.of_mem_zip (a := r.1) (b := r.2) hr).2
theorem Hd {t : Tx} (h : t.ok) : (readsR t).length ≤ 8 := by
 unfold readsR
 split
 ·simp
 ·rw [List.length_zip]; have := h.lsl; omega
theorem rds_go (hP : PE E) {W0 : AW} {p ra rw q g m b2 b3 b5 b7 : Nat} {s : Str} {os : Ods} {hn : V} {P : List Ek} (hC : Cl W0) (h : Bd W0 p ra rw q g m s os hn P) {t : Tx} (ht : t.ok) {r7 : List V}
  (hPl : (P ++ (readsR t).flatMap (rf1 s os t.id)).length < 2 ^ 40) {A : AFr} {Q : Exit → AFr → AW → Prop} (a2 : A 2 = some (.ptr b2 0)) (a3 : A 3 = some (.ptr b3 0)) (a5 : A 5 = some (.ptr b5 0)) (a7 : A 7 = some (.ptr b7 0)) (a49 : A 49 = some (nowGS 2 ((readsR t).map rdV))) (a50 : A 50 = some (.int .i64 (readsR t).length)) (a51 : A 51 = some (.int .i64 0))
  (g2 : W0.get b2 = some (.row [.ptr p 0])) (g3 : W0.get b3 = some (.row [.ptr q 0])) (g5 : W0.get b5 = some (.row [.ptr p 0, .ptr q 0, .ptr g 0])) (g7 : W0.get b7 = some (.row (.int .u16 t.id :: r7)))
  (l2 : b2 < W0.nx) (l3 : b3 < W0.nx) (l5 : b5 < W0.nx) (l7 : b7 < W0.nx)
  (hQ : ∀ A' W', Cl W' → W0.nx ≤ W'.nx → (∀ x, x < W0.nx → x ≠ m → W'.get x = W0.get x) → W'.get m = some (gmap (P ++ (readsR t).flatMap (rf1 s os t.id))) → Q (.exit 4) A' W') : ALoop (awp E c_build_B3_0) Q A W0 := by
 have hsl := Dz 2 ((readsR t).map rdV)
 have htid := And.intro ht.id0 ht.id1
 have n2 : b2 ≠ m := by rintro rfl; have := g2.symm.trans h.hm; cases this
 have n3 : b3 ≠ m := by rintro rfl; have := g3.symm.trans h.hm; cases this
 have n5 : b5 ≠ m := by rintro rfl; have := g5.symm.trans h.hm; cases this
 have n7 : b7 ≠ m := by rintro rfl; have := g7.symm.trans h.hm; cases this
 have hlm := h.lm
 have hr8 := Hd ht
 have hpok : ∀ i, ∀ x ∈ P ++ ((readsR t).take i).flatMap (rf1 s os t.id), ekOk x := fun i x hx => by
  rcases List.mem_append.1 hx with hx | hx
  ·exact h.pk x hx
  ·obtain ⟨z, _, hz⟩ := List.mem_flatMap.1 hx
   exact Zv h.st.ok os htid z x hz
 refine alp (fun (k : Nat) A1 W1 => A1 2 = some (.ptr b2 0) ∧ A1 3 = some (.ptr b3 0) ∧ A1 5 = some (.ptr b5 0) ∧ A1 7 = some (.ptr b7 0) ∧ A1 49 = some (nowGS 2 ((readsR t).map rdV)) ∧ A1 50 = some (.int .i64 (readsR t).length) ∧ A1 51 = some (.int .i64 k) ∧ k ≤ (readsR t).length ∧
  Cl W1 ∧ W0.nx ≤ W1.nx ∧ (∀ x, x < W0.nx → x ≠ m → W1.get x = W0.get x) ∧ W1.get m = some (gmap (P ++ ((readsR t).take k).flatMap (rf1 s os t.id)))) (fun k => (readsR t).length - k) 0
  ⟨a2, a3, a5, a7, a49, a50, a51, Nat.zero_le _, hC, lr _, fun _ _ _ => rfl, by simpa using h.hm⟩ ?_
 rintro k A1 W1 ⟨q2, q3, q5, q7, q49, q50, q51, qk, jC, jn, jg, jm⟩ _
 by_cases hk1 : k < (readsR t).length
 ·have hB := h.to (P' := P ++ ((readsR t).take k).flatMap (rf1 s os t.id)) jn jg jm (hpok k)
  have hrk := Fo ht.ms _ (gmm hk1)
  have hrn := F5 ht _ (gmm hk1)
  have hst := Jb (f := rf1 s os t.id) hk1
  have hat := Z1 hk1
  have hle := flat_le (f := rf1 s os t.id) (readsR t) (k + 1)
  generalize (readsR t)[k] = r at hrk hrn hst hat
  have k2 := (jg _ l2 n2).trans g2
  have k3 := (jg _ l3 n3).trans g3
  have k5 := (jg _ l5 n5).trans g5
  have k7 := (jg _ l7 n7).trans g7
  have hm1 := hB.lm
  have hre := (Dn r.2).isS
  refine Au jC ?_
  simp (disch:=omega) only [c_build_B3_0, BX, ↓reduceIte, nE, BM, BD, nA, nL, nT, q2, q3, q49, q50, q51, clt, hk1, dT, hsl.idx hat, Mp, hre.one, k2, k3]
  refine pc (counts_c hP _ (hB.st.ex .x0) (hB.od.ex .x0) (r := r) hrk (by have := hrn.1; omega) hrn.2) ?_
  cases hc : countsR s os r with
  | false =>
   have e : rf1 s os t.id r = [] := by simp [rf1, hc]
   rw [e, apn] at hst
   simp (disch:=omega) only [BS, BC, Ac, ↓reduceIte, nE, BM, BD, q2, q3, q5, q7, q49, q50, q51, Ah]
   refine ⟨k + 1, ⟨tt, tt, tt, tt, tt, tt, tt, tt, Cl.X, by simp only [rf]; omega, fun x hx hxm => by rw [Ag (by omega)]; exact jg x hx hxm, by (try rw [Ag hm1]); rw [hst]; exact jm⟩, by omega, by simp only [rf]; omega⟩
  | true =>
   have e : rf1 s os t.id r = readP s os t.id r := by simp [rf1, hc]
   rw [e] at hst
   simp (disch:=omega) only [BS, BC, Ac, ↓reduceIte, nE, BM, BD, nA, nL, q5, q7, k5, k7]
   refine (bread_c hP _ (hB.ex .x0) htid (r := r) hrk (by have := hrn.1; omega) hrn.2 ?_).mono ?_
   ·rw [List.append_assoc, ← hst]
    rw [lap] at hPl ⊢
    omega
   rintro _ W3 ⟨rfl, rfl⟩
   simp (disch:=omega) only [BS, ↓reduceIte, nE, BM, BD, q2, q3, q5, q7, q49, q50, q51, Ah]
   refine ⟨k + 1, ⟨tt, tt, tt, tt, tt, tt, tt, tt, Cl.X, by simp only [rf]; omega, fun x hx hxm => by rw [Ag (by omega), put_ne hxm]; exact jg x hx hxm, ?_⟩, by omega, by simp only [rf]; omega⟩
   (try rw [Ag hm1]); rw [put_at, hst, List.append_assoc]
 ·obtain rfl : k = (readsR t).length := by omega
  rw [tkl] at jm
  simp (disch:=omega) only [c_build_B3_0, BX, ↓reduceIte, q50, q51, clt, hk1, dF]
  exact hQ _ _ jC jn jg jm
theorem bs1 {W : AW} {K : V → AW → Prop} {a : Int} : sem E (.bslice 1 1 (.int .u16 0) [0]) [.int .u16 a] W K = K (.sl 1 true [.int .u16 a]) W := by
 simp [sem, rsem, tsem, fillE, V.cells]
theorem nowG.cells1 {W : AW} {h : V} {xs : List V} {s lo : Nat} (hn : nowG W h xs s lo) : h.cells = [h] ∧ h.one = true := by
 rcases hn with ⟨rfl, rfl⟩ | ⟨r, h1, h2, rfl, h4, h5⟩
 ·exact ⟨rfl, rfl⟩
 ·exact ⟨rfl, rfl⟩
theorem Bd.lo {W W1 : AW} {p ra rw q g m lo : Nat} {s : Str} {os : Ods} {hn hn' : V} {P P' : List Ek} (h : Bd W p ra rw q g m s os hn P) (hl : p < lo ∧ ra < lo ∧ rw < lo ∧ q < lo ∧ g < lo ∧ m < lo) (gne : g ≠ p ∧ g ≠ q ∧ g ≠ ra ∧ g ≠ rw) (hn1 : W.nx ≤ W1.nx) (hlo : lo ≤ W.nx) (hx : ∀ x, x < lo → x ≠ g → x ≠ m → W1.get x = W.get x)
  (hg : W1.get g = some (.row [hn', .map m])) (hm : W1.get m = some (gmap P')) (hk : ∀ x ∈ P', ekOk x) : Bd W1 p ra rw q g m s os hn' P' := by
 obtain ⟨n1, n2, n3⟩ := h.nem
 obtain ⟨e1, e2, e3, e4⟩ := gne
 obtain ⟨l1, l2, l3, l4, l5, l6⟩ := hl
 exact ⟨h.st.by hn1 (hx _ l1 e1.symm n1) (hx _ l2 e3.symm h.mra.symm) (hx _ l3 e4.symm h.mrw.symm), h.od.by hn1 (hx _ l4 e2.symm n2), hg, hm, by omega, by omega, h.mra, h.mrw, hk⟩
def nodeP (t : Tx) : List Int := if t.st = 2 then [] else [t.id]
theorem X9 (s : Str) : nodesR s = s.flatMap nodeP := by
 induction s with
 | nil => rfl
 | cons t s ih =>
  simp only [nodesR, List.filter_cons, List.flatMap_cons, nodeP] at ih ⊢
  rw [← ih]
  by_cases h : t.st = 2
  ·simp [h]
  ·simp [h]
theorem b3_go (hP : PE E) {W1 : AW} {p ra rw q g m b2 b3 b5 b7 lo : Nat} {s : Str} {os : Ods} {hn : V} {P : List Ek} {N : List Int} (hC : Cl W1) (h : Bd W1 p ra rw q g m s os hn P) (hnow : nowG W1 hn (intsV N) 1 lo) (hlo : lo ≤ W1.nx) (hgl : g < lo) (hml : m < lo) (hst : p < lo ∧ ra < lo ∧ rw < lo ∧ q < lo) (gne : g ≠ p ∧ g ≠ q ∧ g ≠ ra ∧ g ≠ rw) (hN : N.length < 2 ^ 20) {t : Tx} (ht : t.ok)
  (hPl : (P ++ txnP s os t).length < 2 ^ 40) {A : AFr} {Q : Exit → AFr → AW → Prop} (a2 : A 2 = some (.ptr b2 0)) (a3 : A 3 = some (.ptr b3 0)) (a5 : A 5 = some (.ptr b5 0)) (a7 : A 7 = some (.ptr b7 0))
  (g2 : W1.get b2 = some (.row [.ptr p 0])) (g3 : W1.get b3 = some (.row [.ptr q 0])) (g5 : W1.get b5 = some (.row [.ptr p 0, .ptr q 0, .ptr g 0])) (g7 : W1.get b7 = some (.row [.int .u16 t.id, .int .u8 t.client, msV t.ms, lsV t.ls, .int .u8 t.st]))
  (l2 : b2 < lo) (l3 : b3 < lo) (l5 : b5 < lo) (l7 : b7 < W1.nx) (n2 : b2 ≠ g) (n3 : b3 ≠ g) (n7 : b7 ≠ g)
  (hQ : ∀ A' W' hn', Cl W' → W1.nx ≤ W'.nx → (∀ x, x < W1.nx → x ≠ m → x ≠ g → (x < lo ∨ ∀ ys, W1.get x ≠ some (.buf true 1 ys)) → W'.get x = W1.get x) → W'.get g = some (.row [hn', .map m]) → W'.get m = some (gmap (P ++ txnP s os t)) → nowG W' hn' (intsV (N ++ nodeP t)) 1 lo → Q .normal A' W') : awp E c_build_B3 Q A W1 := by
 have hbv : ∀ x : V, V.agg [.int .u16 t.id, .int .u8 t.client, msV t.ms, lsV t.ls, .int .u8 t.st] = t.V := fun _ => rfl
 have n5 : b5 ≠ g := by rintro rfl; have := g5.symm.trans h.hg; simp at this
 simp only [c_build_B3, BZ, ↓reduceIte, BM, BD, nA, nL, a7, g7]
 refine pc (Wm hP _ t) ?_
 by_cases hs2 : t.st = 2
 ·simp only [BS, Ac, ↓reduceIte, BD, show decide (t.st ≠ 2) = false by simp [hs2]]
  have e1 : txnP s os t = [] := by simp [txnP, hs2]
  have e2 : nodeP t = [] := by simp [nodeP, hs2]
  rw [e1, e2, apn, apn] at hQ
  exact hQ _ _ hn hC (lr _) (fun _ _ _ _ _ => rfl) h.hg h.hm hnow
 ·have e1 : txnP s os t = (readsR t).flatMap (rf1 s os t.id) := by simp only [txnP, if_neg hs2]; rfl
  have e2 : nodeP t = [t.id] := by simp [nodeP, hs2]
  rw [e1] at hQ hPl
  rw [e2] at hQ
  have hg5 := h.hg
  have ones : (V.int IntKind.u16 t.id).cells.all V.one = true := rfl
  have hsn : intsV (N ++ [t.id]) = intsV N ++ [.int .u16 t.id] := by simp [intsV]
  have hlen : (intsV N).length = N.length := Al N
  -- what is left, behind the append
  have fin : ∀ (A' : AFr) (h' : V) (W' : AW), A' 2 = some (.ptr b2 0) → A' 3 = some (.ptr b3 0) → A' 5 = some (.ptr b5 0) → A' 7 = some (.ptr b7 0) → nowG W' h' (intsV N ++ [.int .u16 t.id]) 1 lo → Cl W' → W1.nx ≤ W'.nx → (∀ y, y < W1.nx → (y < lo ∨ ∀ ys, W1.get y ≠ some (.buf true 1 ys)) → W'.get y = W1.get y) →
    awp E (.seq (.reg [⟨(some 48), .load true 5, [.t 7], none⟩, ⟨(some 49), .call 36, [.t 48], none⟩, ⟨(some 50), .len 1 0, [.t 49], none⟩, ⟨(some 51), .mov, [.c (.int .i64 0)], none⟩]) (.block 4 (.loop c_build_B3_0))) (blockQ 3 Q) A' (W'.put g (.row [h', .map m])) := by
   intro A' h' W' q2 q3 q5 q7 gN gC gn gg
   have hgm : g ≠ m := h.nem.2.2
   have hB : Bd (W'.put g (.row [h', .map m])) p ra rw q g m s os h' P :=
    h.lo (lo := lo) ⟨hst.1, hst.2.1, hst.2.2.1, hst.2.2.2, hgl, hml⟩ gne (by rw [Af]; exact gn) hlo (fun x hx hxg _ => by rw [put_ne hxg]; exact gg x (by omega) (.inl hx)) put_at (by rw [put_ne hgm.symm, gg _ h.lm (.inl hml)]; exact h.hm) h.pk
   have k2 : (W'.put g (.row [h', .map m])).get b2 = some (.row [.ptr p 0]) := by rw [put_ne n2, gg _ (by omega) (.inl l2)]; exact g2
   have k3 : (W'.put g (.row [h', .map m])).get b3 = some (.row [.ptr q 0]) := by rw [put_ne n3, gg _ (by omega) (.inl l3)]; exact g3
   have k5 : (W'.put g (.row [h', .map m])).get b5 = some (.row [.ptr p 0, .ptr q 0, .ptr g 0]) := by rw [put_ne n5, gg _ (by omega) (.inl l5)]; exact g5
   have k7 : (W'.put g (.row [h', .map m])).get b7 = some (.row [.int .u16 t.id, .int .u8 t.client, msV t.ms, lsV t.ls, .int .u8 t.st]) := by rw [put_ne n7, gg _ l7 (.inr fun ys => by rw [g7]; simp)]; exact g7
   have hsl := Dz 2 ((readsR t).map rdV)
   simp only [BZ, ↓reduceIte, BM, BD, nA, nL, q7, k7]
   refine pc (Us hP _ ht) ?_
   simp only [BS, ↓reduceIte, hsl.len, lmp]
   rw [Ai]
   refine rds_go hP (gC.put (by omega)) hB ht hPl (b2 := b2) (b3 := b3) (b5 := b5) (b7 := b7) q2 q3 q5 q7 rfl rfl rfl k2 k3 k5 k7 (by rw [Af]; omega) (by rw [Af]; omega) (by rw [Af]; omega) (by rw [Af]; omega) ?_
   intro A'' W'' fC fn ff fm
   rw [Af] at fn
   simp only [BS, ↓reduceIte]
   have hgn : g < W'.nx := by omega
   refine hQ _ W'' h' fC (by omega) (fun x hx hxm hxg hc => ?_) ?_ fm ?_
   ·rw [ff x (by rw [Af]; omega) hxm, put_ne hxg]; exact gg x hx hc
   ·rw [ff g (by rw [Af]; omega) hgm, put_at]
   ·rw [hsn]
    refine gN.to fn fun r hr1 hr2 _ => ?_
    rw [ff r (by rw [Af]; omega) (by omega), put_ne (by omega)]
  have hlen2 : ((intsV N).length + 1) * 2 ≤ 2 ^ 46 := by rw [hlen]; omega
  simp only [BX, ↓reduceIte, nE, BM, BD, show decide (t.st ≠ 2) = true by simp [hs2], a5, a7, g5, g7, hg5, bs1]
  constructor
  ·refine Ph (lo := lo) hnow hC hlo (by decide) ones hlen2 ?_
   intro h' W' gN gC gn gg1 gg2
   have hg' : W'.get g = some (.row [hn, .map m]) := by rw [gg2 _ hgl]; exact hg5
   simp only [BS, ↓reduceIte, nE, BM, BD, nA, nL, gN.cells1.1, gN.cells1.2, hg']
   exact fin _ h' W' a2 a3 a5 a7 gN gC gn fun y hy hc => hc.elim (gg2 y) (gg1 y hy)
  ·refine Ph (lo := lo) hnow hC hlo (by decide) ones hlen2 ?_
   intro h' W' gN gC gn gg1 gg2
   have hg' : W'.get g = some (.row [hn, .map m]) := by rw [gg2 _ hgl]; exact hg5
   have h5' : W'.get b5 = some (.row [.ptr p 0, .ptr q 0, .ptr g 0]) := by rw [gg2 _ l5]; exact g5
   simp only [BS, BC, ↓reduceIte, nE, BM, BD, nA, nL, gN.cells1.1, gN.cells1.2, hg', h5']
   exact fin _ h' W' a2 a3 a5 a7 gN gC gn fun y hy hc => hc.elim (gg2 y) (gg1 y hy)
structure Gr (W : AW) (g m : Nat) (h : V) (P : List Ek) (N : List Int) (lo : Nat) : Prop where
 hg : W.get g = some (.row [h, .map m])
 hm : W.get m = some (gmap P)
 now : nowG W h (intsV N) 1 lo
 lg : g < W.nx
 lm : m < W.nx
 gg : lo ≤ g
 gm : lo ≤ m
 pk : ∀ x ∈ P, ekOk x
 pl : P.length < 2 ^ 32
 nl : N.length < 2 ^ 20
theorem Gz (f t k : Int) : (edgeP f t k).length ≤ 1 := by unfold edgeP; split <;> simp
theorem Yh (s : Str) (b : Int) (r : Rd) : (lastP s b r).length ≤ 1 := by
 unfold lastP
 split
 ·split
  ·exact Gz _ _ _
  ·simp
 ·simp
theorem Yd (s : Str) (os : Ods) (b : Int) (r : Rd) : (nextP s os b r).length ≤ 1 := by
 unfold nextP
 split
 ·split
  ·exact Gz _ _ _
  ·simp
 ·simp
theorem C3 {α β : Type} {f : α → List β} {n : Nat} : ∀ {l : List α}, (∀ x ∈ l, (f x).length ≤ n) → (l.flatMap f).length ≤ l.length * n
 | [], _ => by simp
 | x :: l, h => by
  have h1 := h x (by simp)
  have h2 := C3 (l := l) (f := f) (n := n) fun y hy => h y (by simp [hy])
  rw [List.flatMap_cons, lap, lcs, Nat.add_mul]; omega
theorem Pp {s : Str} {os : Ods} {t : Tx} (h : t.ok) : (txnP s os t).length ≤ 16 := by
 unfold txnP
 split
 ·simp
 ·have := C3 (f := fun r => if countsR s os r = true then readP s os t.id r else []) (n := 2) (l := readsR t) fun r _ => by
   split
   ·have h1 := Yh s t.id r
    have h2 := Yd s os t.id r
    rw [readP, lap]; omega
   ·simp
  have h8 := Hd h
  omega
theorem keyP_len {W : AW} {q : Nat} {s : Str} {os : Ods} (h : Od W q os) (k : Int) : (keyP s os k).length ≤ 32 := by
 have := C3 (f := kf s k) (n := 1) (l := (keyO os k).zip (keyO os k).tail) fun x _ => by
  unfold kf
  split
  ·exact Gz _ _ _
  ·simp
 have h1 := (Ft h k).1
 have h2 : ((keyO os k).zip (keyO os k).tail).length ≤ 32 := by rw [List.length_zip]; omega
 have h3 : keyP s os k = ((keyO os k).zip (keyO os k).tail).flatMap (kf s k) := rfl
 rw [h3]; omega
theorem Tv {W : AW} {q : Nat} {s : Str} {os : Ods} (hs : SOk s) (h : Od W q os) : (buildP s os).length < 2 ^ 21 := by
 have h1 := C3 (f := fun (k : Nat) => keyP s os (k : Int)) (n := 32) (l := List.range 8) fun k _ => keyP_len h k
 have h2 := C3 (f := txnP s os) (n := 16) (l := s) fun t ht => Pp (hs.ok t ht)
 have h3 := Kq hs
 have h4 : (List.range 8).length = 8 := rfl
 rw [buildP, keysP, lap]
 omega
theorem Nq {s : Str} {os : Ods} (hs : SOk s) : ∀ x ∈ buildP s os, ekOk x := by
 intro x hx
 rcases List.mem_append.1 hx with hx | hx
 ·obtain ⟨k, _, hx⟩ := List.mem_flatMap.1 hx
  obtain ⟨z, _, hz⟩ := List.mem_flatMap.1 hx
  exact kf_ok hs _ z x hz
 ·obtain ⟨t, ht, hx⟩ := List.mem_flatMap.1 hx
  have hto := hs.ok t ht
  unfold txnP at hx
  split at hx
  ·simp at hx
  ·obtain ⟨r, _, hr⟩ := List.mem_flatMap.1 hx
   exact Zv hs os ⟨hto.id0, hto.id1⟩ r x hr
theorem X8 (s : Str) : (nodesR s).length ≤ s.length := by
 simp only [nodesR, lmp]; exact List.length_filter_le _ _
theorem Mq {s : Str} {os : Ods} (hs : SOk s) {P' : List Ek} (h : P' <+: buildP s os) : ∀ x ∈ P', ekOk x := fun x hx => Nq hs x (h.subset hx)
theorem u8add1 {k : Nat} (h : k < 100) : IntKind.u8.wrap ((k : Int) + 1) = ((k + 1 : Nat) : Int) := by
 simp only [IntKind.wrap, IntKind.signed, IntKind.bits]; simp; omega
theorem build_c (hP : PE E) (W : AW) {p ra rw q : Nat} {s : Str} {os : Ods} (hS : St W p ra rw s) (hO : Od W q os) :
  ACalls E 38 [.ptr p 0, .ptr q 0] W fun Y W' => ∃ g m h, Y = .ptr g 0 ∧ Gr W' g m h (buildP s os) (nodesR s) W.nx ∧ Ex W W' := by
 refine ACalls.of hP Tryz.func38 X4 (by simp) fun _ hok => ?_
 refine Ae hok ?_
 have hlp := hS.lp
 have hla := hS.la
 have hlw := hS.lw
 have hlq := hO.lq
 have hbl := Tv hS.ok hO
 have hsl := Kq hS.ok
 simp only [c_build, BX, Aa, ↓reduceIte, nE, BM, BD, nA, nL, nT]
 rw [Ai]
 obtain ⟨W0, hW0⟩ : ∃ W0, W0 = X W W.nx [.row [.ptr p 0], .row [.ptr q 0], .map [] 0, .row [.nilsl, .map (rf W.nx 2)], .row [.ptr p 0, .ptr q 0, .ptr (rf W.nx 3) 0]] := ⟨_, rfl⟩
 rw [← hW0]
 have hE0 : Ex W W0 := by rw [hW0]; exact .x0
 have hn0 : W0.nx = W.nx + 5 := by rw [hW0]; rfl
 have r0 : rf W.nx 0 = W.nx := rfl
 have r1 : rf W.nx 1 = W.nx + 1 := rfl
 have r2 : rf W.nx 2 = W.nx + 2 := rfl
 have r3 : rf W.nx 3 = W.nx + 3 := rfl
 have r4 : rf W.nx 4 = W.nx + 4 := rfl
 have w0 : W0.get (rf W.nx 0) = some (.row [.ptr p 0]) := by rw [hW0, Ap]; rfl
 have w1 : W0.get (rf W.nx 1) = some (.row [.ptr q 0]) := by rw [hW0, Ap]; rfl
 have w2 : W0.get (rf W.nx 2) = some (gmap []) := by rw [hW0, Ap]; rfl
 have w3 : W0.get (rf W.nx 3) = some (.row [.nilsl, .map (rf W.nx 2)]) := by rw [hW0, Ap]; rfl
 have w4 : W0.get (rf W.nx 4) = some (.row [.ptr p 0, .ptr q 0, .ptr (rf W.nx 3) 0]) := by rw [hW0, Ap]; rfl
 have hB0 : Bd W0 p ra rw q (rf W.nx 3) (rf W.nx 2) s os .nilsl [] := ⟨hS.ex hE0, hO.ex hE0, w3, w2, by omega, by omega, by omega, by omega, by simp⟩
 clear hW0
 refine alp (fun (k : Nat) A1 W1 => A1 2 = some (.ptr (rf W.nx 0) 0) ∧ A1 3 = some (.ptr (rf W.nx 1) 0) ∧ A1 5 = some (.ptr (rf W.nx 4) 0) ∧ A1 22 = some (.int .u8 k) ∧ k ≤ 8 ∧ W1 = W0.put (rf W.nx 2) (gmap ((List.range k).flatMap fun (j : Nat) => keyP s os (j : Int)))) (fun k => 8 - k) 0
  ⟨rfl, rfl, rfl, rfl, Nat.zero_le _, (Cv w2).symm⟩ ?_
 rintro k A1 W1 ⟨q2, q3, q5, q22, qk, rfl⟩ _
 have hpre : ∀ j, j ≤ 8 → ((List.range j).flatMap fun (j : Nat) => keyP s os (j : Int)) <+: keysP s os := by
  intro j hj
  have : List.range 8 = List.range j ++ (List.range (8 - j)).map (j + ·) := by rw [← List.range_add]; congr 1; omega
  rw [keysP, this, List.flatMap_append]; exact List.prefix_append _ _
 have hkb : keysP s os <+: buildP s os := List.prefix_append _ _
 have hB1 : Bd (W0.put (rf W.nx 2) (gmap ((List.range k).flatMap fun (j : Nat) => keyP s os (j : Int)))) p ra rw q (rf W.nx 3) (rf W.nx 2) s os .nilsl ((List.range k).flatMap fun (j : Nat) => keyP s os (j : Int)) :=
  hB0.to (by rw [Af]; omega) (fun x _ hx => put_ne hx) put_at (Mq hS.ok ((hpre k qk).trans hkb))
 have v4 : (W0.put (rf W.nx 2) (gmap ((List.range k).flatMap fun (j : Nat) => keyP s os (j : Int)))).get (rf W.nx 4) = some (.row [.ptr p 0, .ptr q 0, .ptr (rf W.nx 3) 0]) := by rw [put_ne (by omega)]; exact w4
 by_cases hk : k < 8
 ·have hk' : decide ((k : Int) < 8) = true := by simp; omega
  have hst : ((List.range (k + 1)).flatMap fun (j : Nat) => keyP s os (j : Int)) = ((List.range k).flatMap fun (j : Nat) => keyP s os (j : Int)) ++ keyP s os k := by
   rw [List.range_succ, List.flatMap_append]; simp [List.flatMap]
  have hle := ((hpre (k + 1) hk).trans hkb).length_le
  simp (disch:=omega) only [c_build_0, BX, ↓reduceIte, nE, BM, BD, nA, nL, q5, q22, hk', v4]
  refine (key_c hP _ hB1 k (by omega) (by omega) (by rw [← hst]; omega)).mono ?_
  rintro _ W3 ⟨rfl, rfl⟩
  simp (disch:=omega) only [BS, ↓reduceIte, nE, q2, q3, q5, q22, u8add1]
  refine ⟨k + 1, ⟨tt, tt, tt, tt, hk, ?_⟩, by omega, by simp only [Af]; omega⟩
  rw [N6, hst]
 ·obtain rfl : k = 8 := by omega
  have hk' : decide (((8 : Nat) : Int) < 8) = false := by decide
  obtain ⟨W1, hW1⟩ : ∃ W1, W1 = W0.put (rf W.nx 2) (gmap ((List.range 8).flatMap fun (j : Nat) => keyP s os (j : Int))) := ⟨_, rfl⟩
  rw [← hW1] at hB1 v4 ⊢
  have hn1 : W1.nx = W.nx + 5 := by rw [hW1, Af]; exact hn0
  have hg1 : ∀ x, x ≠ rf W.nx 2 → W1.get x = W0.get x := fun x hx => by rw [hW1, put_ne hx]
  have v0 : W1.get (rf W.nx 0) = some (.row [.ptr p 0]) := by rw [hg1 _ (by omega)]; exact w0
  have v1 : W1.get (rf W.nx 1) = some (.row [.ptr q 0]) := by rw [hg1 _ (by omega)]; exact w1
  have hC1 : Cl W1 := by rw [hW1]; exact hE0.cl.put (by omega)
  have hE1 : Ex W W1 := ⟨hC1, by omega, fun x hx => by rw [hg1 _ (by omega)]; exact hE0.get x hx⟩
  clear hW1
  simp (disch:=omega) only [c_build_0, BX, ↓reduceIte, nE, BM, q2, q22, hk', v0]
  refine (all_c hP _ p).mono ?_
  rintro _ W2 ⟨rfl, rfl⟩
  simp (disch:=omega) only [BS]
  obtain ⟨W2, hW2⟩ : ∃ W2, W2 = W1.alloc (.row [.ptr p 0]) := ⟨_, rfl⟩
  rw [← hW2]
  have hn2 : W2.nx = W.nx + 6 := by rw [hW2, Ad, hn1]
  have hq2 : W2.get W1.nx = some (.row [.ptr p 0]) := by rw [hW2, Ay]
  have hE12 : Ex W1 W2 := ⟨fun x hx => by rw [hW2, Ci]; rw [hW2, Ad] at hx; rw [if_neg (by omega)]; exact hC1 x (by omega), by omega, fun x hx => by rw [hW2, Ak hx]⟩
  have hB2 := hB1.ex hE12
  have u0 := (hE12.get _ (by omega : rf W.nx 0 < W1.nx)).trans v0
  have u1 := (hE12.get _ (by omega : rf W.nx 1 < W1.nx)).trans v1
  have u4 := (hE12.get _ (by omega : rf W.nx 4 < W1.nx)).trans v4
  have hE2 := hE1.trans hE12
  have hb8 : keysP s os = (List.range 8).flatMap fun (j : Nat) => keyP s os (j : Int) := rfl
  rw [← hb8] at hB2
  have hpreb : ∀ i, (keysP s os ++ (s.take i).flatMap (txnP s os)) <+: buildP s os := fun i => by
   refine List.prefix_append_right_inj _ |>.2 ?_
   generalize txnP s os = f
   conv => rhs; rw [← List.take_append_drop i s, List.flatMap_append]
   exact List.prefix_append _ _
  refine Xg hP (q := W1.nx) (s := s) (W0 := W2) (by simp only [Tj]; exact if_pos rfl) hq2 (by omega) hE2.cl (hS.ex hE2)
   (fun i W' => Cl W' ∧ (∀ x, x < W2.nx → x ≠ rf W.nx 2 → x ≠ rf W.nx 3 → W'.get x = W2.get x) ∧ W'.get (rf W.nx 2) = some (gmap (keysP s os ++ (s.take i).flatMap (txnP s os))) ∧ ∃ hn, W'.get (rf W.nx 3) = some (.row [hn, .map (rf W.nx 2)]) ∧ nowG W' hn (intsV ((s.take i).flatMap nodeP)) 1 W2.nx) ?_ ?_ ?_ ?_
  ·intro W' hE
   refine ⟨hE.cl, fun x hx _ _ => hE.get x hx, ?_, .nilsl, ?_, .inl ⟨rfl, rfl⟩⟩
   ·rw [hE.get _ (by omega), hB2.hm]; simp
   ·rw [hE.get _ (by omega), hB2.hg]
  ·rintro i W' ⟨j0, j1, _⟩
   exact ⟨j0, j1 _ (by omega) (by omega) (by omega), j1 _ (by omega) (by omega) (by omega), j1 _ (by omega) (by omega) (by omega)⟩
  ·rintro i hi W' ⟨j0, j1, j2, hn, j3, j4⟩ hl hnn
   have hto := hS.ok.ok s[i] (gmm hi)
   have st1 := Jb (f := txnP s os) hi
   have st2 := Jb (f := nodeP) hi
   have hpi := hpreb (i + 1)
   rw [st1, ← List.append_assoc] at hpi
   have hnl : ((s.take i).flatMap nodeP).length < 2 ^ 20 := by
    have := C3 (f := nodeP) (n := 1) (l := s.take i) fun t _ => by unfold nodeP; split <;> simp
    have h2 : (s.take i).length ≤ s.length := by simp; omega
    omega
   generalize s[i] = t at hto st1 st2 hpi
   refine Au j0 ?_
   simp (disch:=omega) only [BS, BC, ↓reduceIte, nE, BM, BD, nA, nL, nT, Ce, Ca, Tx.V, hl]
   refine ⟨tt, ?_⟩
   have hB : Bd (X (W'.put W2.nx (.loop .busy none)) W'.nx [.row [.int .u16 t.id, .int .u8 t.client, msV t.ms, lsV t.ls, .int .u8 t.st]]) p ra rw q (rf W.nx 3) (rf W.nx 2) s os hn (keysP s os ++ (s.take i).flatMap (txnP s os)) :=
    hB2.lo (lo := W2.nx) (by omega) (by omega) (by simp only [Ar, rf]; omega) (lr _) (fun x hx h3 h2 => by rw [Ag (by omega), put_ne (by omega)]; exact j1 x hx h2 h3) (by rw [Ag (by omega), put_ne (by omega)]; exact j3) (by rw [Ag (by omega), put_ne (by omega)]; exact j2) (Mq hS.ok (hpreb i))
   refine b3_go hP (lo := W2.nx) (b2 := rf W.nx 0) (b3 := rf W.nx 1) (b5 := rf W.nx 4) (b7 := rf W'.nx 0) (N := (s.take i).flatMap nodeP) (t := t) Cl.X hB (j4.to (by simp only [Ar, rf]; omega) fun r h1 h2 ⟨ys, hy⟩ => by rw [Ag h2, put_ne (by rintro rfl; rw [hl] at hy; cases hy)]) (by simp only [Ar, rf]; omega) (by omega) (by omega) (by omega) (by omega) hnl hto (by have := hpi.length_le; omega) q2 q3 q5 rfl ?_ ?_ ?_ (by rw [Ap]; rfl) (by omega) (by omega) (by omega) (by simp [Ar, rf]) (by omega) (by omega) (by simp only [rf]; omega) ?_
   ·rw [Ag (by omega), put_ne (by omega), j1 _ (by omega) (by omega) (by omega)]; exact u0
   ·rw [Ag (by omega), put_ne (by omega), j1 _ (by omega) (by omega) (by omega)]; exact u1
   ·rw [Ag (by omega), put_ne (by omega), j1 _ (by omega) (by omega) (by omega)]; exact u4
   intro A'' W'' hn' fC fn ff fg fm fnow
   simp only [Ar, rf, lcs, List.length_nil] at fn
   have hloop : W''.get W2.nx = some (.loop .busy none) := by
    rw [ff W2.nx (by simp only [Ar, rf]; omega) (by omega) (by omega) (.inr fun ys => by rw [Ag (by omega), put_at]; simp), Ag (by omega), put_at]
   refine ⟨rfl, hloop, by omega, fC.put (by omega), fun x hx h2 h3 => ?_, ?_, hn', ?_, ?_⟩
   ·rw [put_ne (by omega), ff x (by simp only [Ar, rf]; omega) h2 h3 (.inl hx), Ag (by omega), put_ne (by omega)]
    exact j1 x hx h2 h3
   ·rw [put_ne (by omega), fm, st1, List.append_assoc]
   ·rw [put_ne (by omega), fg]
   ·rw [st2]
    exact fnow.to (by rw [Af]; exact lr _) fun r h1 h2 ⟨ys, hy⟩ => put_ne (by rintro rfl; rw [hloop] at hy; cases hy)
  ·rintro W' ⟨j0, j1, j2, hn, j3, j4⟩ hl hnn
   rw [tkl] at j2 j4
   rw [← X9] at j4
   have k4 : (W'.put W2.nx (.loop .exhausted none)).get (rf W.nx 4) = some (.row [.ptr p 0, .ptr q 0, .ptr (rf W.nx 3) 0]) := by rw [put_ne (by omega), j1 _ (by omega) (by omega) (by omega)]; exact u4
   simp (disch:=omega) only [BZ, ↓reduceIte, nE, BM, BD, q5, k4]
   have hnl := X8 s
   have hbp : buildP s os = keysP s os ++ s.flatMap (txnP s os) := rfl
   refine ⟨_, rfl, _, _, .weak Ab, by rw [Af]; omega, rf W.nx 3, rf W.nx 2, hn, rfl, ⟨by rw [put_ne (by omega)]; exact j3, by rw [put_ne (by omega)]; exact j2, ?_, by rw [Af]; omega, by rw [Af]; omega, by omega, by omega, Nq hS.ok, by omega, by omega⟩, j0.put (by omega), by rw [Af]; omega, fun x hx => by rw [put_ne (by omega), j1 x (by omega) (by omega) (by omega)]; exact hE2.get x hx⟩
   rcases j4 with j4 | ⟨r, h1, h2, h3, h4, h5⟩
   ·exact .inl j4
   ·exact .inr ⟨r, by omega, by rw [Af]; exact h2, h3, h4, by rw [put_ne (by rintro rfl; rw [hl] at h5; cases h5)]; exact h5⟩
open Go Go.AL Go.AL.SE Go.Proofs
def c_nodes : AC := (.r [.v 2 (.nilsl)] (.seq (.r [.m 3 0,.p 4 (.eqn false 0) [.t 3,.c (.nilptr)]] (.cond (.t 4) (.r [.v 2 (.nilsl)] .ret) .skip)) (.r [.m 5 0,.u 6 .nilck 5,.u 7 (.fld 0) 6,.u 8 (.load false 1) 7,.u 9 (.call 47) 8,.m 2 9] .ret)))
theorem Xq : compF Tryz.prog Tryz.f14 ⟨false, false, []⟩ = some (c_nodes, [.tmp 2], 10) := by kernel_rfl
def c_sorted : AC := (.r [.v 2 (.nilsl)] (.seq (.r [.m 3 0,.p 4 (.eqn false 0) [.t 3,.c (.nilptr)]] (.cond (.t 4) (.r [.v 2 (.nilsl)] .ret) .skip)) (.r [.m 5 0,.u 6 .nilck 5,.u 7 (.fld 1) 6,.u 8 (.load false 1) 7,.u 9 (.call 108) 8,.p 10 (.call 107) [.t 9,.f 109],.m 2 10] .ret)))
theorem Sf : compF Tryz.prog Tryz.f81 ⟨false, false, []⟩ = some (c_sorted, [.tmp 2], 11) := by kernel_rfl
def c_edges : AC := (.r [.u 1 .box 0,.v 2 (.nilfn)] (.r [.u 3 (.mkfn (.func 80) 0) 1,.m 2 3] .ret))
theorem Xz : compF Tryz.prog Tryz.f39 ⟨false, false, []⟩ = some (c_edges, [.tmp 2], 4) := by kernel_rfl
def c_edges1_0 : AC := (.r [.b 9 (.bin .lss) 8 7] (.seq (.w 9 0) (.seq (.block 1 (.r [.b 10 (.idxp 3) 6 8,.u 11 (.load true 3) 10,.p 4 (.alloc [.int .u16 0,.int .u16 0,.int .u8 0]) [],⟨none,.store 3, [.t 4,.t 11], none⟩] (.r [.m 12 0,.u 13 (.load true 3) 4,.b 14 .callv 12 13,.u 15 (.un .not) 14] (.cond (.t 15) .ret .skip)))) (.reg [.a 16 (.bin .add) 8 1,.m 8 16]))))
def c_edges1 : AC := (.r [.u 5 (.load false 1) 1,.u 6 (.call 81) 5,.u 7 (.len 1 0) 6,.v 8 (.int .i64 0)] (.block 0 (.loop c_edges1_0)))
theorem Sl : compF Tryz.prog Tryz.f80 ⟨false, false, []⟩ = some (c_edges1, [], 17) := by kernel_rfl
theorem gs_clone (l : List Int) : cloneV 1 (nowGS 1 (intsV l)) = nowGS 1 (intsV l) := by
 cases l with
 | nil => rfl
 | cons a l => rfl
theorem nodes_c (hP : PE E) (W : AW) {g m lo : Nat} {h : V} {P : List Ek} {N : List Int} (hG : Gr W g m h P N lo) : ACalls E 14 [.ptr g 0] W fun Y W' => Y = nowGS 1 (intsV N) ∧ W' = W := by
 refine ACalls.of hP Tryz.func14 Xq (by simp) fun _ hok => ?_
 simp only [c_nodes, BX, ↓reduceIte, reduceCtorEq, BM, BD, hG.hg, hG.now.frz]
 have hs := Dz 1 (intsV N)
 refine pc (Dw hP W _ _ hs (Df _ _) (by rw [Al]; have := hG.nl; omega)) ?_
 rw [gs_clone]
 simp only [BS, BC, ↓reduceIte, hs.frz]
 exact ⟨_, rfl, _, _, .weak Ab, lr _, rfl, rfl⟩
theorem keys35_c (hP : PE E) (W : AW) (m : Nat) : ACalls E 108 [.map m] W fun Y W' => Y = .fn (.func 132) [] [.ptr W.nx 0] ∧ W' = W.alloc (.row [.map m]) := by
 refine ACalls.of hP Tryz.func108 ok_e35e (by simp) fun _ hok => ?_
 simp only [c_e35, BZ, ↓reduceIte, nE, BM, BD]
 exact ⟨_, rfl, _, _, .weak Ab, by rw [Ad]; omega, rfl, rfl⟩
theorem g_edOf (l : List (Ek × Int)) : ∀ n, (gFrom n l).map edOf = (keysE l).map toEd := by
 induction l with
 | nil => intro n; rfl
 | cons x l ih => intro n; simp only [gFrom, mcs, ih, keysE]; rfl
theorem g_key (l : List (Ek × Int)) : ∀ n, ∀ e ∈ gFrom n l, e.1 = (edOf e).V := by
 induction l with
 | nil => intro n e he; simp [gFrom] at he
 | cons x l ih =>
  intro n e he
  rcases List.mem_cons.1 he with rfl | he
  ·rfl
  ·exact ih _ e he
theorem g_len (l : List (Ek × Int)) : ∀ n, (gFrom n l).length = l.length := by
 induction l with
 | nil => intro n; rfl
 | cons x l ih => intro n; simp [gFrom, ih]
theorem g_fresh (l : List (Ek × Int)) : ∀ n, (∀ e ∈ gFrom n l, n ≤ e.2.2 ∧ e.2.2 < n + l.length) ∧ (stamps (gFrom n l)).Nodup := by
 induction l with
 | nil => intro n; exact ⟨fun _ h => by simp [gFrom] at h, List.nodup_nil⟩
 | cons x l ih =>
  intro n
  obtain ⟨h1, h2⟩ := ih (n + 1)
  refine ⟨fun e he => ?_, ?_⟩
  ·rcases List.mem_cons.1 he with rfl | he
   ·simp
   ·have := h1 e he; simp only [lcs]; omega
  ·refine List.nodup_cons.2 ⟨fun h => ?_, h2⟩
   obtain ⟨e, he, h3⟩ := List.mem_map.1 h
   have := h1 e he
   simp only at h3
   omega
def edsV (l : List Ed) : V := if l = [] then .nilsl else .sl 3 false (l.map Ed.V)
theorem Tm (l : List Ed) : isS 3 (edsV l) (l.map Ed.V) := by
 unfold edsV
 split
 ·rename_i h; subst h; exact .nil
 ·exact .mk
theorem Ws (P : List Ek) : sortedEV ((gFrom 0 (tally P)).map edOf) = edsV (edL P) := by
 rw [g_edOf, sortedEV, edsV]
 by_cases h : (keysE (tally P)).map toEd = []
 ·have : edL P = [] := by rw [edL, h]; exact (Eo []).eq_nil
  rw [if_pos h, if_pos this]
 ·have : edL P ≠ [] := by
   intro e
   apply h
   have := Ln P
   rw [e] at this
   exact this.symm.eq_nil
  rw [if_neg h, if_neg this]; rfl
theorem bel_eds (l : List Ed) (n : Nat) : (edsV l).bel n = true := (Tm l).lens (Pd n l)
theorem R5 (hP : PE E) (W : AW) {g m lo : Nat} {h : V} {P : List Ek} {N : List Int} (hG : Gr W g m h P N lo) : ACalls E 81 [.ptr g 0] W fun Y W' => Y = edsV (edL P) ∧ W' = W := by
 refine ACalls.of hP Tryz.func81 Sf (by simp) fun _ hok => ?_
 simp only [c_sorted, BX, ↓reduceIte, reduceCtorEq, BM, BD, hG.hg]
 refine (keys35_c hP _ m).mono ?_
 rintro _ W1 ⟨rfl, rfl⟩
 simp only [BS, BC, ↓reduceIte]
 have hf := g_fresh (tally P) 0
 have hlm := hG.lm
 have hE : Ex W (W.alloc (.row [.map m])) := ⟨fun x hx => by rw [Ad] at hx; rw [Ci, if_neg (by omega)]; exact H6 hok x (by omega), by rw [Ad]; omega, fun x hx => Ak hx⟩
 refine pc (Wt hP (pb := W.nx) (m := m) Ay (by rw [Ak hlm]; exact hG.hm) ⟨hf.2, fun e he => by have := (hf.1 e he).2; omega⟩ (by rw [Ad]; omega) (by rw [Ad]; omega) (g_key _ 0) (by rw [g_len]; have := Mf P; have := hG.pl; omega)) ?_
 rw [Ws]
 have hs := Tm (edL P)
 simp only [BS, BC, ↓reduceIte, hs.frz]
 exact ⟨_, rfl, _, W, hE.back hok (bel_eds _ _), lr _, rfl, rfl⟩
theorem O3 (hP : PE E) (W : AW) (g : Nat) : ACalls E 39 [.ptr g 0] W fun Y W' => ∃ q, Y = .fn (.func 80) [] [.ptr q 0] ∧ W'.get q = some (.row [.ptr g 0]) ∧ q < W'.nx ∧ Ex W W' := by
 refine ACalls.of hP Tryz.func39 Xz (by simp) fun _ hok => ?_
 refine Ae hok ?_
 simp only [c_edges, BZ, ↓reduceIte, nE, BM, BD]
 exact ⟨_, rfl, _, _, .weak Ab, by simp [X], rf W.nx 0, rfl, by rw [Ap]; rfl, by simp [X, rf], .x0⟩
theorem Wc {l : List Ed} {k : Nat} (h : k < l.length) : (l.map Ed.V)[k]? = some (l[k]).V := by simp [h]
theorem Fe (e : Ed) : e.V.cells = [.int .u16 e.fr, .int .u16 e.to, .int .u8 e.kd] := rfl
theorem Lo {W : AW} {g m lo : Nat} {h : V} {P : List Ek} {N : List Int} (hG : Gr W g m h P N lo) : (edL P).length < 2 ^ 32 := by
 have := O4 P; have := hG.pl; omega
theorem Tn (hP : PE E) {W : AW} {y q g m lo : Nat} {h : V} {P : List Ek} {N : List Int} (hq : W.get q = some (.row [.ptr g 0])) (hG : Gr W g m h P N lo) (J : Nat → AW → Prop)
  (h0 : J 0 W) (hJ : ∀ i W1, J i W1 → Cl W1 ∧ W.nx ≤ W1.nx) (hmono : ∀ (vs : List V) (W1 : AW) (K K' : V → AW → Prop), (∀ v W', K v W' → K' v W') → E.yield y vs W1 K → E.yield y vs W1 K')
  (hy : ∀ i (hi : i < (edL P).length) W1 l, J i W1 → E.yield y [(edL P)[i].V] (X W1 W1.nx l) (fun Y W2 => Y = .bool true ∧ J (i + 1) W2)) :
  ACalls E 80 [.yld y, .ptr q 0] W fun Y W' => Y = .tuple [] ∧ J (edL P).length W' := by
 refine ACalls.of hP Tryz.func80 Sl (by simp) fun _ hok => ?_
 have hs := Tm (edL P)
 have hl := Lo hG
 simp (disch:=omega) only [c_edges1, BZ, ↓reduceIte, BM, hq]
 refine pc (R5 hP _ hG) ?_
 simp (disch:=omega) only [BS, ↓reduceIte, hs.len, lmp]
 rw [Ai]
 refine alp (fun (i : Nat) A1 W1 => A1 0 = some (.yld y) ∧ A1 6 = some (edsV (edL P)) ∧ A1 7 = some (.int .i64 (edL P).length) ∧ A1 8 = some (.int .i64 i) ∧ i ≤ (edL P).length ∧ J i W1) (fun i => (edL P).length - i) 0
  ⟨rfl, rfl, rfl, rfl, Nat.zero_le _, h0⟩ ?_
 rintro i A1 W1 ⟨g0, g6, g7, g8, gi, gJ⟩ hn
 by_cases hi : i < (edL P).length
 ·have hat := Wc hi
  have hyi := fun l => hy i hi W1 l gJ
  generalize (edL P)[i] = e at hat hyi
  refine Au (hJ _ _ gJ).1 ?_
  simp (disch:=omega) only [c_edges1_0, BX, ↓reduceIte, nE, reduceCtorEq, BM, BD, nA, nL, nT, g0, g6, g7, g8, clt, hi, dT, hs.idx hat, Fe, Dr]
  refine hmono _ _ _ _ ?_ (hyi _)
  rintro Y W2 ⟨rfl, g⟩
  simp (disch:=omega) only [BS, BC, Ac, ↓reduceIte, nE, reduceCtorEq, BD, g0, g6, g7, g8, Ah]
  exact ⟨i + 1, ⟨tt, tt, tt, tt, by omega, g⟩, by omega, (hJ _ _ g).2⟩
 ·obtain rfl : i = (edL P).length := by omega
  simp (disch:=omega) only [c_edges1_0, BX, ↓reduceIte, g7, g8, clt, hi, dF]
  exact ⟨_, rfl, _, _, .weak Ab, (hJ _ _ gJ).2, rfl, gJ⟩
theorem Gr.ex {W W1 : AW} {g m lo : Nat} {h : V} {P : List Ek} {N : List Int} (hG : Gr W g m h P N lo) (hE : Ex W W1) : Gr W1 g m h P N lo := by
 have := hG.lg
 have := hG.lm
 have := hE.nx
 exact ⟨(hE.get _ hG.lg).trans hG.hg, (hE.get _ hG.lm).trans hG.hm, hG.now.to hE.nx fun r _ hr _ => hE.get r hr, by omega, by omega, hG.gg, hG.gm, hG.pk, hG.pl, hG.nl⟩
theorem F6 (hP : PE E) {W0 : AW} {A : AFr} {q pv g m lo : Nat} {h : V} {P : List Ek} {N : List Int} {gx : AX} {asg body : AC} {Q : Exit → AFr → AW → Prop} (hg : gx.ev E A = some (.fn (.func 80) [] [.ptr q 0])) (hq : W0.get q = some (.row [.ptr g 0])) (hqn : q < W0.nx) (hC : Cl W0) (hG : Gr W0 g m h P N lo)
  (J : Nat → AW → Prop) (h0 : ∀ W1, Ex W0 W1 → W0.nx < W1.nx → J 0 W1) (hJ : ∀ i W1, J i W1 → Cl W1 ∧ W0.nx < W1.nx)
  (hb : ∀ i (hi : i < (edL P).length) W1 W1', J i W1 → Ex W1 W1' → W1'.get W0.nx = some (.loop .ready none) →
   awp E asg (thenQ (fun A1 W2 => W2.get W0.nx = some (.loop .ready none) ∧ awp E body (fun e _ W3 => e = .normal ∧ W3.get W0.nx = some (.loop .busy none) ∧ J (i + 1) (W3.put W0.nx (.loop .ready none))) A1 (W2.put W0.nx (.loop .busy none))) (fun _ _ _ => False)) (A.put pv (edL P)[i].V) W1')
  (hQ : ∀ W1, J (edL P).length W1 → W1.get W0.nx = some (.loop .ready none) → Q .normal A (W1.put W0.nx (.loop .exhausted none))) : awp E (.rangef gx [pv] asg body) Q A W0 := by
 rw [Dg, hg]
 intro E' eP eG ey _
 have hP' : E'.P = Tryz.prog := eP.trans hP
 have hE : Ex W0 (W0.alloc (.loop .ready none)) := ⟨fun r hr => by rw [Ad] at hr; rw [Ci, if_neg (by omega)]; exact hC r (by omega), by rw [Ad]; omega, fun x hx => Ak hx⟩
 simp only [mcs, List.map_nil, Gv]
 refine (Tn (E := E') hP' (y := W0.nx) (q := q) (by rw [Ak hqn]; exact hq) (hG.ex hE) (fun k W1 => J k W1 ∧ W1.get W0.nx = some (.loop .ready none)) ⟨h0 _ hE (by rw [Ad]; omega), Ay⟩ (fun i W1 g => ⟨(hJ _ _ g.1).1, by rw [Ad]; exact (hJ _ _ g.1).2⟩) (fun vs W1 K K' hk hy => E'.yieldMono _ _ _ _ _ hk hy) ?_).mono ?_
 ·rintro i hi W1 l ⟨g1, g2⟩
  have hlt := (hJ _ _ g1).2
  refine ey _ _ _ ⟨by rw [Ag hlt]; exact g2, rfl, ?_⟩
  refine Ao _ ?_ (hb i hi W1 _ g1 ((Ex.refl (hJ _ _ g1).1).X (l := l)) (by rw [Ag hlt]; exact g2))
  intro e A1 W2 hh
  cases e with
  | normal =>
   refine ⟨hh.1, Ao _ ?_ hh.2⟩
   rintro e A3 W3 ⟨rfl, h2, h3⟩
   exact ⟨h2, rfl, h3, put_at⟩
  | _ => exact hh
 ·rintro Y W1 ⟨_, g1, g2⟩
  simp only [doneQ, g2]
  exact hQ _ g1 g2
end Go.AL.S
namespace Go.AL.S
open Go Go.AL Go.Proofs
def c_idx8 : AC := (.r [.v 4 (.int .i64 0)] (.seq (.r [.m 6 0,.u 7 (.len 1 0) 6,.v 8 (.int .i64 0)] (.block 0 (.loop (.r [.b 9 (.bin .lss) 8 7] (.seq (.w 9 0) (.seq (.block 1 (.r [.m 10 8,.m 5 10] (.r [.m 11 1,.m 12 0,.m 13 5,.b 14 (.idxp 1) 12 13,.u 15 (.load false 1) 14,.b 16 (.bin .eql) 11 15] (.cond (.t 16) (.r [.m 17 5,.m 4 17] .ret) .skip)))) (.reg [.a 18 (.bin .add) 8 1,.m 8 18]))))))) (.r [.v 4 (.int .i64 (-1))] .ret)))
theorem Qi : compF Tryz.prog Tryz.f84 ⟨false, false, []⟩ = some (c_idx8, [.tmp 4], 19) := by kernel_rfl
def c_has8 : AC := (.r [.v 4 (.bool false)] (.r [.m 5 0,.m 6 1,.b 7 (.call 84) 5 6,.a 8 (.bin .geq) 7 0,.m 4 8] .ret))
theorem Qj : compF Tryz.prog Tryz.f48 ⟨false, false, []⟩ = some (c_has8, [.tmp 4], 9) := by kernel_rfl
def c_idxI : AC := (.r [.v 4 (.int .i64 0)] (.seq (.r [.m 6 0,.u 7 (.len 1 0) 6,.v 8 (.int .i64 0)] (.block 0 (.loop (.r [.b 9 (.bin .lss) 8 7] (.seq (.w 9 0) (.seq (.block 1 (.r [.m 10 8,.m 5 10] (.r [.m 11 1,.m 12 0,.m 13 5,.b 14 (.idxp 1) 12 13,.u 15 (.load false 1) 14,.b 16 (.bin .eql) 11 15] (.cond (.t 16) (.r [.m 17 5,.m 4 17] .ret) .skip)))) (.reg [.a 18 (.bin .add) 8 1,.m 8 18]))))))) (.r [.v 4 (.int .i64 (-1))] .ret)))
theorem Qh : compF Tryz.prog Tryz.f116 ⟨false, false, []⟩ = some (c_idxI, [.tmp 4], 19) := by kernel_rfl
def c_hasI : AC := (.r [.v 4 (.bool false)] (.r [.m 5 0,.m 6 1,.b 7 (.call 116) 5 6,.a 8 (.bin .geq) 7 0,.m 4 8] .ret))
theorem Xan : compF Tryz.prog Tryz.f89 ⟨false, false, []⟩ = some (c_hasI, [.tmp 4], 9) := by kernel_rfl
def c_bs16_0 : AC := (.seq (.r [.m 13 7,.m 14 8,.b 15 (.bin .lss) 13 14] (.w 15 0)) (.block 1 (.r [.m 16 7,.m 17 8,.b 18 (.bin .add) 16 17,.u 19 (.conv .u64) 18,.p 20 (.bin .shr) [.t 19,.c (.int .u64 1)],.u 21 (.conv .i64) 20,.m 9 21] (.r [.m 22 0,.m 23 9,.b 24 (.idxp 1) 22 23,.u 25 (.load false 1) 24,.m 26 1,.b 27 (.call 114) 25 26] (.cond (.t 27) (.reg [.m 28 9,.a 29 (.bin .add) 28 1,.m 7 29]) (.reg [.m 30 9,.m 8 30]))))))
def c_bs16 : AC := (.r [.v 4 (.int .i64 0),.v 5 (.bool false)] (.r [.m 10 0,.u 11 (.len 1 0) 10,.m 6 11] (.r [.m 12 6,.v 7 (.int .i64 0),.m 8 12] (.seq (.block 0 (.loop c_bs16_0)) (.r [.m 31 7,.m 32 7,.m 33 6,.b 34 (.bin .lss) 32 33,.m 35 34,.M 36 0 35 true,.M 37 7 35 true,.B 38 (.idxp 1) 36 37 35 true,.U 39 (.load false 1) 38 35 true,.M 40 1 35 true,.B 41 (.bin .eql) 39 40 35 true,.M 42 41 35 true,.M 43 0 42 false,.M 44 7 42 false,.B 45 (.idxp 1) 43 44 42 false,.U 46 (.load false 1) 45 42 false,.U 47 (.call 115) 46 42 false,.M 48 47 42 false,.M 49 1 48 true,.U 50 (.call 115) 49 48 true,.P 51 .pick [.t 48,.t 50,.F] 42 false,.P 52 .pick [.t 42,.T,.t 51] 35 true,.p 53 .pick [.t 35,.t 52,.F],.m 4 31,.m 5 53] .ret)))))
theorem Xav : compF Tryz.prog Tryz.f88 ⟨false, false, []⟩ = some (c_bs16, [.tmp 4, .tmp 5], 54) := by kernel_rfl
def c_snan : AC := (.r [.v 2 (.bool false)] (.r [.m 3 0,.m 4 0,.b 5 (.bin .neq) 3 4,.m 2 5] .ret))
theorem Xah : compF Tryz.prog Tryz.f115 ⟨false, false, []⟩ = some (c_snan, [.tmp 2], 6) := by kernel_rfl
variable {E : Env}
def u8s (l : List Int) : List V := l.map (V.int .u8)
def i64s (l : List Int) : List V := l.map (V.int .i64)
theorem Ry {l : List Int} {k : Nat} (h : k < l.length) : (u8s l)[k]? = some (.int .u8 l[k]) := by simp [u8s, h]
theorem Vi {l : List Int} {k : Nat} (h : k < l.length) : (i64s l)[k]? = some (.int .i64 l[k]) := by simp [i64s, h]
theorem Hw (l : List Int) : (u8s l).length = l.length := by simp [u8s]
theorem Qv (l : List Int) : (i64s l).length = l.length := by simp [i64s]
theorem idx8_c (hP : PE E) (W : AW) {v : V} {l : List Int} (h : isS 1 v (u8s l)) (hl : l.length < 2 ^ 40) (n : Int) :
  ACalls E 84 [v, .int .u8 n] W fun Y W' => Y = .int .i64 (idxV (fun x => decide (n = x)) l) ∧ W' = W := by
 refine ACalls.of hP Tryz.func84 Qi (by simp) fun _ hok => ?_
 simp only [c_idx8, BZ, ↓reduceIte, reduceCtorEq, h.len, Hw]
 rw [Ai]
 refine alp (fun (k : Nat) A1 W1 => A1 0 = some v ∧ A1 1 = some (.int .u8 n) ∧ A1 7 = some (.int .i64 l.length) ∧ A1 8 = some (.int .i64 k) ∧ k ≤ l.length ∧ W1 = W ∧ ∀ i (hi : i < l.length), i < k → decide (n = l[i]) = false) (fun k => l.length - k) 0
  ⟨rfl, rfl, rfl, rfl, Nat.zero_le _, rfl, fun _ _ h => by omega⟩ ?_
 rintro k A1 W1 ⟨g0, g1, g7, g8, gk, rfl, ge⟩ _
 by_cases hk1 : k < l.length
 ·cases hb : decide (n = l[k])
  ·simp (disch:=omega) only [BX, ↓reduceIte, nE, reduceCtorEq, BM, g0, g1, g7, g8, clt, hk1, dT, h.idx (Ry hk1), Ff, hb, Ah]
   refine ⟨k + 1, ⟨tt, tt, tt, tt, tt, tt, fun i hi hk => ?_⟩, by omega, lr _⟩
   by_cases e : i = k
   ·subst e; exact hb
   ·exact ge i hi (by omega)
  ·simp (disch:=omega) only [BX, ↓reduceIte, nE, reduceCtorEq, BM, g0, g1, g7, g8, clt, hk1, dT, h.idx (Ry hk1), Ff, hb]
   exact ⟨_, rfl, _, _, .weak Ab, lr _, by rw [Fa hk1 hb ge], rfl⟩
 ·obtain rfl : k = l.length := by omega
  simp only [BX, ↓reduceIte, g7, g8, clt, hk1, dF]
  exact ⟨_, rfl, _, _, .weak Ab, lr _, by rw [El fun i hi => ge i hi hi], rfl⟩
theorem has8_c (hP : PE E) (W : AW) {v : V} {l : List Int} (h : isS 1 v (u8s l)) (hl : l.length < 2 ^ 40) (n : Int) :
  ACalls E 48 [v, .int .u8 n] W fun Y W' => Y = .bool (l.any fun x => decide (n = x)) ∧ W' = W := by
 refine ACalls.of hP Tryz.func48 Qj (by simp) fun _ hok => ?_
 simp only [c_has8, BZ, ↓reduceIte, nE, reduceCtorEq, h.frz]
 refine pc (idx8_c hP W h hl n) ?_
 simp only [BS, BC, ↓reduceIte, Gu]
 exact ⟨_, rfl, _, _, .weak Ab, lr _, rfl, rfl⟩
theorem idxI_c (hP : PE E) (W : AW) {v : V} {l : List Int} (h : isS 1 v (i64s l)) (hl : l.length < 2 ^ 40) (n : Int) :
  ACalls E 116 [v, .int .i64 n] W fun Y W' => Y = .int .i64 (idxV (fun x => decide (n = x)) l) ∧ W' = W := by
 refine ACalls.of hP Tryz.func116 Qh (by simp) fun _ hok => ?_
 simp only [c_idxI, BZ, ↓reduceIte, reduceCtorEq, h.len, Qv]
 rw [Ai]
 refine alp (fun (k : Nat) A1 W1 => A1 0 = some v ∧ A1 1 = some (.int .i64 n) ∧ A1 7 = some (.int .i64 l.length) ∧ A1 8 = some (.int .i64 k) ∧ k ≤ l.length ∧ W1 = W ∧ ∀ i (hi : i < l.length), i < k → decide (n = l[i]) = false) (fun k => l.length - k) 0
  ⟨rfl, rfl, rfl, rfl, Nat.zero_le _, rfl, fun _ _ h => by omega⟩ ?_
 rintro k A1 W1 ⟨g0, g1, g7, g8, gk, rfl, ge⟩ _
 by_cases hk1 : k < l.length
 ·cases hb : decide (n = l[k])
  ·simp (disch:=omega) only [BX, ↓reduceIte, nE, reduceCtorEq, BM, g0, g1, g7, g8, clt, hk1, dT, h.idx (Vi hk1), Ff, hb, Ah]
   refine ⟨k + 1, ⟨tt, tt, tt, tt, tt, tt, fun i hi hk => ?_⟩, by omega, lr _⟩
   by_cases e : i = k
   ·subst e; exact hb
   ·exact ge i hi (by omega)
  ·simp (disch:=omega) only [BX, ↓reduceIte, nE, reduceCtorEq, BM, g0, g1, g7, g8, clt, hk1, dT, h.idx (Vi hk1), Ff, hb]
   exact ⟨_, rfl, _, _, .weak Ab, lr _, by rw [Fa hk1 hb ge], rfl⟩
 ·obtain rfl : k = l.length := by omega
  simp only [BX, ↓reduceIte, g7, g8, clt, hk1, dF]
  exact ⟨_, rfl, _, _, .weak Ab, lr _, by rw [El fun i hi => ge i hi hi], rfl⟩
theorem hasI_c (hP : PE E) (W : AW) {v : V} {l : List Int} (h : isS 1 v (i64s l)) (hl : l.length < 2 ^ 40) (n : Int) :
  ACalls E 89 [v, .int .i64 n] W fun Y W' => Y = .bool (l.any fun x => decide (n = x)) ∧ W' = W := by
 refine ACalls.of hP Tryz.func89 Xan (by simp) fun _ hok => ?_
 simp only [c_hasI, BZ, ↓reduceIte, nE, reduceCtorEq, h.frz]
 refine pc (idxI_c hP W h hl n) ?_
 simp only [BS, BC, ↓reduceIte, Gu]
 exact ⟨_, rfl, _, _, .weak Ab, lr _, rfl, rfl⟩
theorem snan_c (hP : PE E) (W : AW) (a : Int) : ACalls E 115 [.int .u16 a] W fun X W' => X = .bool false ∧ W' = W := by
 refine ACalls.of hP Tryz.func115 Xah (by simp) fun _ hok => ?_
 simp only [BZ, ↓reduceIte, nE, reduceCtorEq, c_snan, Dq, show decide (a ≠ a) = false by simp]
 exact ⟨_, rfl, _, _, .weak Ab, lr _, rfl, rfl⟩
def lowB (l : List Int) (x : Int) : Nat := (l.takeWhile fun y => decide (y < x)).length
theorem U3 {l : List Int} {x : Int} {k : Nat} (hk : k ≤ l.length) (h1 : ∀ i (h : i < l.length), i < k → l[i] < x) (h2 : ∀ (h : k < l.length), ¬ l[k] < x) : lowB l x = k := by
 induction l generalizing k with
 | nil => simp at hk; subst hk; rfl
 | cons a l ih =>
  cases k with
  | zero =>
   have := h2 (by simp)
   simp only [List.getElem_cons_zero] at this
   simp [lowB, this]
  | succ k =>
   have h0 := h1 0 (by simp) (by omega)
   simp only [List.getElem_cons_zero] at h0
   have := ih (k := k) (by simpa using hk) (fun i h hi => by have := h1 (i + 1) (by simpa using h) (by omega); simpa using this) (fun h => by have := h2 (by simpa using h); simpa using this)
   simp only [lowB, List.takeWhile_cons, decide_eq_true h0, if_true, lcs] at this ⊢
   omega
theorem half {a b : Nat} (h : a + b < 2 ^ 41) : IntKind.i64.wrap ((a : Int) + b) = ((a + b : Nat) : Int) := by
 rw [show (a : Int) + b = ((a + b : Nat) : Int) by omega]; exact Pl (by omega) (by omega)
theorem wrapu {n : Nat} (h : n < 2 ^ 41) : IntKind.u64.wrap (n : Int) = n := by
 simp only [IntKind.wrap, IntKind.signed, IntKind.bits]
 simp
 omega
theorem bs16_c (hP : PE E) (W : AW) {v : V} {l : List Int} (h : isS 1 v (intsV l)) (hs : l.Pairwise fun a b => a < b) (hl : l.length < 2 ^ 40) (x : Int) :
  ACalls E 88 [v, .int .u16 x] W fun Y W' => Y = .tuple [.int .i64 (lowB l x), .bool (decide (x ∈ l))] ∧ W' = W := by
 refine ACalls.of hP Tryz.func88 Xav (by simp) fun _ hok => ?_
 simp (disch:=omega) only [BZ, ↓reduceIte, nE, reduceCtorEq, c_bs16, h.len, Al]
 rw [Ai]
 refine alp (fun (σ : Nat × Nat) A1 W1 => A1 0 = some v ∧ A1 1 = some (.int .u16 x) ∧ A1 6 = some (.int .i64 l.length) ∧ A1 7 = some (.int .i64 σ.1) ∧ A1 8 = some (.int .i64 σ.2) ∧ σ.1 ≤ σ.2 ∧ σ.2 ≤ l.length ∧ W1 = W ∧ (∀ i (hi : i < l.length), i < σ.1 → l[i] < x) ∧ (∀ i (hi : i < l.length), σ.2 ≤ i → ¬ l[i] < x)) (fun σ => σ.2 - σ.1) (0, l.length)
  ⟨rfl, rfl, rfl, rfl, rfl, Nat.zero_le _, lr _, rfl, fun _ _ h => by simp at h, fun i hi h => by simp at h; omega⟩ ?_
 rintro ⟨i, j⟩ A1 W1 ⟨g0, g1, g6, g7, g8, gij, gj, rfl, gl, gh⟩ _
 simp only at g7 g8 gij gj gl gh
 by_cases hij : i < j
 ·have hm : (i + j) / 2 ^ 1 < l.length := by simp; omega
  have hm' : (i + j) / 2 ^ 1 < j ∧ i ≤ (i + j) / 2 ^ 1 := by simp; omega
  generalize hmm : (i + j) / 2 ^ 1 = m at hm hm'
  have hsh : ∀ K, sem E (.bin .shr) [.int .u64 ((i + j : Nat) : Int), .int .u64 1] W1 K = K (.int .u64 (m : Int)) W1 := fun K => by rw [← hmm]; exact shrN 1 (by decide)
  have hcm : IntKind.i64.wrap (m : Int) = m := Pl (by omega) (by omega)
  simp (disch:=omega) only [BX, ↓reduceIte, nE, reduceCtorEq, BM, c_bs16_0, g0, g1, g7, g8, clt, hij, dT, half (a := i) (b := j) (by omega), wrapu, hsh, hcm, h.idx (Ct hm)]
  refine pc (Cq hP _ _ _) ?_
  by_cases hx : l[m] < x
  ·simp (disch:=omega) only [BS, Ac, ↓reduceIte, nE, reduceCtorEq, g0, g1, g6, g8, decide_eq_true hx, Ah]
   refine ⟨(m + 1, j), ⟨tt, tt, tt, tt, tt, by show m + 1 ≤ j; omega, gj, tt, fun i' hi' h' => ?_, gh⟩, by show j - (m + 1) < j - i; omega, lr _⟩
   by_cases e : i' = m
   ·subst e; exact hx
   ·have := List.pairwise_iff_getElem.1 hs i' m hi' hm (by simp only at h'; omega)
    omega
  ·simp (disch:=omega) only [BS, BC, Ac, ↓reduceIte, nE, reduceCtorEq, g0, g1, g6, g7, decide_eq_false hx]
   refine ⟨(i, m), ⟨tt, tt, tt, tt, tt, hm'.2, by show m ≤ l.length; omega, tt, gl, fun i' hi' h' => ?_⟩, by show m - i < j - i; omega, lr _⟩
   by_cases e : i' = m
   ·subst e; exact hx
   ·have := List.pairwise_iff_getElem.1 hs m i' hm hi' (by simp only at h'; omega)
    omega
 ·obtain rfl : i = j := by omega
  have hlb := U3 (x := x) gj gl (fun h => gh i h (lr _))
  by_cases hil : i < l.length
  ·have hni : decide (x ∈ l) = decide (l[i] = x) := by
    refine decide_eq_decide.2 ⟨fun hx => ?_, fun e => by rw [← e]; exact gmm _⟩
    obtain ⟨k, hk, rfl⟩ := List.mem_iff_getElem.1 hx
    rcases Nat.lt_trichotomy k i with h1 | h1 | h1
    ·have := gl k hk h1; omega
    ·subst h1; rfl
    ·have h2 := List.pairwise_iff_getElem.1 hs i k hil hk h1
     have := gh i hil (lr _); omega
   by_cases he : l[i] = x
   ·simp (disch:=omega) only [BX, ↓reduceIte, nE, c_bs16_0, g6, g7, g8, clt, hij, hil, dT, dF]
    repeat (rw [Aa]; simp (disch:=omega) only [BS, BC, ↓reduceIte, nE, reduceCtorEq, BM, g0, g1, g7, h.idx (Ct hil), Ff, decide_eq_true he])
    exact ⟨_, rfl, _, _, .weak Ab, lr _, by rw [hlb, hni, decide_eq_true he], rfl⟩
   ·simp (disch:=omega) only [BX, ↓reduceIte, nE, c_bs16_0, g6, g7, g8, clt, hij, hil, dT, dF]
    repeat (rw [Aa]; simp (disch:=omega) only [BS, BC, ↓reduceIte, nE, reduceCtorEq, BM, g0, g1, g7, h.idx (Ct hil), Ff, decide_eq_false he])
    refine pc (snan_c hP _ _) ?_
    simp (disch:=omega) only [BS]
    repeat (rw [Aa]; simp (disch:=omega) only [BS, BC, ↓reduceIte, nE, BM])
    exact ⟨_, rfl, _, _, .weak Ab, lr _, by rw [hlb, hni, decide_eq_false he], rfl⟩
  ·have hni : decide (x ∈ l) = false := by
    refine decide_eq_false fun hx => ?_
    obtain ⟨k, hk, rfl⟩ := List.mem_iff_getElem.1 hx
    have := gl k hk (by omega); omega
   simp (disch:=omega) only [BX, ↓reduceIte, nE, c_bs16_0, g6, g7, g8, clt, hij, hil, dF]
   repeat (rw [Aa]; simp (disch:=omega) only [BS, BC, ↓reduceIte, nE, BM])
   exact ⟨_, rfl, _, _, .weak Ab, lr _, by rw [hlb, hni], rfl⟩
def c_cloneI : AC := (.r [.v 2 (.nilsl)] (.seq (.r [.m 3 0,.p 4 (.eqn false 1) [.t 3,.c (.nilsl)]] (.cond (.t 4) (.r [.v 2 (.nilsl)] .ret) .skip)) (.r [.p 5 (.bslice 1 0 (.int .i64 0) []) [],.m 6 0,.b 7 (.appendx 1 8 [.int .i64 0]) 5 6,.m 2 7] .ret)))
theorem Sn : compF Tryz.prog Tryz.f229 ⟨true, false, []⟩ = some (c_cloneI, [.tmp 2], 8) := by kernel_rfl
def c_leaveS_0 : AC := (.r [.b 101 (.bin .lss) 100 99] (.seq (.w 101 0) (.seq (.block 1 (.r [.b 102 (.idxp 1) 98 100,.u 103 (.load false 1) 102,.m 8 103] (.reg [.m 104 0,.u 105 .nilck 104,.u 106 (.fld 1) 105,.u 107 (.load false 1) 106,.m 108 8,.b 109 (.idxp 4) 107 108,.u 110 (.fld 0) 109,.u 111 (.fld 2) 110,⟨none,.store 1, [.t 111,.c (.bool false)], none⟩]))) (.reg [.a 112 (.bin .add) 100 1,.m 100 112]))))
def c_leaveS : AC := (.seq (.par (.step 0 (.m 9 0) (.step 1 (.u 10 .nilck 9) (.step 2 (.u 11 (.fld 2) 10) (.step 4 (.m 13 0) (.step 5 (.u 14 .nilck 13) (.step 6 (.u 15 (.fld 2) 14) (.step 3 (.u 12 (.load false 1) 11) (.step 7 (.u 16 (.load false 1) 15) (.step 8 (.u 17 (.len 1 0) 16) (.step 9 (.a 18 (.bin .sub) 17 1) (.step 10 (.b 19 (.idxp 1) 12 18) (.step 11 (.u 20 (.load false 1) 19) (.step 12 (.m 2 20) .done)))))))))))))) (.seq (.par (.step 0 (.m 21 0) (.step 1 (.m 22 0) (.step 2 (.u 23 .nilck 22) (.step 3 (.u 24 (.fld 2) 23) (.step 5 (.m 26 0) (.step 6 (.u 27 .nilck 26) (.step 7 (.u 28 (.fld 2) 27) (.step 4 (.u 25 (.load false 1) 24) (.step 8 (.u 29 (.load false 1) 28) (.step 9 (.u 30 (.len 1 0) 29) (.step 10 (.a 31 (.bin .sub) 30 1) (.step 11 (.b 32 (.slc 1 false true false) 25 31) (.step 12 (.u 33 .nilck 21) (.step 13 (.u 34 (.fld 2) 33) (.step 14 ⟨none,.store 1, [.t 34,.t 32], none⟩ .done)))))))))))))))) (.r [.m 35 0,.u 36 .nilck 35,.u 37 (.fld 1) 36,.u 38 (.load false 1) 37,.m 39 2,.b 40 (.idxp 4) 38 39,.u 41 (.load true 4) 40,.p 3 (.alloc [.int .i64 0,.int .i64 0,.bool false,.int .i64 0]) [],⟨none,.store 4, [.t 3,.t 41], none⟩] (.seq (.r [.m 42 0,.u 43 .nilck 42,.u 44 (.fld 2) 43,.u 45 (.load false 1) 44,.u 46 (.len 1 0) 45,.a 47 (.bin .gtr) 46 0] (.cond (.t 47) (.seq (.par (.step 0 (.m 48 0) (.step 1 (.u 49 .nilck 48) (.step 2 (.u 50 (.fld 1) 49) (.step 4 (.m 52 0) (.step 5 (.u 53 .nilck 52) (.step 6 (.u 54 (.fld 2) 53) (.step 8 (.m 56 0) (.step 9 (.u 57 .nilck 56) (.step 10 (.u 58 (.fld 2) 57) (.step 3 (.u 51 (.load false 1) 50) (.step 7 (.u 55 (.load false 1) 54) (.step 11 (.u 59 (.load false 1) 58) (.step 12 (.u 60 (.len 1 0) 59) (.step 13 (.a 61 (.bin .sub) 60 1) (.step 14 (.b 62 (.idxp 1) 55 61) (.step 15 (.u 63 (.load false 1) 62) (.step 16 (.b 64 (.idxp 4) 51 63) (.step 17 (.m 4 64) .done))))))))))))))))))) (.par (.step 0 (.m 65 4) (.step 1 (.m 66 4) (.step 2 (.u 67 .nilck 66) (.step 3 (.u 68 (.fld 0) 67) (.step 4 (.u 69 (.fld 1) 68) (.step 6 (.u 71 (.fld 0) 3) (.step 7 (.u 72 (.fld 1) 71) (.step 5 (.u 70 (.load false 1) 69) (.step 8 (.u 73 (.load false 1) 72) (.step 9 (.b 74 (.len 5 0) 70 73) (.step 10 (.u 75 .nilck 65) (.step 11 (.u 76 (.fld 0) 75) (.step 12 (.u 77 (.fld 1) 76) (.step 13 ⟨none,.store 1, [.t 77,.t 74], none⟩ .done)))))))))))))))) .skip)) (.seq (.r [.u 78 (.fld 0) 3,.u 79 (.fld 1) 78,.u 80 (.load false 1) 79,.u 81 (.fld 0) 3,.u 82 (.fld 0) 81,.u 83 (.load false 1) 82,.b 84 (.bin .neq) 80 83] (.cond (.t 84) .ret .skip)) (.r [.m 85 0,.u 86 .nilck 85,.u 87 (.fld 3) 86,.u 88 (.load false 1) 87,.m 89 2,.b 90 (.call 116) 88 89,.m 5 90] (.r [.m 91 0,.u 92 .nilck 91,.u 93 (.fld 3) 92,.u 94 (.load false 1) 93,.m 95 5,.b 96 (.slc 1 true false false) 94 95,.u 97 (.call 229) 96,.m 6 97] (.seq (.r [.m 98 6,.u 99 (.len 1 0) 98,.v 100 (.int .i64 0)] (.block 0 (.loop c_leaveS_0))) (.r [.m 113 0,.m 114 0,.u 115 .nilck 114,.u 116 (.fld 3) 115,.u 117 (.load false 1) 116,.m 118 5,.b 119 (.slc 1 false true false) 117 118,.u 120 .nilck 113,.u 121 (.fld 3) 120,⟨none,.store 1, [.t 121,.t 119], none⟩] (.r [.m 122 6,.u 123 (.call 230) 122] (.reg [.m 124 0,.m 125 0,.u 126 .nilck 125,.u 127 (.fld 4) 126,.u 128 (.load false 1) 127,.m 129 6,.u 130 (.bslice 1 1 (.nilsl) [0]) 129,.b 131 (.appendx 1 24 [.nilsl]) 128 130,.u 132 .nilck 124,.u 133 (.fld 4) 132,⟨none,.store 1, [.t 133,.t 131], none⟩])))))))))))
theorem Sj : compF Tryz.prog Tryz.f178 ⟨true, false, []⟩ = some (c_leaveS, [], 134) := by kernel_rfl
theorem idxS_c (hP : PE E) (W : AW) {r : Nat} {l a b : List Nat} {cs : List V} {i : Nat} (hg : W.get r = some (.vec 1 (natsV l ++ cs))) (hl : l.length < 2 ^ 40) (hs : l = a ++ i :: b) (hna : i ∉ a) :
  ACalls E 116 [.slr r 0 l.length 1, .int .i64 (i : Int)] W fun Y W' => Y = .int .i64 (a.length : Nat) ∧ W' = W := by
 refine ACalls.of hP Tryz.func116 Qh (by simp) fun _ hok => ?_
 have hla : a.length < l.length := by rw [hs]; simp
 simp only [c_idxI, BZ, ↓reduceIte, reduceCtorEq]
 rw [Ai]
 refine alp (fun (k : Nat) A1 W1 => A1 0 = some (.slr r 0 l.length 1) ∧ A1 1 = some (.int .i64 (i : Int)) ∧ A1 7 = some (.int .i64 l.length) ∧ A1 8 = some (.int .i64 k) ∧ k ≤ a.length ∧ W1 = W) (fun k => l.length - k) 0
  ⟨rfl, rfl, rfl, rfl, Nat.zero_le _, rfl⟩ ?_
 rintro k A1 W1 ⟨g0, g1, g7, g8, gk, rfl⟩ _
 have hkl : k < l.length := by omega
 have hat : (natsV l ++ cs)[k]? = some (.int .i64 (l[k] : Nat)) := by rw [List.getElem?_append_left (by rw [An]; exact hkl), D4 hkl]
 by_cases he : k = a.length
 ·have hb : ((i : Int) == ((l[k] : Nat) : Int)) = true := by subst he; simp [hs]
  simp (disch:=omega) only [BX, ↓reduceIte, nE, reduceCtorEq, g0, g1, g7, g8, clt, hkl, dT, zx1, C0, hg, Hv hat, hb]
  exact ⟨_, rfl, _, _, .weak Ab, lr _, by rw [he], rfl⟩
 ·have hlk : l[k] = a[k]'(by omega) := by simp only [hs]; rw [List.getElem_append_left (by omega)]
  have hb : ((i : Int) == ((l[k] : Nat) : Int)) = false := by
   have : i ≠ l[k] := fun e => hna (by rw [e, hlk]; exact gmm _)
   simp; omega
  simp (disch:=omega) only [BX, ↓reduceIte, nE, reduceCtorEq, g0, g1, g7, g8, clt, hkl, dT, zx1, C0, hg, Hv hat, hb, Ah]
  exact ⟨k + 1, ⟨tt, tt, tt, tt, by omega, tt⟩, by omega, lr _⟩
theorem K7 (l : List Nat) : (natsV l).all V.one = true := by
 induction l with
 | nil => rfl
 | cons x l ih => simp only [natsV, mcs, List.all_cons, Bool.and_eq_true] at ih ⊢; exact ⟨rfl, ih⟩
theorem Sv (l : List Nat) : (natsV l).flatMap V.cells = natsV l := by
 induction l with
 | nil => rfl
 | cons x l ih => simp only [natsV, mcs, List.flatMap_cons] at ih ⊢; rw [ih]; rfl
theorem Hm : ∀ (l cs : List V), chunks 1 l.length (l ++ cs) = l
 | [], _ => rfl
 | x :: l, cs => by
  show _ :: chunks 1 l.length ((x :: l ++ cs).drop 1) = _
  rw [List.cons_append, List.drop_succ_cons, List.drop_zero, Hm l cs]; rfl
theorem eqn_slr {W : AW} {K : V → AW → Prop} {r k n s : Nat} {neg : Bool} : sem E (.eqn neg 1) [.slr r k n s, .nilsl] W K = K (.bool (if neg then !false else false)) W := by
 rw [Xbn]; rfl
theorem bs0 {W : AW} {K : V → AW → Prop} : sem E (.bslice 1 0 (.int .i64 0) []) [] W K = K (.sl 1 true []) W := by
 simp [sem, rsem, tsem, fillE, V.cells]
theorem cloneS_c (hP : PE E) (W : AW) {r : Nat} {l a b : List Nat} {cs : List V} (hg : W.get r = some (.vec 1 (natsV l ++ cs))) (hl : l.length < 2 ^ 40) (hs : l = a ++ b) (hb : 0 < b.length) :
  ACalls E 229 [.slr r a.length b.length 1] W fun Y W' => Y = .slr W.nx 0 b.length 1 ∧ W' = W.alloc (.vec 1 (natsV b)) := by
 refine ACalls.of hP Tryz.func229 Sn (by simp) fun _ hok => ?_
 have hn : natsV l = natsV a ++ natsV b := by rw [hs]; simp [natsV]
 have hlen : l.length = a.length + b.length := by rw [hs]; simp
 have hd : (natsV l ++ cs).drop (a.length * 1) = natsV b ++ cs := by
  rw [hn, Nat.mul_one, List.append_assoc, List.drop_append, List.drop_of_length_le (by rw [An]; omega), An, Nat.sub_self, List.drop_zero, List.nil_append]
 have hel : elemsV 1 W (.slr r a.length b.length 1) = some (natsV b) := by
  have c1 : (a.length + b.length) * 1 ≤ (natsV l ++ cs).length := by rw [lap, An]; omega
  have c2 : (((natsV l ++ cs).drop (a.length * 1)).take (b.length * 1)).all V.one = true := by
   rw [hd, Nat.mul_one, List.take_append_of_le_length (by rw [An]; omega), List.take_of_length_le (by rw [An]; omega)]
   exact K7 b
  simp only [elemsV, hg]
  rw [if_pos ⟨tt, tt, c1, c2⟩, hd]
  have := Hm (natsV b) cs
  rw [An] at this
  rw [this]
 have happ : ∀ K, sem E (.appendx 1 8 [.int .i64 0]) [.sl 1 true [], .slr r a.length b.length 1] W K = K (.slr W.nx 0 b.length 1) (W.alloc (.vec 1 (natsV b))) := fun K => by
  have e : (natsV b).isEmpty = false := by cases b <;> simp_all [natsV]
  simp only [sem, hel, e, List.nil_append, List.length_nil, Nat.zero_add, An, Sv, Bool.false_eq_true, if_false]
  exact propext ⟨fun h => h.2.2.2, fun h => ⟨by decide, tt, by omega, h⟩⟩
 simp only [c_cloneI, BX, ↓reduceIte, nE, reduceCtorEq, eqn_slr, bs0, happ]
 exact ⟨_, rfl, _, _, .weak Ab, by rw [Ad]; omega, rfl, rfl⟩
def tailS : AC → Nat → AC
 | .seq _ b, n + 1 => tailS b n
 | c, _ => c
theorem Y4 {k : Nat} (h : k < 2 ^ 60) : IntKind.i64.wrap (((k + 1 : Nat) : Int) - 1) = (k : Int) := by
 rw [show ((k + 1 : Nat) : Int) - 1 = k by omega]; exact IntWalk.i64_in _ (by omega)
theorem slcS {W : AW} {K : V → AW → Prop} {r n k : Nat} (h : k ≤ n) : sem E (.slc 1 false true false) [.slr r 0 n 1, .int .i64 (k : Int)] W K = K (.slr r 0 k 1) W := by
 simp [sem, rsem, tsem, slcOp, natV, slcV, h]
theorem slcT {W : AW} {K : V → AW → Prop} {r n k : Nat} (h : k ≤ n) : sem E (.slc 1 true false false) [.slr r 0 n 1, .int .i64 (k : Int)] W K = K (.slr r k (n - k) 1) W := by
 simp [sem, rsem, tsem, slcOp, natV, slcV, h]
theorem bsS {W : AW} {K : V → AW → Prop} {r n : Nat} : sem E (.bslice 1 1 .nilsl [0]) [.slr r 0 n 1] W K = K (.sl 1 true [.slr r 0 n 1]) W := by
 simp [sem, rsem, tsem, fillE, V.cells]
theorem Sw.but {W W' : AW} {n lo rs rn z : Nat} {nv hw ht he : V} {gs : List (Nat × List Nat)} {s : TS} {cz : List V} (h : Sw n lo nv rs rn hw ht he gs s W) (hc : Cl W') (hx : W.nx ≤ W'.nx) (hz : W.get z = some (.vec 1 cz)) (h1 : refH hw ≠ some z) (h2 : refH ht ≠ some z) (h3 : refH he ≠ some z) (h4 : ∀ g ∈ gs, g.1 ≠ z)
  (hg : ∀ x, lo ≤ x → x < W.nx → x ≠ z → W'.get x = W.get x) : Sw n lo nv rs rn hw ht he gs s W' :=
 ⟨(hg _ h.rsl.1 h.rsl.2 (fun e => by have := h.row; rw [e, hz] at this; cases this)).trans h.row, (hg _ h.rnl.1 h.rnl.2 (fun e => by have := h.nod; rw [e, hz] at this; cases this)).trans h.nod,
  h.way.to hx fun r hr a b => hg r a b fun e => h1 (e ▸ hr), h.wtg.to hx fun r hr a b => hg r a b fun e => h2 (e ▸ hr), h.eds.to hx fun r hr a b => hg r a b fun e => h3 (e ▸ hr), fun g hgg => by
  obtain ⟨a, b, c⟩ := h.grp g hgg
  exact ⟨a, by omega, (hg _ a b (h4 g hgg)).trans c⟩, h.eg, ⟨h.rsl.1, by have := h.rsl.2; omega⟩, ⟨h.rnl.1, by have := h.rnl.2; omega⟩, h.d1, h.d2, h.d3, hc⟩
def clrW (wt : Nat → Bool) (l : List Nat) : Nat → Bool := fun j => wt j && !decide (j ∈ l)
theorem clr_snoc {wt : Nat → Bool} {l : List Nat} {x : Nat} : fset (clrW wt l) x false = clrW wt (l ++ [x]) := by
 funext j
 unfold fset clrW
 by_cases e : j = x
 ·subst e; simp
 ·simp [e]
theorem clr_go (_ : E.P = Tryz.prog) {W : AW} {n lo rs rn z : Nat} {nv hw ht he : V} {gs : List (Nat × List Nat)} {s : TS} {g : List Nat} (h : Sw n lo nv rs rn hw ht he gs s W) (hz : W.get z = some (.vec 1 (natsV g))) (_ : lo ≤ z ∧ z < W.nx) (hgn : ∀ i ∈ g, i < n) (hgl : g.length < 2 ^ 40) {v5 : V} {A : AFr} {Q : Exit → AFr → AW → Prop}
  (a0 : A 0 = some (.ptr rs 0)) (a5 : A 5 = some v5) (a6 : A 6 = some (.slr z 0 g.length 1)) (a98 : A 98 = some (.slr z 0 g.length 1)) (a99 : A 99 = some (.int .i64 g.length)) (a100 : A 100 = some (.int .i64 0))
  (hQ : ∀ A' W', A' 0 = some (.ptr rs 0) → A' 5 = some v5 → A' 6 = some (.slr z 0 g.length 1) → Sw n lo nv rs rn hw ht he gs { s with wt := clrW s.wt g } W' → W'.nx = W.nx → W'.get z = some (.vec 1 (natsV g)) → (∀ x, x < lo → W'.get x = W.get x) → Q (.exit 0) A' W') : awp E (.loop c_leaveS_0) Q A W := by
 rw [Ai]
 refine alp (fun (k : Nat) A1 W1 => A1 0 = some (.ptr rs 0) ∧ A1 5 = some v5 ∧ A1 6 = some (.slr z 0 g.length 1) ∧ A1 98 = some (.slr z 0 g.length 1) ∧ A1 99 = some (.int .i64 g.length) ∧ A1 100 = some (.int .i64 k) ∧ k ≤ g.length ∧ Sw n lo nv rs rn hw ht he gs { s with wt := clrW s.wt (g.take k) } W1 ∧ W1.nx = W.nx ∧ W1.get z = some (.vec 1 (natsV g)) ∧ ∀ x, x < lo → W1.get x = W.get x) (fun k => g.length - k) 0
  ⟨a0, a5, a6, a98, a99, a100, Nat.zero_le _, ?_, rfl, hz, fun _ _ => rfl⟩ ?_
 ·have e : clrW s.wt (g.take 0) = s.wt := by funext j; simp [clrW]
  rw [e]; exact h
 rintro k A1 W1 ⟨g0, g5, g6, g98, g99, g100, gk, gS, gn, gz, gf⟩ _
 by_cases hk : k < g.length
 ·have hat : (natsV g)[k]? = some (.int .i64 (g[k] : Nat)) := D4 hk
  have hi := hgn _ (gmm hk)
  have htk : g.take (k + 1) = g.take k ++ [g[k]] := by rw [tao, gEg hk]; rfl
  generalize g[k] = i at hat hi htk
  have hnr : rs ≠ rn := gS.ne
  have l1 := gS.rsl
  have l2 := gS.rnl
  have hzn : z ≠ rn := fun e => by have := gS.nod; rw [← e, gz] at this; cases this
  simp (disch:=omega) only [BX, ↓reduceIte, nE, reduceCtorEq, BM, BD, c_leaveS_0, g0, g5, g6, g98, g99, g100, clt, hk, dT, zx1, C0, gz, Hv hat, gS.row, gS.nod, ix4, Es, vsW, Ah]
  refine ⟨k + 1, ⟨tt, tt, tt, tt, tt, tt, hk, ?_, gn, by rw [put_ne hzn]; exact gz, fun x hx => by rw [put_ne (by omega)]; exact gf x hx⟩, by omega, by rw [Af]; omega⟩
  rw [htk, ← clr_snoc]
  exact gS.putn (s' := { s with wt := fset (clrW s.wt (g.take k)) i false }) rfl rfl rfl rfl
 ·obtain rfl : k = g.length := by omega
  rw [tkl] at gS
  simp (disch:=omega) only [BX, ↓reduceIte, c_leaveS_0, g99, g100, clt, hk, dF]
  exact hQ _ _ g0 g5 g6 gS gn gz gf
end Go.AL.S
