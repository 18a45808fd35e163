/- What the program's functions do, part 5. Conditions: none. -/
import Derived.Test.YtfncnpcoekinjaaGreatDoorBd
open Nat renaming reduceEqDiff → nE, reduceLeDiff → nL, reduceAdd → nA, reduceLT → nT, le_refl → lr
open List renaming getElem?_eq_getElem → gEg, length_map → lmp, getElem_mem → gmm, length_append → lap, length_cons → lcs, mem_singleton → msg, append_nil → apn, mem_append → map', take_length → tkl, map_cons → mcs, map_append → mpp, mem_map → mmp, any_eq_true → aet, length_replicate → lrp, take_add_one → tao, length_take → ltk, mem_filter → mfl
set_option maxRecDepth 100000
set_option maxHeartbeats 8000000
namespace Go.AL.S
open Go Go.AL Go.AL.SE Go.Proofs
def c_works : AC := (.r [.v 0 (.bool false)] (.r [.p 1 (.call 19) [],.p 2 (.call 18) [.t 1,.c (.int .u8 1)],.p 3 (.bin .eql) [.t 2,.c (.str ⟨#[49, 32, 45, 119, 119, 45, 62, 32, 50, 32, 45, 119, 119, 45, 62, 32, 49]⟩)],.m 4 3,.P 5 (.call 19) [] 4 true,.P 6 (.call 18) [.t 5,.c (.int .u8 16)] 4 true,.P 7 (.bin .eql) [.t 6,.c (.str ⟨#[110, 111, 110, 101]⟩)] 4 true,.p 8 .pick [.t 4,.t 7,.F],.m 9 8,.P 10 (.bslice 1 2 (.int .u16 0) [0, 1]) [.c (.int .u16 3),.c (.int .u16 5)] 9 true,.P 11 (.bslice 1 2 (.int .u8 0) [0, 1]) [.c (.int .u8 0),.c (.int .u8 2)] 9 true,.B 12 (.build [.nilsl,.nilsl] [(0, 1), (1, 1)]) 10 11 9 true,.U 13 (.call 21) 12 9 true,.P 14 (.bin .eql) [.t 13,.c (.str ⟨#[51, 32, 45, 119, 119, 45, 62, 32, 53, 32, 45, 114, 119, 45, 62, 32, 51]⟩)] 9 true,.p 15 .pick [.t 9,.t 14,.F],.m 0 15] .ret))
theorem ok_workse : compF Tryz.prog Tryz.f9 ⟨false, false, []⟩ = some (c_works, [.tmp 0], 16) := by kernel_rfl
variable {E : Env}
def shortD (l : List De) (k : Int) : Option (List Int × List Int) := shortR (edL (buildP (toldR l).1 (toldR l).2)) (nodesR (toldR l).1) k
def elO : Option (List Int) → V
 | none => .nilsl
 | some l => elT l
def deP (ms : List Mi) : De := ⟨.sl 3 true (ms.map Mi.V), ms, .nilsl, [], 0⟩
def deR (ms : List Mi) (rs : List (Option (List Int))) : De := ⟨.sl 3 true (ms.map Mi.V), ms, .sl 1 true (rs.map elO), rs, 0⟩
theorem elO_isEl (o : Option (List Int)) : isEl (elO o) o := by
 cases o with
 | none => exact .inl ⟨rfl, rfl⟩
 | some l => exact .inr (.inr ⟨_, l, rfl, rfl⟩)
theorem belO (rs : List (Option (List Int))) (n : Nat) : V.belL n (rs.map elO) = true := by
 induction rs with
 | nil => rfl
 | cons x l ih =>
  simp only [mcs, V.belL, Bool.and_eq_true]
  refine ⟨?_, ih⟩
  cases x with
  | none => rfl
  | some l => exact belL_ints l n
theorem deP_ok {ms : List Mi} (h : ∀ m ∈ ms, m.ok) (hl : ms.length < 2 ^ 30) : (deP ms).ok ∧ (deP ms).small :=
 ⟨⟨.mk, h, ⟨[], .inl ⟨rfl, rfl⟩, rfl, fun k h => absurd h (by simp)⟩, (fun o ho => absurd ho (by simp [deP])), rfl, ⟨by simp [deP], by simp [deP]⟩⟩, hl, by simp [deP], fun o ho => absurd ho (by simp [deP])⟩
theorem deR_ok {ms : List Mi} {rs : List (Option (List Int))} (h : ∀ m ∈ ms, m.ok) (hl : ms.length < 2 ^ 30) (hr : ∀ o ∈ rs, (nums o).length < 2 ^ 30 ∧ ∀ n ∈ nums o, 0 ≤ n ∧ n < 65536) (hq : rs.length < 2 ^ 30) : (deR ms rs).ok ∧ (deR ms rs).small :=
 ⟨⟨.mk, h, ⟨_, .mk, by simp [deR], fun k h h' => by rw [List.getElem_map]; exact elO_isEl _⟩, fun o ho => (hr o ho).2, belO rs 0, ⟨by simp [deR], by simp [deR]⟩⟩, hl, hq, fun o ho => (hr o ho).1⟩
theorem twoD_eq : twoD = [deP [⟨false, 0, 1⟩, ⟨false, 1, 2⟩], deP [⟨false, 0, 3⟩, ⟨false, 1, 4⟩], deR [⟨true, 0, 0⟩, ⟨true, 1, 0⟩] [some [1, 3], some [4, 2]]] := rfl
theorem twoD_ok : ∀ d ∈ twoD, d.ok ∧ d.small := by
 rw [twoD_eq]
 simp only [List.forall_mem_cons, List.not_mem_nil, false_implies, implies_true, and_true]
 refine ⟨deP_ok (by simp [Mi.ok]) (by decide), deP_ok (by simp [Mi.ok]) (by decide), deR_ok (by simp [Mi.ok]) (by decide) (by simp [nums]) (by decide)⟩
structure Cl5 (l : List De) (k : Int) (r : Option (List Int × List Int)) : Prop where
 r : shortD l k = r
 e : (edL (buildP (toldR l).1 (toldR l).2)).length < 2 ^ 30
 n : ∀ x ∈ nodesR (toldR l).1, 0 ≤ x ∧ x < 65536
theorem text_k (hP : PE E) (hd0 : E.w0.drawn = 0) (W : AW) {v : V} {l : List De} (hv : isS 3 v (l.map De.V)) (hd : ∀ d ∈ l, d.ok ∧ d.small) (hl : l.length < 60000) {k : Int} {r : Option (List Int × List Int)} {s : ByteArray} (h : Cl5 l k r) (hc : ∀ p, r = some p → Cy p) (hs : textR r = .str s) :
  ACalls E 18 [v, .int .u8 k] W fun Y W' => Y = .str s ∧ W' = W := by
 rw [← hs]
 exact text30_c hP hd0 W hv hd hl k h.r h.e h.n hc
theorem cl5_of {l : List De} {k : Int} {r : Option (List Int × List Int)} {e : Nat} {n : List Int} (h : (shortD l k, (edL (buildP (toldR l).1 (toldR l).2)).length, nodesR (toldR l).1) = (r, e, n)) (he : e < 2 ^ 30) (hn : ∀ x ∈ n, 0 ≤ x ∧ x < 65536) : Cl5 l k r := by
 injection h with h1 h
 injection h with h2 h3
 exact ⟨h1, by rw [h2]; exact he, by rw [h3]; exact hn⟩
theorem cy2 {a b c d : Int} (ha : 0 ≤ a ∧ a < 100) (hb : 0 ≤ b ∧ b < 100) (hc : 0 ≤ c ∧ c < 256) (hd : 0 ≤ d ∧ d < 256) : ∀ p, some ([a, b], [c, d]) = some p → Cy p := by
 rintro _ ⟨⟩
 exact ⟨rfl, by simp, by simp, by simp [ha, hb], by simp [hc, hd]⟩
theorem two1 : Cl5 twoD 1 (some ([1, 2], [0, 0])) := cl5_of (e := 4) (n := [1, 2, 3]) (by kernel_rfl) (by decide) (by simp)
theorem two16 : Cl5 twoD 16 none := cl5_of (e := 4) (n := [1, 2, 3]) (by kernel_rfl) (by decide) (by simp)
def tWW : ByteArray := ⟨#[49, 32, 45, 119, 119, 45, 62, 32, 50, 32, 45, 119, 119, 45, 62, 32, 49]⟩
def tNo : ByteArray := ⟨#[110, 111, 110, 101]⟩
theorem tWW_eq : textR (some ([1, 2], [0, 0])) = .str tWW := by kernel_rfl
theorem tNo_eq : textR none = .str tNo := rfl
theorem eqSS {W : AW} {K : V → AW → Prop} {a b : ByteArray} (h : a = b) : sem E (.bin .eql) [.str a, .str b] W K = K (.bool true) W := by
 subst h
 simp [sem, rsem, tsem, binS]
def tPl : ByteArray := ⟨#[51, 32, 45, 119, 119, 45, 62, 32, 53, 32, 45, 114, 119, 45, 62, 32, 51]⟩
theorem tPl_eq : textR (some ([3, 5], [0, 2])) = .str tPl := by kernel_rfl
theorem cText2 (hP : PE E) (hd0 : E.w0.drawn = 0) (W : AW) {a b c d : Int} (ha : 0 ≤ a ∧ a < 100) (hb : 0 ≤ b ∧ b < 100) (hc : 0 ≤ c ∧ c < 256) (hd : 0 ≤ d ∧ d < 256) {s : ByteArray} (hs : textR (some ([a, b], [c, d])) = .str s) :
  ACalls E 21 [.agg [.sl 1 true [.int .u16 a, .int .u16 b], .sl 1 true [.int .u8 c, .int .u8 d]]] W fun Y W' => Y = .str s ∧ W' = W := by
 rw [← hs]
 exact Cy.text hP hd0 W (cy2 ha hb hc hd _ rfl) .mk .mk
theorem bK2 {W : AW} {K : V → AW → Prop} {a b : Int} : sem E (.bslice 1 2 (.int .u8 0) [0, 1]) [.int .u8 a, .int .u8 b] W K = K (.sl 1 true [.int .u8 a, .int .u8 b]) W := id rfl
theorem eqWW {W : AW} {K : V → AW → Prop} : sem E (.bin .eql) [.str tWW, .str ⟨#[49, 32, 45, 119, 119, 45, 62, 32, 50, 32, 45, 119, 119, 45, 62, 32, 49]⟩] W K = K (.bool true) W := eqSS rfl
theorem eqNo {W : AW} {K : V → AW → Prop} : sem E (.bin .eql) [.str tNo, .str ⟨#[110, 111, 110, 101]⟩] W K = K (.bool true) W := eqSS rfl
theorem eqPl {W : AW} {K : V → AW → Prop} : sem E (.bin .eql) [.str tPl, .str ⟨#[51, 32, 45, 119, 119, 45, 62, 32, 53, 32, 45, 114, 119, 45, 62, 32, 51]⟩] W K = K (.bool true) W := eqSS rfl
theorem works_c (hP : PE E) (hd0 : E.w0.drawn = 0) (W : AW) : ACalls E 9 [] W fun Y W' => Y = .bool true ∧ W' = W := by
 refine ACalls.of hP Tryz.func9 ok_workse (by simp) fun _ hok => ?_
 refine awp_start hok ?_
 simp (maxSteps:=9^9) (disch:=omega) only [BZ, c_works]
 refine pc (twoWW_c hP _) ?_
 simp (maxSteps:=9^9) (disch:=omega) only [BS, BC, ↓reduceIte, ]
 refine pc (text_k hP hd0 _ .mk twoD_ok (by decide) two1 (cy2 (by decide) (by decide) (by decide) (by decide)) tWW_eq) ?_
 simp (maxSteps:=9^9) (disch:=omega) only [BS, ↓reduceIte, eqWW]
 rw [guard_if]
 simp (maxSteps:=9^9) (disch:=omega) only [BS, BC, ↓reduceIte, ]
 refine pc (twoWW_c hP _) ?_
 simp (maxSteps:=9^9) (disch:=omega) only [BS, ]
 rw [guard_if]
 simp (maxSteps:=9^9) (disch:=omega) only [BS, BC, ↓reduceIte, nE, ]
 refine pc (text_k hP hd0 _ .mk twoD_ok (by decide) two16 (fun p h => by cases h) tNo_eq) ?_
 simp (maxSteps:=9^9) (disch:=omega) only [BS, ]
 rw [guard_if]
 simp (maxSteps:=9^9) (disch:=omega) only [BS, ↓reduceIte, nE, eqNo]
 rw [guard_if]
 simp (maxSteps:=9^9) (disch:=omega) only [BS, ↓reduceIte, bU2]
 rw [guard_if]
 simp (maxSteps:=9^9) (disch:=omega) only [BS, ↓reduceIte, nE, bK2]
 rw [guard_if]
 simp (maxSteps:=9^9) (disch:=omega) only [BS, ↓reduceIte, nE, BM, BD, nA, nL]
 rw [guard_if]
 simp (maxSteps:=9^9) (disch:=omega) only [BS, BC, ↓reduceIte, nE, ]
 refine pc (cText2 hP hd0 _ (by decide) (by decide) (by decide) (by decide) tPl_eq) ?_
 simp (maxSteps:=9^9) (disch:=omega) only [BS, ]
 rw [guard_if]
 simp (maxSteps:=9^9) (disch:=omega) only [BS, BC, ↓reduceIte, nE, eqPl]
 exact ⟨_, rfl, _, W, .weak (weak_back hok rfl fun y hy => by rw [X_old (by omega)]), lr _, rfl, rfl⟩
end Go.AL.S
set_option maxHeartbeats 8000000
namespace Go.AL.S
open Go Go.AL Go.Proofs Go.Sort Go.Shelf Go.RowKit
variable {E : Env}
def maxR : List Int → Int
 | [] => 0
 | x :: l => l.foldl max x
def minR : List Int → Int
 | [] => 0
 | x :: l => l.foldl min x
end Go.AL.S
namespace Go.AL.S
open Go Go.AL Go.AL.SE Go.Proofs
variable {E : Env}
def isAt (f : Ed → Bool) (ids ks : List Int) (i : Nat) : Bool := !(ids.take i).any (fun x => decide (ids.getD i 0 = x)) && f ⟨ids.getD i 0, ids.getD ((i + 1) % ids.length) 0, ks.getD i 0⟩
def isGo (f : Ed → Bool) (ids ks : List Int) (n : Nat) : Bool := (List.range n).all (isAt f ids ks)
def isR (f : Ed → Bool) (k : Int) (ids ks : List Int) : Bool := match ownR k with
 | none => false
 | some own => decide (2 ≤ ids.length) && decide (ks.length = ids.length) && ks.any (fun x => decide (own = x)) && decide (maxR ks ≤ own) && decide (minR ids = ids.getD 0 0) && isGo f ids ks ids.length
theorem remQ {W : AW} {K : V → AW → Prop} {k : IntKind} {a b : Nat} (h : 0 < b) : sem E (.bin .rem) [.int k (a : Int), .int k (b : Int)] W K = K (.int k ((a % b : Nat) : Int)) W := by
 have : (b : Int) ≠ 0 := by omega
 have h2 : (b : Int) = 0 ↔ False := iff_false_intro this
 simp only [sem, rsem, tsem, if_true, binI, h2, if_false, Int.ofNat_tmod]
theorem ints_getD {l : List Int} {i : Nat} (h : i < l.length) : (intsV l)[i]? = some (.int .u16 (l.getD i 0)) := by
 rw [int_at h]; simp [List.getD, h]
theorem u8_getD {l : List Int} {i : Nat} (h : i < l.length) : (u8s l)[i]? = some (.int .u8 (l.getD i 0)) := by
 simp [u8s, List.getD, h]
theorem getD_in {l : List Int} {i : Nat} (h : i < l.length) : l.getD i 0 ∈ l := by
 simp [List.getD, h]
inductive Wk (es : List Ed) (own : Int) : Nat → Sp → Sp → Prop where
 | nil (x : Sp) : Wk es own 0 x x
 | cons {n : Nat} {x y z : Sp} : Lds es own x y → Wk es own n y z → Wk es own (n + 1) x z
theorem Wk.snoc {es : List Ed} {own : Int} {n : Nat} {x y z : Sp} (h : Wk es own n x y) (h2 : Lds es own y z) : Wk es own (n + 1) x z := by
 induction h with
 | nil x => exact .cons h2 (.nil _)
 | cons a _ ih => exact .cons a (ih h2)
theorem Wk.app {es : List Ed} {own : Int} {n m : Nat} {x y z : Sp} (h : Wk es own n x y) (h2 : Wk es own m y z) : Wk es own (n + m) x z := by
 induction h with
 | nil x => rw [Nat.zero_add]; exact h2
 | cons a _ ih => rw [Nat.add_right_comm]; exact .cons a (ih h2)
structure Lv (d : Nat) (L : Fl) : Prop where
 srt : L.Pairwise fun a b => a.2 ≤ b.2
 top : ∀ p ∈ L, p.2 ≤ d + 1
theorem Lv.put {d : Nat} {L : Fl} (h : Lv d L) (z : Sp) : Lv d (putF d L z) := by
 unfold putF
 split
 ·exact h
 ·refine ⟨List.pairwise_append.2 ⟨h.srt, List.pairwise_singleton .., fun a ha b hb => ?_⟩, fun p hp => ?_⟩
  ·rw [List.mem_singleton.1 hb]; exact h.top a ha
  ·rcases List.mem_append.1 hp with hp | hp
   ·exact h.top p hp
   ·rw [List.mem_singleton.1 hp]; exact lr _
theorem put_has {d : Nat} {L : Fl} (h : Lv d L) (z : Sp) : ∃ d', d' ≤ d + 1 ∧ (z, d') ∈ putF d L z := by
 unfold putF
 split
 ·rename_i hz
  obtain ⟨p, hp, rfl⟩ := List.mem_map.1 hz
  exact ⟨p.2, h.top p hp, hp⟩
 ·exact ⟨d + 1, lr _, by simp⟩
theorem Lv.fold {d : Nat} : ∀ {l : List Sp} {L : Fl}, Lv d L → Lv d (l.foldl (putF d) L) ∧ ∀ z ∈ l, ∃ d', d' ≤ d + 1 ∧ (z, d') ∈ l.foldl (putF d) L
 | [], _, h => ⟨h, fun _ hz => by cases hz⟩
 | z :: l, L, h => by
  obtain ⟨h1, h2⟩ := Lv.fold (l := l) (h.put z)
  refine ⟨h1, fun y hy => ?_⟩
  rcases List.mem_cons.1 hy with rfl | hy
  ·obtain ⟨d', a, b⟩ := put_has h y
   exact ⟨d', a, (fold_pre d l _).subset b⟩
  ·exact h2 y hy
structure Bf (es : List Ed) (own : Int) (to : Sp) (i : Nat) (L : Fl) : Prop where
 fi : FI es to L
 srt : L.Pairwise fun a b => a.2 ≤ b.2
 top : ∀ x, L[i]? = some x → ∀ p ∈ L, p.2 ≤ x.2 + 1
 cl : ∀ (j : Nat) q, j < i → L[j]? = some q → ∀ y, Lds es own y q.1 → ∃ d, d ≤ q.2 + 1 ∧ (y, d) ∈ L
theorem pre_at {α : Type} {l m : List α} (h : l <+: m) {i : Nat} (hi : i < l.length) : m[i]? = l[i]? := by
 obtain ⟨t, rfl⟩ := h
 rw [List.getElem?_append_left hi]
theorem Bf.step {es : List Ed} {own : Int} {to : Sp} {i : Nat} {L : Fl} (h : Bf es own to i L) {x : Sp × Nat} (hx : L[i]? = some x) : Bf es own to (i + 1) (stepF es own L x) := by
 have hi : i < L.length := (List.getElem?_eq_some_iff.1 hx).1
 have hm := List.mem_of_getElem? hx
 obtain ⟨hL, hz⟩ := Lv.fold (d := x.2) (l := behR es own x.1) ⟨h.srt, h.top x hx⟩
 have hp := fold_pre x.2 (behR es own x.1) L
 have hx' : ((behR es own x.1).foldl (putF x.2) L)[i]? = some x := by rw [pre_at hp hi, hx]
 refine ⟨h.fi.fold x.2 (h.fi.dl x hm) fun z hz => beh_fr hz, hL.srt, fun x' h' p hpm => ?_, fun j q hj hq y hy => ?_⟩
 ·have h1 := hL.top p hpm
  obtain ⟨a1, a2⟩ := List.getElem?_eq_some_iff.1 hx'
  obtain ⟨b1, b2⟩ := List.getElem?_eq_some_iff.1 h'
  have := List.pairwise_iff_getElem.1 hL.srt i (i + 1) a1 b1 (by omega)
  unfold stepF at b1 b2
  rw [a2, b2] at this
  omega
 ·unfold stepF at hq
  by_cases hji : j = i
  ·subst hji
   rw [hx'] at hq
   obtain rfl := Option.some.inj hq
   exact hz y (mem_beh.2 hy)
  ·rw [pre_at hp (by omega)] at hq
   obtain ⟨d, h1, h2⟩ := h.cl j q (by omega) hq y hy
   exact ⟨d, h1, hp.subset h2⟩
theorem Bf.go {es : List Ed} {own : Int} {to : Sp} : ∀ {n i : Nat} {L : Fl}, Bf es own to i L → 2 * es.length + 2 ≤ n + i → ∃ i', (farGo es own n i L).length ≤ i' ∧ Bf es own to i' (farGo es own n i L)
 | 0, i, L, h, hn => ⟨i, by have := h.fi.len; show L.length ≤ i; omega, h⟩
 | n + 1, i, L, h, hn => by
  unfold farGo
  split
  ·rename_i hx
   exact ⟨i, List.getElem?_eq_none_iff.1 hx, h⟩
  ·rename_i x hx
   exact (h.step hx).go (by omega)
theorem far_closed (es : List Ed) (own : Int) (to : Sp) {q : Sp × Nat} (hq : q ∈ farR es own to) {y : Sp} (hy : Lds es own y q.1) : ∃ d, d ≤ q.2 + 1 ∧ (y, d) ∈ farR es own to := by
 obtain ⟨i, h1, h⟩ := Bf.go (n := 2 * es.length + 2) (i := 0) (L := [(to, 0)]) (es := es) (own := own) ⟨FI.start es to, List.pairwise_singleton .., fun x hx p hp => by rw [List.mem_singleton.1 hp]; exact Nat.zero_le _, fun j q hj => by omega⟩ (by omega)
 obtain ⟨j, hj, rfl⟩ := List.getElem_of_mem hq
 exact h.cl j _ (Nat.lt_of_lt_of_le hj h1) (gEg hj) y hy
theorem far_le {es : List Ed} {own : Int} {n : Nat} {x to : Sp} (h : Wk es own n x to) : ∃ d, d ≤ n ∧ lookF (farR es own to) x = some d := by
 induction h with
 | nil x => exact ⟨0, lr _, far_zero ..⟩
 | @cons n x y z a _ ih =>
  obtain ⟨d, h1, h2⟩ := ih
  have hF := (far_FP es own z).nd
  obtain ⟨d', h3, h4⟩ := far_closed es own z ((look_some hF).1 h2) a
  exact ⟨d', by simp only at h3; omega, (look_some hF).2 h4⟩
theorem far_walk {es : List Ed} {own : Int} {to : Sp} : ∀ {d : Nat} {x : Sp}, lookF (farR es own to) x = some d → Wk es own d x to
 | 0, x, h => by rw [far_to h]; exact .nil _
 | d + 1, x, h => by
  obtain ⟨y, h1, h2⟩ := far_near es own to x d h
  exact .cons h1 (far_walk h2)
def sdR (es : List Ed) (own f : Int) : Option Nat := lookF (farR es own (f, true)) (f, false)
structure BestS (es : List Ed) (own : Int) (N : List Int) (b : List Int) : Prop where
 no : b = [] → ∀ f ∈ N, sdR es own f = none
 le : ∀ f ∈ N, ∀ n, sdR es own f = some n → b ≠ [] ∧ b.length ≤ n
 at_ : b ≠ [] → ∃ N1 f N2, N = N1 ++ f :: N2 ∧ sdR es own f = some b.length ∧ b = idsR es own f (farR es own (f, true)) b.length ∧ ∀ g ∈ N1, ∀ n, sdR es own g = some n → b.length < n
theorem BestS.snoc {es : List Ed} {own : Int} {N b : List Int} (h : BestS es own N b) (f : Int) : BestS es own (N ++ [f]) (shStep es own b f) := by
 unfold shStep
 cases hs : lookF (farR es own (f, true)) (f, false) with
 | none =>
  have hs' : sdR es own f = none := hs
  refine ⟨fun e g hg => ?_, fun g hg n hn => ?_, fun e => ?_⟩
  ·rcases List.mem_append.1 hg with hg | hg
   ·exact h.no e g hg
   ·rw [List.mem_singleton.1 hg]; exact hs'
  ·rcases List.mem_append.1 hg with hg | hg
   ·exact h.le g hg n hn
   ·rw [List.mem_singleton.1 hg, hs'] at hn; cases hn
  ·obtain ⟨N1, g, N2, h1, h2⟩ := h.at_ e
   exact ⟨N1, g, N2 ++ [f], by rw [h1]; simp, h2⟩
 | some n =>
  have hs' : sdR es own f = some n := hs
  have hn0 := far_pos hs
  have hl := idsR_len (es := es) (own := own) (first := f) (far := farR es own (f, true)) hn0
  simp only
  split
  ·rename_i hc
   have hne : idsR es own f (farR es own (f, true)) n ≠ [] := fun e => by rw [e] at hl; simp at hl; omega
   refine ⟨fun e => absurd e hne, fun g hg m hm => ⟨hne, ?_⟩, fun _ => ⟨N, f, [], rfl, by rw [hl]; exact hs', by rw [hl], fun g hg m hm => ?_⟩⟩
   ·rw [hl]
    rcases List.mem_append.1 hg with hg | hg
    ·obtain ⟨h1, h2⟩ := h.le g hg m hm
     rcases hc with hc | hc
     ·exact absurd hc h1
     ·omega
    ·rw [List.mem_singleton.1 hg, hs'] at hm
     obtain rfl := Option.some.inj hm
     exact lr _
   ·rw [hl]
    obtain ⟨h1, h2⟩ := h.le g hg m hm
    rcases hc with hc | hc
    ·exact absurd hc h1
    ·omega
  ·rename_i hc
   have hb : b ≠ [] := fun e => hc (.inl e)
   have hb2 : b.length ≤ n := Nat.not_lt.1 fun e => hc (.inr e)
   refine ⟨fun e => absurd e hb, fun g hg m hm => ⟨hb, ?_⟩, fun e => ?_⟩
   ·rcases List.mem_append.1 hg with hg | hg
    ·exact (h.le g hg m hm).2
    ·rw [List.mem_singleton.1 hg, hs'] at hm
     obtain rfl := Option.some.inj hm
     exact hb2
   ·obtain ⟨N1, g, N2, h1, h2⟩ := h.at_ e
    exact ⟨N1, g, N2 ++ [f], by rw [h1]; simp, h2⟩
theorem best_S (es : List Ed) (own : Int) (N : List Int) : BestS es own N (bestR es N own) := by
 refine snocInd (p := fun N => BestS es own N (bestR es N own)) ⟨fun _ f hf => (by cases hf), fun f hf => (by cases hf), fun h => absurd rfl h⟩ (fun l a ih => ?_) N
 have := ih.snoc a
 unfold bestR at this ⊢
 rw [List.foldl_append]
 exact this
theorem Wk.up {es : List Ed} {own : Int} {n : Nat} {x y : Sp} (h : Wk es own n x y) (hx : x.2 = true) : y.2 = true := by
 induction h with
 | nil x => exact hx
 | cons a _ ih =>
  obtain ⟨e, _, _, _, _, h5⟩ := a
  exact ih (by rw [h5, hx]; rfl)
theorem Wk.any {es : List Ed} {own : Int} {n : Nat} {x y : Sp} (h : Wk es own n x y) : ∀ a : Bool, ∃ c, Wk es own n (x.1, a) (y.1, c) := by
 induction h with
 | nil x => exact fun a => ⟨a, .nil _⟩
 | @cons n x y z a _ ih =>
  intro b
  obtain ⟨e, h1, h2, h3, h4, _⟩ := a
  obtain ⟨c, hc⟩ := ih (b || ownE own e)
  have hL : Lds es own (x.1, b) (y.1, b || ownE own e) := ⟨e, h1, h2, h3, h4, rfl⟩
  exact ⟨c, .cons hL hc⟩
theorem Wk.liftT {es : List Ed} {own : Int} {n : Nat} {x y : Sp} (h : Wk es own n x y) : Wk es own n (x.1, true) (y.1, true) := by
 obtain ⟨c, hc⟩ := h.any true
 have h2 : c = true := hc.up rfl
 rwa [h2] at hc
theorem Way.pos {es : List Ed} {own f : Int} {l : List Int} {x : Sp} (h : Way es own f l x) : 0 < l.length := by
 cases h <;> simp
theorem Way.wk {es : List Ed} {own f : Int} {l : List Int} {x : Sp} (h : Way es own f l x) : Wk es own (l.length - 1) (f, false) x := by
 induction h with
 | base => exact .nil _
 | step h hL ih =>
  have := h.pos
  have := ih.snoc hL
  rw [lap]
  simp only [lcs, List.length_nil]
  rwa [show ∀ n, 0 < n → n + (0 + 1) - 1 = n - 1 + 1 from fun n hn => by omega]
  omega
theorem Way.at_ {es : List Ed} {own f : Int} {l : List Int} {x : Sp} (h : Way es own f l x) : ∀ i (hi : i < l.length), ∃ y : Sp, y.1 = l[i] ∧ Wk es own i (f, false) y ∧ Wk es own (l.length - 1 - i) y x := by
 induction h with
 | base =>
  intro i hi
  obtain rfl : i = 0 := by simpa using hi
  exact ⟨_, rfl, .nil _, .nil _⟩
 | @step l x y h hL ih =>
  intro i hi
  have hp := h.pos
  have hlen : (l ++ [y.1]).length = l.length + 1 := by simp
  by_cases hil : i < l.length
  ·obtain ⟨z, h1, h2, h3⟩ := ih i hil
   refine ⟨z, by rw [List.getElem_append_left hil]; exact h1, h2, ?_⟩
   rw [hlen, show l.length + 1 - 1 - i = l.length - 1 - i + 1 by omega]
   exact h3.snoc hL
  ·obtain rfl : i = l.length := by omega
   refine ⟨y, by simp, ?_, ?_⟩
   ·have := h.wk.snoc hL
    rwa [show l.length - 1 + 1 = l.length by omega] at this
   ·rw [hlen, show l.length + 1 - 1 - l.length = 0 by omega]
    exact .nil _
theorem Way.two {es : List Ed} {own f : Int} {l : List Int} {x : Sp} (h : Way es own f l x) : ∀ i j (hi : i < j) (hj : j < l.length), ∃ y z : Sp, y.1 = l[i] ∧ z.1 = l[j] ∧ Wk es own i (f, false) y ∧ Wk es own (j - i) y z ∧ Wk es own (l.length - 1 - j) z x := by
 induction h with
 | base => intro i j hi hj; simp at hj; omega
 | @step l x y h hL ih =>
  intro i j hi hj
  have hp := h.pos
  have hlen : (l ++ [y.1]).length = l.length + 1 := by simp
  by_cases hjl : j < l.length
  ·obtain ⟨u, v, h1, h2, h3, h4, h5⟩ := ih i j hi hjl
   refine ⟨u, v, by rw [List.getElem_append_left (by omega)]; exact h1, by rw [List.getElem_append_left hjl]; exact h2, h3, h4, ?_⟩
   rw [hlen, show l.length + 1 - 1 - j = l.length - 1 - j + 1 by omega]
   exact h5.snoc hL
  ·obtain rfl : j = l.length := by omega
   obtain ⟨u, h1, h2, h3⟩ := h.at_ i hi
   refine ⟨u, y, by rw [List.getElem_append_left hi]; exact h1, by simp, h2, ?_, ?_⟩
   ·have := h3.snoc hL
    rwa [show l.length - 1 - i + 1 = l.length - i by omega] at this
   ·rw [hlen, show l.length + 1 - 1 - l.length = 0 by omega]
    exact .nil _
theorem closed_node {es : List Ed} {own : Int} {N : List Int} (he : ∀ e ∈ es, e.fr ∈ N ∧ e.to ∈ N) {m : Nat} {v : Int} (h : Wk es own m (v, false) (v, true)) : v ∈ N := by
 cases h with
 | cons a _ =>
  obtain ⟨e, h1, _, h3, _⟩ := a
  have := (he e h1).1
  rw [h3] at this
  exact this
structure Sho (es : List Ed) (own : Int) (b : List Int) : Prop where
 two : 2 ≤ b.length
 nd : ∀ i j (hi : i < j) (hj : j < b.length), b[i] ≠ b[j]
 fst : ∀ i (hi : i < b.length), b.getD 0 0 ≤ b[i]
 ed : ∀ i (hi : i < b.length), ∃ e ∈ es, e.kd ≤ own ∧ e.fr = b[i] ∧ some e.to = b[(i + 1) % b.length]?
 late : lateR es own b ≠ none
theorem best_sho {es : List Ed} {own : Int} {N : List Int} (hN : N.Pairwise fun a b => a < b) (he : ∀ e ∈ es, e.fr ∈ N ∧ e.to ∈ N) (hto : ∀ e ∈ es, 0 ≤ e.to ∧ e.to < 65536) (hlp : ∀ e ∈ es, e.fr ≠ e.to) (hb : bestR es N own ≠ []) : Sho es own (bestR es N own) := by
 have hS := best_S es own N
 generalize bestR es N own = b at hb hS
 obtain ⟨N1, f, N2, h1, h2, h3, h4⟩ := hS.at_ hb
 have h0 : 0 < b.length := List.length_pos_iff.2 hb
 obtain ⟨x, hw, hl⟩ := ids_way hto h2 h0
 rw [← h3] at hw
 have hmin : ∀ v m, Wk es own m (v, false) (v, true) → b.length ≤ m := fun v m h => by
  obtain ⟨d, d1, d2⟩ := far_le h
  have := (hS.le v (closed_node he h) d d2).2
  omega
 have hhd : b[0]? = some f := by rw [← List.head?_eq_getElem?]; exact hw.i.hd
 have h2b : 2 ≤ b.length := by
  rcases Nat.lt_or_ge b.length 2 with h | h
  ·exfalso
   have h5 : b.length = 1 := by omega
   have := far_walk (show lookF (farR es own (f, true)) (f, false) = some b.length from h2)
   rw [h5] at this
   cases this with
   | cons a t =>
    cases t
    obtain ⟨e, e1, _, e3, e4, _⟩ := a
    exact hlp e e1 (e3.trans e4.symm)
  ·exact h
 refine ⟨h2b, fun i j hi hj heq => ?_, fun i hi => ?_, fun i hi => ?_, way_late hw hl⟩
 ·obtain ⟨y, z, a1, a2, a3, a4, a5⟩ := hw.two i j hi hj
  have hyz : y.1 = z.1 := by rw [a1, a2, heq]
  obtain ⟨v, a⟩ := y
  obtain ⟨v', c⟩ := z
  simp only at hyz
  subst hyz
  by_cases hac : a = c
  ·subst hac
   have := (a3.app a5).snoc hl
   have := hmin f _ this
   omega
  ·cases a with
   | true => exact hac (a4.up rfl).symm
   | false =>
    cases c with
    | false => exact hac rfl
    | true =>
     have := hmin v _ a4
     omega
 ·obtain ⟨y, a1, a2, a3⟩ := hw.at_ i hi
  have a3 := a3.snoc hl
  obtain ⟨v, a⟩ := y
  simp only at a1
  have hcl : Wk es own b.length (v, false) (v, true) := by
   have hlen : b.length - 1 - i + 1 + i = b.length := by omega
   rw [← hlen]
   cases a with
   | false => exact a3.app a2.liftT
   | true =>
    obtain ⟨c, hc⟩ := a3.any false
    cases c with
    | false => exact hc.app a2
    | true => exact hc.app a2.liftT
  obtain ⟨d, d1, d2⟩ := far_le hcl
  have hvN : v ∈ N1 ++ f :: N2 := h1 ▸ closed_node he hcl
  have hg0 : b.getD 0 0 = f := by rw [List.getD_eq_getElem?_getD, hhd]; rfl
  rw [hg0, ← a1]
  rcases List.mem_append.1 hvN with hv | hv
  ·have := h4 v hv d d2
   omega
  ·rcases List.mem_cons.1 hv with rfl | hv
   ·exact Int.le_refl _
   ·rw [h1] at hN
    have := (List.pairwise_cons.1 (List.pairwise_append.1 hN).2.1).1 v hv
    omega
 ·by_cases hi1 : i + 1 < b.length
  ·obtain ⟨e, e1, e2, e3, e4⟩ := hw.i.ed i hi1
   exact ⟨e, e1, e2, e3, by rw [Nat.mod_eq_of_lt hi1, gEg hi1, e4]⟩
  ·obtain ⟨e, e1, e2, e3, e4, _⟩ := hl
   refine ⟨e, e1, e2, ?_, ?_⟩
   ·have := hw.i.la
    rw [List.getLast?_eq_getElem?, gEg (by omega)] at this
    rw [e3, ← Option.some.inj this]
    congr 1
    omega
   ·rw [show i + 1 = b.length by omega, Nat.mod_self, hhd, e4]
theorem kind_least {own to : Int} : ∀ {l : List Ed} {p : Int × Bool}, (l.foldl (kindE own to) p).1 = p.1 ∨ ∃ e ∈ l, e.to = to ∧ e.kd = (l.foldl (kindE own to) p).1
 | [], p => .inl rfl
 | e :: l, p => by
  rw [List.foldl_cons]
  rcases kind_least (l := l) (p := kindE own to p e) with h | ⟨x, h1, h2⟩
  ·rw [h]
   unfold kindE
   by_cases ht : e.to = to
   ·rw [if_pos ht]
    simp only
    by_cases hm : p.1 ≤ e.kd
    ·left; omega
    ·right; exact ⟨e, by simp, ht, by omega⟩
   ·rw [if_neg ht]; exact .inl rfl
  ·exact .inr ⟨x, by simp [h1], h2⟩
theorem kind_le {own to : Int} : ∀ {l : List Ed} {p : Int × Bool}, (l.foldl (kindE own to) p).1 ≤ p.1 ∧ ∀ e ∈ l, e.to = to → (l.foldl (kindE own to) p).1 ≤ e.kd
 | [], p => ⟨Int.le_refl _, by simp⟩
 | e :: l, p => by
  rw [List.foldl_cons]
  obtain ⟨h1, h2⟩ := kind_le (own := own) (to := to) (l := l) (p := kindE own to p e)
  have h3 : (kindE own to p e).1 ≤ p.1 ∧ (e.to = to → (kindE own to p e).1 ≤ e.kd) := by
   unfold kindE
   by_cases ht : e.to = to
   ·rw [if_pos ht]; simp only; omega
   ·rw [if_neg ht]; exact ⟨Int.le_refl _, fun h => absurd h ht⟩
  refine ⟨by omega, fun x hx ht => ?_⟩
  rcases List.mem_cons.1 hx with rfl | hx
  ·have := h3.2 ht; omega
  ·exact h2 x hx ht
theorem least_ed {es : List Ed} {own : Int} {b : List Int} (h : Sho es own b) {i : Nat} (hi : i < b.length) : ⟨b.getD i 0, b.getD ((i + 1) % b.length) 0, (kindAt es own b i).1⟩ ∈ es ∧ (kindAt es own b i).1 ≤ own := by
 obtain ⟨e, e1, e2, e3, e4⟩ := h.ed i hi
 have hg : b.getD i 0 = b[i] := by rw [List.getD_eq_getElem?_getD, gEg hi]; rfl
 have hg2 : b.getD ((i + 1) % b.length) 0 = e.to := by rw [List.getD_eq_getElem?_getD, ← e4]; rfl
 have hmem : e ∈ outL es own (b.getD i 0) := mem_out.2 ⟨e1, e2, by rw [hg, e3]⟩
 have hle := kind_le (own := own) (to := b.getD ((i + 1) % b.length) 0) (l := outL es own (b.getD i 0)) (p := (own, false))
 refine ⟨?_, hle.1⟩
 unfold kindAt
 rcases kind_least (own := own) (to := b.getD ((i + 1) % b.length) 0) (l := outL es own (b.getD i 0)) (p := (own, false)) with hk | ⟨x, x1, x2, x3⟩
 ·have h1 := hle.2 e hmem hg2.symm
  rw [hk] at h1 ⊢
  simp only at h1 ⊢
  have : e = ⟨b.getD i 0, b.getD ((i + 1) % b.length) 0, own⟩ := by
   rw [hg, hg2, ← e3, show own = e.kd by omega]
  rw [← this]; exact e1
 ·obtain ⟨y1, _, y3⟩ := mem_out.1 x1
  have : x = ⟨b.getD i 0, b.getD ((i + 1) % b.length) 0, ((outL es own (b.getD i 0)).foldl (kindE own (b.getD ((i + 1) % b.length) 0)) (own, false)).1⟩ := by
   rw [← x3, ← x2, ← y3]
  rw [← this]; exact y1
theorem late_at {es : List Ed} {own : Int} {l : List Int} : ∀ {k i : Nat}, ((List.range k).foldl (fun (o : Option Nat) i => if (kindAt es own l i).2 = true then some i else o) none) = some i → (kindAt es own l i).2 = true
 | 0, i, h => by cases h
 | k + 1, i, h => by
  rw [late_take] at h
  split at h
  ·rename_i hk
   cases h; exact hk
  ·exact late_at h
theorem late_ed {es : List Ed} {own : Int} {b : List Int} {i : Nat} (h : (kindAt es own b i).2 = true) : (⟨b.getD i 0, b.getD ((i + 1) % b.length) 0, own⟩ : Ed) ∈ es := by
 unfold kindAt at h
 rw [kind_fold, Bool.false_or, aet] at h
 obtain ⟨e, h1, h2⟩ := h
 rw [Bool.and_eq_true, decide_eq_true_eq] at h2
 obtain ⟨y1, _, y3⟩ := mem_out.1 h1
 have : e = ⟨b.getD i 0, b.getD ((i + 1) % b.length) 0, own⟩ := by
  have hk : e.kd = own := by simpa [ownE] using h2.2
  rw [← y3, ← h2.1, ← hk]
 rw [← this]; exact y1
theorem least_len (es : List Ed) (own : Int) (b : List Int) : (leastR es own b).length = b.length := by simp [leastR]
theorem least_at {es : List Ed} {own : Int} {b : List Int} {i : Nat} (hi : i < b.length) : (leastR es own b)[i]? = some (kindAt es own b i).1 := by
 simp [leastR, hi]
theorem kinds_len (es : List Ed) (own : Int) (b : List Int) : (kindsR es own b).length = b.length := by
 unfold kindsR
 split
 ·exact least_len ..
 ·split
  ·exact least_len ..
  ·rw [List.length_set]; exact least_len ..
theorem kinds_ed {es : List Ed} {own : Int} {b : List Int} (h : Sho es own b) {i : Nat} (hi : i < b.length) : ∃ k, (kindsR es own b)[i]? = some k ∧ k ≤ own ∧ ⟨b.getD i 0, b.getD ((i + 1) % b.length) 0, k⟩ ∈ es := by
 obtain ⟨h1, h2⟩ := least_ed h hi
 have h3 := least_at (es := es) (own := own) hi
 unfold kindsR
 split
 ·exact ⟨_, h3, h2, h1⟩
 ·split
  ·exact ⟨_, h3, h2, h1⟩
  ·rename_i j hj
   by_cases hji : j = i
   ·subst hji
    refine ⟨own, ?_, Int.le_refl _, late_ed (late_at hj)⟩
    rw [List.getElem?_set_self (by rw [least_len]; exact hi)]
   ·rw [List.getElem?_set_ne hji]
    exact ⟨_, h3, h2, h1⟩
theorem kinds_own {es : List Ed} {own : Int} {b : List Int} (h : Sho es own b) : own ∈ kindsR es own b := by
 unfold kindsR
 split
 ·assumption
 ·split
  ·rename_i hn
   exact absurd hn h.late
  ·rename_i j hj
   have : j < b.length := late_lt hj
   exact List.mem_of_getElem? (i := j) (by rw [List.getElem?_set_self (by rw [least_len]; exact this)])
theorem fmax_le {m : Int} : ∀ {l : List Int} {x : Int}, x ≤ m → (∀ y ∈ l, y ≤ m) → l.foldl max x ≤ m
 | [], _, h, _ => h
 | y :: l, x, h, hl => by
  rw [List.foldl_cons]
  have := hl y (by simp)
  exact fmax_le (by omega) fun z hz => hl z (by simp [hz])
theorem fmin_eq {m : Int} : ∀ {l : List Int} {x : Int}, x = m → (∀ y ∈ l, m ≤ y) → l.foldl min x = m
 | [], _, h, _ => h
 | y :: l, x, h, hl => by
  rw [List.foldl_cons]
  have := hl y (by simp)
  exact fmin_eq (by omega) fun z hz => hl z (by simp [hz])
theorem isR_sho {es : List Ed} {own k : Int} {b : List Int} (h : Sho es own b) (ho : ownR k = some own) {f : Ed → Bool} (hf : ∀ e, f e = decide (e ∈ es)) : isR f k b (kindsR es own b) = true := by
 have hl := kinds_len es own b
 have h2b := h.two
 have hx : ∀ x ∈ kindsR es own b, x ≤ own := fun x hx => by
  obtain ⟨i, hi, rfl⟩ := List.getElem_of_mem hx
  obtain ⟨k, k1, k2, _⟩ := kinds_ed h (i := i) (by omega)
  rw [gEg hi] at k1
  rw [Option.some.inj k1]; exact k2
 have h1 : (kindsR es own b).any (fun x => decide (own = x)) = true := by rw [any_mem]; exact decide_eq_true (kinds_own h)
 have h2 : maxR (kindsR es own b) ≤ own := by
  cases hk : kindsR es own b with
  | nil => rw [hk] at hl; simp at hl; omega
  | cons x l =>
   rw [hk] at hx
   exact fmax_le (hx x (by simp)) fun y hy => hx y (by simp [hy])
 have h3 : minR b = b.getD 0 0 := by
  have hfst : ∀ x ∈ b, b.getD 0 0 ≤ x := fun x hx => by
   obtain ⟨i, hi, rfl⟩ := List.getElem_of_mem hx
   exact h.fst i hi
  cases hb : b with
  | nil => rfl
  | cons x l =>
   rw [hb] at hfst
   exact fmin_eq rfl fun y hy => hfst y (by simp [hy])
 have h4 : isGo f b (kindsR es own b) b.length = true := by
  unfold isGo
  rw [List.all_eq_true]
  intro i hi
  have hi := List.mem_range.1 hi
  have hg : b.getD i 0 = b[i] := by rw [List.getD_eq_getElem?_getD, gEg hi]; rfl
  unfold isAt
  rw [Bool.and_eq_true, any_mem, Bool.not_eq_true', decide_eq_false_iff_not, hf, decide_eq_true_eq]
  refine ⟨fun hm => ?_, ?_⟩
  ·obtain ⟨j, hj, e⟩ := List.getElem_of_mem hm
   rw [ltk] at hj
   rw [List.getElem_take, hg] at e
   exact h.nd j i (by omega) hi e
  ·obtain ⟨k, k1, _, k3⟩ := kinds_ed h hi
   rw [List.getD_eq_getElem?_getD (l := kindsR es own b), k1]
   exact k3
 unfold isR
 rw [ho]
 simp only [h1, h4, Bool.and_true, Bool.and_eq_true, decide_eq_true_eq]
 exact ⟨⟨⟨by omega, hl⟩, h2⟩, h3⟩
def lexLt : List Int → List Int → Bool
 | [], [] => false
 | [], _ :: _ => true
 | _ :: _, [] => false
 | x :: l, y :: m => if x = y then lexLt l m else decide (x < y)
def lessR (a b : List Int × List Int) : Bool := if a.1.length ≠ b.1.length then decide (a.1.length < b.1.length) else if a.1 = b.1 then lexLt a.2 b.2 else lexLt a.1 b.1
theorem lex_eq : ∀ {a b : List Int}, lexLt a b = false → lexLt b a = false → a = b
 | [], [], _, _ => rfl
 | [], _ :: _, h, _ => by cases h
 | _ :: _, [], _, h => by cases h
 | x :: l, y :: m, h1, h2 => by
  unfold lexLt at h1 h2
  by_cases e : x = y
  ·subst e
   rw [if_pos rfl] at h1 h2
   rw [lex_eq h1 h2]
  ·rw [if_neg e, decide_eq_false_iff_not] at h1
   rw [if_neg (fun h => e h.symm), decide_eq_false_iff_not] at h2
   omega
theorem less_eq {a b : List Int × List Int} (h1 : lessR a b = false) (h2 : lessR b a = false) : a = b := by
 unfold lessR at h1 h2
 by_cases hl : a.1.length = b.1.length
 ·rw [if_neg (fun h => h hl)] at h1
  rw [if_neg (fun h => h hl.symm)] at h2
  by_cases e : a.1 = b.1
  ·rw [if_pos e] at h1
   rw [if_pos e.symm] at h2
   exact Prod.ext e (lex_eq h1 h2)
  ·rw [if_neg e] at h1
   rw [if_neg (fun h => e h.symm)] at h2
   exact absurd (lex_eq h1 h2) e
 ·rw [if_pos hl, decide_eq_false_iff_not] at h1
  rw [if_pos (fun h => hl h.symm), decide_eq_false_iff_not] at h2
  omega
theorem lex_refl : ∀ a : List Int, lexLt a a = false
 | [] => rfl
 | x :: l => by unfold lexLt; rw [if_pos rfl]; exact lex_refl l
theorem lex_pre (x y : Int) (a b : List Int) : ∀ l : List Int, x < y → lexLt (l ++ y :: a) (l ++ x :: b) = false
 | [], h => by
  show lexLt (y :: a) (x :: b) = false
  unfold lexLt
  rw [if_neg (by omega)]
  exact decide_eq_false (by omega)
 | z :: l, h => by
  show lexLt (z :: (l ++ y :: a)) (z :: (l ++ x :: b)) = false
  unfold lexLt
  rw [if_pos rfl]
  exact lex_pre x y a b l h
theorem lex_ge : ∀ {a b : List Int}, a.length = b.length → (∀ i (hi : i < a.length) (hj : i < b.length), (∀ j (h1 : j < a.length) (h2 : j < b.length), j < i → a[j] = b[j]) → b[i] ≤ a[i]) → lexLt a b = false
 | [], [], _, _ => rfl
 | [], _ :: _, h, _ => by simp at h
 | _ :: _, [], h, _ => by simp at h
 | x :: l, y :: m, hl, h => by
  unfold lexLt
  have h0 := h 0 (by simp) (by simp) (fun j _ _ hj => by omega)
  simp only [List.getElem_cons_zero] at h0
  by_cases e : x = y
  ·subst e
   rw [if_pos rfl]
   refine lex_ge (by simpa using hl) fun i hi hj hp => ?_
   have := h (i + 1) (by simpa using hi) (by simpa using hj) fun j h1 h2 hji => by
    cases j with
    | zero => rfl
    | succ j => simpa using hp j (by simpa using h1) (by simpa using h2) (by omega)
   simpa using this
  ·rw [if_neg e]
   exact decide_eq_false (by omega)
structure IsC (es : List Ed) (own : Int) (ids ks : List Int) : Prop where
 two : 2 ≤ ids.length
 len : ks.length = ids.length
 ow : own ∈ ks
 le : ∀ k ∈ ks, k ≤ own
 fst : ∀ x ∈ ids, ids.getD 0 0 ≤ x
 nd : ids.Nodup
 ed : ∀ i, i < ids.length → (⟨ids.getD i 0, ids.getD ((i + 1) % ids.length) 0, ks.getD i 0⟩ : Ed) ∈ es
theorem fold_max_ge : ∀ {l : List Int} {x : Int}, x ≤ l.foldl max x ∧ ∀ y ∈ l, y ≤ l.foldl max x
 | [], x => ⟨Int.le_refl _, by simp⟩
 | y :: l, x => by
  rw [List.foldl_cons]
  obtain ⟨h1, h2⟩ := fold_max_ge (l := l) (x := max x y)
  refine ⟨by omega, fun z hz => ?_⟩
  rcases List.mem_cons.1 hz with rfl | hz
  ·omega
  ·exact h2 z hz
theorem fold_min_le : ∀ {l : List Int} {x : Int}, l.foldl min x ≤ x ∧ ∀ y ∈ l, l.foldl min x ≤ y
 | [], x => ⟨Int.le_refl _, by simp⟩
 | y :: l, x => by
  rw [List.foldl_cons]
  obtain ⟨h1, h2⟩ := fold_min_le (l := l) (x := min x y)
  refine ⟨by omega, fun z hz => ?_⟩
  rcases List.mem_cons.1 hz with rfl | hz
  ·omega
  ·exact h2 z hz
theorem nodup_take {l : List Int} (h : ∀ i, i < l.length → l.getD i 0 ∉ l.take i) : l.Nodup := by
 rw [List.nodup_iff_pairwise_ne, List.pairwise_iff_getElem]
 intro i j hi hj hij e
 refine h j hj ?_
 rw [List.getD_eq_getElem?_getD, gEg hj, Option.getD_some, ← e]
 exact List.mem_take_iff_getElem.2 ⟨i, by omega, rfl⟩
theorem isR_iff {es : List Ed} {own k : Int} {ids ks : List Int} (ho : ownR k = some own) {f : Ed → Bool} (hf : ∀ e, f e = decide (e ∈ es)) : isR f k ids ks = true ↔ IsC es own ids ks := by
 unfold isR
 rw [ho]
 simp only [Bool.and_eq_true, decide_eq_true_eq, any_mem]
 constructor
 ·rintro ⟨⟨⟨⟨⟨h1, h2⟩, h3⟩, h4⟩, h5⟩, h6⟩
  unfold isGo at h6
  rw [List.all_eq_true] at h6
  have h7 : ∀ i, i < ids.length → ids.getD i 0 ∉ ids.take i ∧ (⟨ids.getD i 0, ids.getD ((i + 1) % ids.length) 0, ks.getD i 0⟩ : Ed) ∈ es := fun i hi => by
   have := h6 i (List.mem_range.2 hi)
   unfold isAt at this
   rw [Bool.and_eq_true, any_mem, Bool.not_eq_true', decide_eq_false_iff_not, hf, decide_eq_true_eq] at this
   exact this
  refine ⟨h1, h2, h3, fun k hk => ?_, fun x hx => ?_, nodup_take fun i hi => (h7 i hi).1, fun i hi => (h7 i hi).2⟩
  ·cases ks with
   | nil => cases hk
   | cons y l =>
    have := fold_max_ge (l := l) (x := y)
    have h4 : l.foldl max y ≤ own := h4
    rcases List.mem_cons.1 hk with rfl | hk
    ·omega
    ·have := this.2 k hk; omega
  ·cases ids with
   | nil => cases hx
   | cons y l =>
    have := fold_min_le (l := l) (x := y)
    have h5 : l.foldl min y = y := h5
    show y ≤ x
    rcases List.mem_cons.1 hx with rfl | hx
    ·exact Int.le_refl _
    ·have := this.2 x hx; omega
 ·rintro ⟨h1, h2, h3, h4, h5, h6, h7⟩
  refine ⟨⟨⟨⟨⟨h1, h2⟩, h3⟩, ?_⟩, ?_⟩, ?_⟩
  ·cases ks with
   | nil => cases h3
   | cons y l => exact fmax_le (h4 y (by simp)) fun z hz => h4 z (by simp [hz])
  ·cases ids with
   | nil => rfl
   | cons y l => exact fmin_eq rfl fun z hz => h5 z (by simp [hz])
  ·unfold isGo
   rw [List.all_eq_true]
   intro i hi
   have hi := List.mem_range.1 hi
   unfold isAt
   rw [Bool.and_eq_true, any_mem, Bool.not_eq_true', decide_eq_false_iff_not, hf, decide_eq_true_eq]
   refine ⟨fun hm => ?_, h7 i hi⟩
   obtain ⟨j, hj, e⟩ := List.mem_take_iff_getElem.1 hm
   rw [List.getD_eq_getElem?_getD, gEg hi, Option.getD_some] at e
   have := List.pairwise_iff_getElem.1 (List.nodup_iff_pairwise_ne.1 h6) j i (by omega) hi (by omega)
   exact this e
theorem sho_isC {es : List Ed} {own : Int} {b : List Int} (h : Sho es own b) (ho : ∃ k, ownR k = some own) : IsC es own b (kindsR es own b) := by
 obtain ⟨k, hk⟩ := ho
 exact (isR_iff (f := fun e => decide (e ∈ es)) hk fun _ => rfl).1 (isR_sho h hk fun _ => rfl)
def spR (own : Int) (ids ks : List Int) (j : Nat) : Sp := (ids.getD (j % ids.length) 0, (ks.take j).any fun k => k == own)
theorem IsC.step {es : List Ed} {own : Int} {ids ks : List Int} (h : IsC es own ids ks) {j : Nat} (hj : j < ids.length) : Lds es own (spR own ids ks j) (spR own ids ks (j + 1)) := by
 have hk : ks.getD j 0 = ks[j]'(by rw [h.len]; exact hj) := by rw [List.getD_eq_getElem?_getD, gEg (by rw [h.len]; exact hj)]; rfl
 refine ⟨_, h.ed j hj, ?_, ?_, rfl, ?_⟩
 ·show ks.getD j 0 ≤ own
  rw [hk]; exact h.le _ (gmm _)
 ·show ids.getD j 0 = ids.getD (j % ids.length) 0
  rw [Nat.mod_eq_of_lt hj]
 ·show ((ks.take (j + 1)).any fun k => k == own) = (((ks.take j).any fun k => k == own) || (ks.getD j 0 == own))
  rw [tao, gEg (by rw [h.len]; exact hj), List.any_append, hk]
  simp
theorem IsC.wk {es : List Ed} {own : Int} {ids ks : List Int} (h : IsC es own ids ks) {j : Nat} : ∀ n, j + n ≤ ids.length → Wk es own n (spR own ids ks j) (spR own ids ks (j + n))
 | 0, _ => .nil _
 | n + 1, hn => (h.wk n (by omega)).snoc (h.step (by omega))
theorem IsC.s0 {es : List Ed} {own : Int} {ids ks : List Int} (_h : IsC es own ids ks) : spR own ids ks 0 = (ids.getD 0 0, false) := by simp [spR]
theorem IsC.sn {es : List Ed} {own : Int} {ids ks : List Int} (h : IsC es own ids ks) : spR own ids ks ids.length = (ids.getD 0 0, true) := by
 unfold spR
 rw [Nat.mod_self, ← h.len, tkl]
 congr 1
 exact List.any_eq_true.2 ⟨own, h.ow, by simp⟩
theorem IsC.closed {es : List Ed} {own : Int} {ids ks : List Int} (h : IsC es own ids ks) : Wk es own ids.length (ids.getD 0 0, false) (ids.getD 0 0, true) := by
 have := h.wk (j := 0) ids.length (by omega)
 rwa [Nat.zero_add, h.s0, h.sn] at this
def Cov (best : List Sp) (y : Sp) : Prop := ∃ h t, best = h :: t ∧ h.1 ≤ y.1 ∧ (h.1 = y.1 → y ∈ best)
theorem Cov.step {own : Int} {far : Fl} {left : Nat} {b : Bool} {best : List Sp} {e : Ed} {y : Sp} (h : Cov best y) : Cov (ahStep own far left b best e) y := by
 obtain ⟨x, t, rfl, h1, h2⟩ := h
 unfold ahStep
 split
 ·exact ⟨x, t, rfl, h1, h2⟩
 ·split
  ·exact ⟨x, t, rfl, h1, h2⟩
  ·simp only
   split
   ·exact ⟨x, t, rfl, h1, h2⟩
   ·split
    ·exact ⟨x, t, rfl, h1, h2⟩
    ·split
     ·exact ⟨x, t ++ [(e.to, b || ownE own e)], rfl, h1, fun h => List.mem_append_left _ (h2 h)⟩
     ·exact ⟨_, [], rfl, by simp only; omega, fun h => by simp only at h; omega⟩
theorem Cov.mk' {own : Int} {far : Fl} {left : Nat} {b : Bool} {best : List Sp} {e : Ed} (hB : BI best) (h : lookF far (e.to, b || ownE own e) = some left) : Cov (ahStep own far left b best e) (e.to, b || ownE own e) := by
 unfold ahStep
 rw [h]
 simp only [ne_eq, not_true_eq_false, if_false]
 split
 ·exact ⟨_, [], rfl, Int.le_refl _, fun _ => by simp⟩
 ·rename_i x t
  split
  ·exact ⟨x, t, rfl, by simp only; omega, fun h => by simp only at h; omega⟩
  ·split
   ·rename_i hm
    have := hB.eq x (by simp) _ hm
    exact ⟨x, t, rfl, by rw [this]; exact Int.le_refl _, fun _ => hm⟩
   ·split
    ·exact ⟨x, t ++ [(e.to, b || ownE own e)], rfl, by simp only; omega, fun _ => by simp⟩
    ·exact ⟨_, [], rfl, Int.le_refl _, fun _ => by simp⟩
theorem Cov.foldE {own : Int} {far : Fl} {left : Nat} {b : Bool} {y : Sp} : ∀ {l : List Ed} {best : List Sp}, BI best → (∀ e ∈ l, 0 ≤ e.to ∧ e.to < 65536) → (Cov best y ∨ ∃ e ∈ l, y = (e.to, b || ownE own e) ∧ lookF far y = some left) → Cov (l.foldl (ahStep own far left b) best) y
 | [], best, _, _, h => by
  rcases h with h | ⟨e, he, _⟩
  ·exact h
  ·cases he
 | e :: l, best, hB, hes, h => by
  rw [List.foldl_cons]
  refine Cov.foldE (hB.step (hes e (by simp))) (fun x hx => hes x (by simp [hx])) ?_
  rcases h with h | ⟨e', he, h1, h2⟩
  ·exact .inl h.step
  ·rcases List.mem_cons.1 he with rfl | he
   ·left; subst h1; exact Cov.mk' hB h2
   ·exact .inr ⟨e', he, h1, h2⟩
theorem Cov.foldS {es : List Ed} {own : Int} {far : Fl} {left : Nat} {y : Sp} (hes : ∀ e ∈ es, 0 ≤ e.to ∧ e.to < 65536) : ∀ {l best : List Sp}, BI best → (Cov best y ∨ ∃ x ∈ l, Lds es own x y ∧ lookF far y = some left) → Cov (l.foldl (ahSpot es own far left) best) y
 | [], best, _, h => by
  rcases h with h | ⟨e, he, _⟩
  ·exact h
  ·cases he
 | x :: l, best, hB, h => by
  have ho : ∀ e ∈ outL es own x.1, 0 ≤ e.to ∧ e.to < 65536 := fun e he => hes e (mem_out.1 he).1
  rw [List.foldl_cons]
  refine Cov.foldS hes (fold_BI hB ho) ?_
  rcases h with h | ⟨x', hx, h1, h2⟩
  ·exact .inl (Cov.foldE hB ho (.inl h))
  ·rcases List.mem_cons.1 hx with rfl | hx
   ·left
    obtain ⟨e, e1, e2, e3, e4, e5⟩ := h1
    refine Cov.foldE hB ho (.inr ⟨e, mem_out.2 ⟨e1, e2, e3⟩, ?_, h2⟩)
    rw [e4, ← e5]
   ·exact .inr ⟨x', hx, h1, h2⟩
theorem ids_pre {es : List Ed} {own : Int} {far : Fl} : ∀ (k : Nat) (at' : List Sp) (l : List Int), l <+: idsGo es own far k at' l
 | 0, _, _ => List.prefix_refl _
 | k + 1, at', l => by
  unfold idsGo
  exact (List.prefix_append _ _).trans (ids_pre k _ _)
theorem ids_least {es : List Ed} {own : Int} {far : Fl} (hes : ∀ e ∈ es, 0 ≤ e.to ∧ e.to < 65536) {ids : List Int} {s : Nat → Sp} (hs : ∀ j, j < ids.length → (s j).1 = ids.getD j 0) (hL : ∀ j, j + 1 < ids.length → Lds es own (s j) (s (j + 1))) (hd : ∀ j, j < ids.length → lookF far (s j) = some (ids.length - j)) : ∀ (k : Nat) (at' : List Sp) (l : List Int), l.length + k = ids.length → 0 < l.length → l = ids.take l.length → s (l.length - 1) ∈ at' → lexLt ids (idsGo es own far k at' l) = false
 | 0, at', l, hl, h0, hp, hm => by
  unfold idsGo
  rw [hp, show l.length = ids.length by omega, tkl]
  exact lex_refl _
 | k + 1, at', l, hl, h0, hp, hm => by
  have hc : Cov (aheadR es own at' far (k + 1)) (s l.length) := by
   refine Cov.foldS hes BI.nil (.inr ⟨_, hm, ?_, ?_⟩)
   ·have := hL (l.length - 1) (by omega)
    rwa [show l.length - 1 + 1 = l.length by omega] at this
   ·rw [hd _ (by omega), show ids.length - l.length = k + 1 by omega]
  unfold idsGo
  obtain ⟨x, t, e, h1, h2⟩ := hc
  rw [e] at h2 ⊢
  rw [List.headD_cons]
  have hsl := hs l.length (by omega)
  have hgd : ids[l.length]? = some (s l.length).1 := by
   rw [hsl, List.getD_eq_getElem?_getD, gEg (by omega)]; rfl
  have htk : ids.take (l.length + 1) = l ++ [(s l.length).1] := by
   rw [tao, hgd, ← hp]; rfl
  by_cases hx : x.1 = (s l.length).1
  ·have hlen : (l ++ [x.1]).length = l.length + 1 := by simp
   refine ids_least hes hs hL hd k _ _ (by rw [hlen]; omega) (by rw [hlen]; omega) ?_ ?_
   ·rw [hlen, htk, hx]
   ·rw [hlen, show l.length + 1 - 1 = l.length by omega]
    exact h2 hx
  ·obtain ⟨r, hr⟩ := ids_pre (es := es) (own := own) (far := far) k (x :: t) (l ++ [x.1])
   rw [← hr]
   have : ids = l ++ (s l.length).1 :: ids.drop (l.length + 1) := by
    conv => lhs; rw [← List.take_append_drop (l.length + 1) ids, htk]
    simp
   rw [this, List.append_assoc]
   exact lex_pre _ _ _ _ _ (by omega)
theorem late_last {es : List Ed} {own : Int} {l : List Int} : ∀ {k i j : Nat}, ((List.range k).foldl (fun (o : Option Nat) i => if (kindAt es own l i).2 = true then some i else o) none) = some i → j < k → (kindAt es own l j).2 = true → j ≤ i
 | 0, i, j, h, _, _ => by cases h
 | k + 1, i, j, h, hj, hk => by
  rw [late_take] at h
  split at h
  ·cases h; omega
  ·rename_i hn
   by_cases e : j = k
   ·subst e; exact absurd hk hn
   ·exact late_last h (by omega) hk
theorem kinds_least {es : List Ed} {own : Int} {b ks : List Int} (h : IsC es own b ks) : lexLt ks (kindsR es own b) = false := by
 have hat : ∀ i (hi : i < b.length), (kindAt es own b i).1 ≤ ks.getD i 0 ∧ (ks.getD i 0 = own → (kindAt es own b i).2 = true) := fun i hi => by
  have he := h.ed i hi
  have hki : ks.getD i 0 ∈ ks := by rw [List.getD_eq_getElem?_getD, gEg (by rw [h.len]; exact hi)]; exact gmm _
  have hmem := mem_out.2 ⟨he, h.le _ hki, rfl⟩
  refine ⟨(kind_le (own := own) (p := (own, false))).2 _ hmem rfl, fun ho => ?_⟩
  unfold kindAt
  rw [kind_fold, Bool.false_or, aet]
  exact ⟨_, hmem, by rw [Bool.and_eq_true, decide_eq_true_eq]; exact ⟨rfl, by show (ks.getD i 0 == own) = true; rw [ho]; simp⟩⟩
 have hg : ∀ i (hi : i < ks.length), ks.getD i 0 = ks[i] := fun i hi => by rw [List.getD_eq_getElem?_getD, gEg hi]; rfl
 have hll := least_len es own b
 have hln := h.len
 have hlg : ∀ i (hi : i < (leastR es own b).length), (leastR es own b)[i] = (kindAt es own b i).1 := fun i hi => by simp [leastR]
 have hkr : kindsR es own b = leastR es own b ∨ (own ∉ leastR es own b ∧ ∃ t, lateR es own b = some t ∧ kindsR es own b = (leastR es own b).set t own) := by
  unfold kindsR
  by_cases hno : own ∈ leastR es own b
  ·exact .inl (if_pos hno)
  ·rw [if_neg hno]
   cases ht : lateR es own b with
   | none => exact .inl rfl
   | some t => exact .inr ⟨hno, t, rfl, rfl⟩
 rcases hkr with hk | ⟨hno, t, ht, hk⟩
 ·rw [hk]
  refine lex_ge (by rw [hll, hln]) fun i hi hj hp => ?_
  have h1 := (hat i (by omega)).1
  rw [hg i hi] at h1
  rw [hlg]; exact h1
 ·rw [hk]
  refine lex_ge (by rw [List.length_set, hll, hln]) fun i hi hj hp => ?_
  have h1 := (hat i (by omega)).1
  rw [hg i hi] at h1
  by_cases e : t = i
  ·subst e
   rw [List.getElem_set_self]
   obtain ⟨j, hj', e⟩ := List.getElem_of_mem h.ow
   have hjt : j ≤ t := late_last ht (by omega) ((hat j (by omega)).2 (by rw [hg j hj', e]))
   by_cases hjt' : j = t
   ·subst hjt'; rw [e]; exact Int.le_refl _
   ·exfalso
    have := hp j hj' (by rw [List.length_set, hll]; omega) (by omega)
    rw [List.getElem_set_ne (by omega), e] at this
    have hm : (leastR es own b)[j]'(by rw [hll]; omega) ∈ leastR es own b := gmm _
    rw [← this] at hm
    exact hno hm
  ·rw [List.getElem_set_ne e, hlg]; exact h1
theorem short_first {es : List Ed} {own : Int} {N : List Int} (hN : N.Pairwise fun a b => a < b) (he : ∀ e ∈ es, e.fr ∈ N ∧ e.to ∈ N) (hto : ∀ e ∈ es, 0 ≤ e.to ∧ e.to < 65536) {ids ks : List Int} (h : IsC es own ids ks) : bestR es N own ≠ [] ∧ lessR (ids, ks) (bestR es N own, kindsR es own (bestR es N own)) = false := by
 have hS := best_S es own N
 have hcl := h.closed
 have hvN := closed_node he hcl
 obtain ⟨d, d1, d2⟩ := far_le hcl
 obtain ⟨hb, hbl⟩ := hS.le _ hvN d d2
 refine ⟨hb, ?_⟩
 generalize bestR es N own = b at hb hS hbl
 obtain ⟨N1, f, N2, h1, h2, h3, h4⟩ := hS.at_ hb
 unfold lessR
 by_cases hl : ids.length = b.length
 ·rw [if_neg (fun h => h hl)]
  by_cases e : ids = b
  ·subst e
   rw [if_pos rfl]
   exact kinds_least h
  ·rw [if_neg e]
   have h0 := h.two
   simp only
   -- the first node
   rcases List.mem_append.1 (h1 ▸ hvN) with hv | hv
   ·have := h4 _ hv d d2
    omega
   ·have hf : f ≤ ids.getD 0 0 := by
     rcases List.mem_cons.1 hv with hv | hv
     ·rw [hv]; exact Int.le_refl _
     ·rw [h1] at hN
      have := (List.pairwise_cons.1 (List.pairwise_append.1 hN).2.1).1 _ hv
      omega
    by_cases hff : f = ids.getD 0 0
    ·rw [h3]
     have hmod : ∀ j, j < ids.length → (spR own ids ks j).1 = ids.getD j 0 := fun j hj => by show ids.getD (j % ids.length) 0 = _; rw [Nat.mod_eq_of_lt hj]
     refine ids_least hto (s := spR own ids ks) hmod (fun j hj => h.step (by omega)) (fun j hj => ?_) (b.length - 1) [(f, false)] [f] ?_ (by simp) ?_ ?_
     ·have w1 := h.wk (j := j) (ids.length - j) (by omega)
      rw [show j + (ids.length - j) = ids.length by omega, h.sn, ← hff] at w1
      obtain ⟨m, m1, m2⟩ := far_le w1
      have w2 := h.wk (j := 0) j (by omega)
      rw [Nat.zero_add, h.s0, ← hff] at w2
      obtain ⟨q, q1, q2⟩ := far_le (w2.app (far_walk m2))
      have h2' : lookF (farR es own (f, true)) (f, false) = some b.length := h2
      rw [h2'] at q2
      have := Option.some.inj q2
      rw [m2]
      congr 1
      omega
     ·simp only [lcs, List.length_nil]; omega
     ·cases ids with
      | nil => simp at h0
      | cons x l => rw [hff]; rfl
     ·rw [hff]
      have := h.s0
      simp only [lcs, List.length_nil, this]
      simp
    ·obtain ⟨r, hr⟩ := ids_pre (es := es) (own := own) (far := farR es own (f, true)) (b.length - 1) [(f, false)] [f]
     have hbr : b = [f] ++ r := by rw [h3]; exact hr.symm
     rw [hbr]
     cases ids with
     | nil => simp at h0
     | cons x l => exact lex_pre f x l r [] (by have : (x :: l).getD 0 0 = x := rfl; omega)
 ·rw [if_pos hl]
  exact decide_eq_false (by simp only; omega)
def c_edges30 : AC := (.r [.v 2 (.nilsl),.v 3 (.bool false)] (.r [.m 7 0,.u 8 (.call 39) 7,.m 4 8] (.seq (.r [.m 9 4,.p 10 (.eqn false 3) [.t 9,.c (.nilfn)]] (.cond (.t 10) (.r [.v 2 (.nilsl),.v 3 (.bool false)] .ret) .skip)) (.r [.p 5 (.alloc [.nilsl]) []] (.seq (.r [.m 11 4] (.block 0 (.rangef (.t 11) [12] (.reg [.p 6 (.alloc [.int .u16 0,.int .u16 0,.int .u8 0]) [],⟨none,.store 3, [.t 6,.t 12], none⟩]) (.block 1 (.reg [.u 13 (.load false 1) 5,.u 14 (.load true 3) 6,.u 15 (.bslice 3 1 (.agg [.int .u16 0,.int .u16 0,.int .u8 0]) [0]) 14,.b 16 (.append 3 6) 13 15,⟨none,.store 1, [.t 5,.t 16], none⟩]))))) (.r [.u 17 (.load false 1) 5,.m 2 17,.v 3 (.bool true)] .ret))))))
theorem ok_edges30e : compF Tryz.prog Tryz.f11 ⟨false, false, []⟩ = some (c_edges30, [.tmp 2, .tmp 3], 18) := by kernel_rfl
def c_same30_0 : AC := (.seq (.r [.m 23 5,.u 24 (.fld 0) 2,.u 25 (.load false 1) 24,.u 26 (.len 1 0) 25,.b 27 (.bin .lss) 23 26] (.w 27 0)) (.seq (.block 1 (.seq (.par (.step 0 (.u 30 (.fld 0) 2) (.step 2 (.m 32 5) (.step 5 (.u 35 (.fld 0) 3) (.step 7 (.m 37 5) (.step 1 (.u 31 (.load false 1) 30) (.step 3 (.b 33 (.idxp 1) 31 32) (.step 4 (.u 34 (.load false 1) 33) (.step 6 (.u 36 (.load false 1) 35) (.step 8 (.b 38 (.idxp 1) 36 37) (.step 9 (.u 39 (.load false 1) 38) (.step 10 (.b 40 (.bin .neq) 34 39) .done)))))))))))) (.cond (.t 40) (.r [.v 4 (.bool false)] .ret) .skip))) (.reg [.m 28 5,.a 29 (.bin .add) 28 1,.m 5 29])))
def c_same30_1 : AC := (.seq (.r [.m 41 6,.u 42 (.fld 1) 2,.u 43 (.load false 1) 42,.u 44 (.len 1 0) 43,.b 45 (.bin .lss) 41 44] (.w 45 2)) (.seq (.block 3 (.seq (.par (.step 0 (.u 48 (.fld 1) 2) (.step 2 (.m 50 6) (.step 5 (.u 53 (.fld 1) 3) (.step 7 (.m 55 6) (.step 1 (.u 49 (.load false 1) 48) (.step 3 (.b 51 (.idxp 1) 49 50) (.step 4 (.u 52 (.load false 1) 51) (.step 6 (.u 54 (.load false 1) 53) (.step 8 (.b 56 (.idxp 1) 54 55) (.step 9 (.u 57 (.load false 1) 56) (.step 10 (.b 58 (.bin .neq) 52 57) .done)))))))))))) (.cond (.t 58) (.r [.v 4 (.bool false)] .ret) .skip))) (.reg [.m 46 6,.a 47 (.bin .add) 46 1,.m 6 47])))
def c_same30 : AC := (.r [.u 2 .box 0,.u 3 .box 1,.v 4 (.bool false)] (.seq (.r [.u 7 (.fld 0) 2,.u 8 (.load false 1) 7,.u 9 (.len 1 0) 8,.u 10 (.fld 0) 3,.u 11 (.load false 1) 10,.u 12 (.len 1 0) 11,.b 13 (.bin .neq) 9 12,.m 14 13,.U 15 (.fld 1) 2 14 false,.U 16 (.load false 1) 15 14 false,.U 17 (.len 1 0) 16 14 false,.U 18 (.fld 1) 3 14 false,.U 19 (.load false 1) 18 14 false,.U 20 (.len 1 0) 19 14 false,.B 21 (.bin .neq) 17 20 14 false,.p 22 .pick [.t 14,.T,.t 21]] (.cond (.t 22) (.r [.v 4 (.bool false)] .ret) .skip)) (.seq (.r [.v 5 (.int .i64 0)] (.block 0 (.loop c_same30_0))) (.seq (.r [.v 6 (.int .i64 0)] (.block 2 (.loop c_same30_1))) (.r [.v 4 (.bool true)] .ret)))))
theorem ok_same30e : compF Tryz.prog Tryz.f15 ⟨false, false, []⟩ = some (c_same30, [.tmp 4], 59) := by kernel_rfl
def c_rOwn : AC := (.r [.v 2 (.int .i64 0)] (.seq (.r [.m 3 0] (.block 0 (.r [.p 5 (.bin .eql) [.t 3,.c (.int .u8 1)],.m 4 5] (.cond (.t 4) (.r [.v 2 (.int .i64 0)] .ret) (.r [.p 7 (.bin .eql) [.t 3,.c (.int .u8 8)],.m 6 7] (.cond (.t 6) (.r [.v 2 (.int .i64 1)] .ret) (.r [.p 9 (.bin .eql) [.t 3,.c (.int .u8 16)],.m 8 9] (.cond (.t 8) (.r [.v 2 (.int .i64 2)] .ret) .skip)))))))) (.r [.v 2 (.int .i64 (-1))] .ret)))
theorem ok_rOwne : compF Tryz.prog Tryz.f45 ⟨false, false, []⟩ = some (c_rOwn, [.tmp 2], 10) := by kernel_rfl
def c_rHasE_0 : AC := (.seq (.r [.m 6 5,.m 7 0,.u 8 (.len 1 0) 7,.b 9 (.bin .lss) 6 8] (.w 9 0)) (.seq (.block 1 (.seq (.par (.step 0 (.m 12 0) (.step 1 (.m 13 5) (.step 2 (.b 14 (.idxp 3) 12 13) (.step 3 (.u 15 (.load true 3) 14) (.step 4 (.u 16 (.load true 3) 3) (.step 5 (.b 17 (.eqv false (true, [.i .u16,.i .u16,.i .u8])) 15 16) .done))))))) (.cond (.t 17) (.r [.v 4 (.bool true)] .ret) .skip))) (.reg [.m 10 5,.a 11 (.bin .add) 10 1,.m 5 11])))
def c_rHasE : AC := (.r [.u 3 .box 1,.v 4 (.bool false)] (.seq (.r [.v 5 (.int .i64 0)] (.block 0 (.loop c_rHasE_0))) (.r [.v 4 (.bool false)] .ret)))
theorem ok_rHasEe : compF Tryz.prog Tryz.f57 ⟨false, false, []⟩ = some (c_rHasE, [.tmp 4], 18) := by kernel_rfl
def c_rLess_0 : AC := (.seq (.r [.m 21 5,.u 22 (.fld 0) 2,.u 23 (.load false 1) 22,.u 24 (.len 1 0) 23,.b 25 (.bin .lss) 21 24] (.w 25 0)) (.seq (.block 1 (.seq (.par (.step 0 (.u 28 (.fld 0) 2) (.step 2 (.m 30 5) (.step 5 (.u 33 (.fld 0) 3) (.step 7 (.m 35 5) (.step 1 (.u 29 (.load false 1) 28) (.step 3 (.b 31 (.idxp 1) 29 30) (.step 4 (.u 32 (.load false 1) 31) (.step 6 (.u 34 (.load false 1) 33) (.step 8 (.b 36 (.idxp 1) 34 35) (.step 9 (.u 37 (.load false 1) 36) (.step 10 (.b 38 (.bin .neq) 32 37) .done)))))))))))) (.cond (.t 38) (.seq (.par (.step 0 (.u 39 (.fld 0) 2) (.step 2 (.m 41 5) (.step 5 (.u 44 (.fld 0) 3) (.step 7 (.m 46 5) (.step 1 (.u 40 (.load false 1) 39) (.step 3 (.b 42 (.idxp 1) 40 41) (.step 4 (.u 43 (.load false 1) 42) (.step 6 (.u 45 (.load false 1) 44) (.step 8 (.b 47 (.idxp 1) 45 46) (.step 9 (.u 48 (.load false 1) 47) (.step 10 (.b 49 (.bin .lss) 43 48) (.step 11 (.m 4 49) .done))))))))))))) .ret) .skip))) (.reg [.m 26 5,.a 27 (.bin .add) 26 1,.m 5 27])))
def c_rLess_1 : AC := (.seq (.r [.m 50 6,.u 51 (.fld 1) 2,.u 52 (.load false 1) 51,.u 53 (.len 1 0) 52,.b 54 (.bin .lss) 50 53,.m 55 54,.M 56 6 55 true,.U 57 (.fld 1) 3 55 true,.U 58 (.load false 1) 57 55 true,.U 59 (.len 1 0) 58 55 true,.B 60 (.bin .lss) 56 59 55 true,.p 61 .pick [.t 55,.t 60,.F]] (.w 61 2)) (.seq (.block 3 (.seq (.par (.step 0 (.u 64 (.fld 1) 2) (.step 2 (.m 66 6) (.step 5 (.u 69 (.fld 1) 3) (.step 7 (.m 71 6) (.step 1 (.u 65 (.load false 1) 64) (.step 3 (.b 67 (.idxp 1) 65 66) (.step 4 (.u 68 (.load false 1) 67) (.step 6 (.u 70 (.load false 1) 69) (.step 8 (.b 72 (.idxp 1) 70 71) (.step 9 (.u 73 (.load false 1) 72) (.step 10 (.b 74 (.bin .neq) 68 73) .done)))))))))))) (.cond (.t 74) (.seq (.par (.step 0 (.u 75 (.fld 1) 2) (.step 2 (.m 77 6) (.step 5 (.u 80 (.fld 1) 3) (.step 7 (.m 82 6) (.step 1 (.u 76 (.load false 1) 75) (.step 3 (.b 78 (.idxp 1) 76 77) (.step 4 (.u 79 (.load false 1) 78) (.step 6 (.u 81 (.load false 1) 80) (.step 8 (.b 83 (.idxp 1) 81 82) (.step 9 (.u 84 (.load false 1) 83) (.step 10 (.b 85 (.bin .lss) 79 84) (.step 11 (.m 4 85) .done))))))))))))) .ret) .skip))) (.reg [.m 62 6,.a 63 (.bin .add) 62 1,.m 6 63])))
def c_rLess : AC := (.r [.u 2 .box 0,.u 3 .box 1,.v 4 (.bool false)] (.seq (.r [.u 7 (.fld 0) 2,.u 8 (.load false 1) 7,.u 9 (.len 1 0) 8,.u 10 (.fld 0) 3,.u 11 (.load false 1) 10,.u 12 (.len 1 0) 11,.b 13 (.bin .neq) 9 12] (.cond (.t 13) (.r [.u 14 (.fld 0) 2,.u 15 (.load false 1) 14,.u 16 (.len 1 0) 15,.u 17 (.fld 0) 3,.u 18 (.load false 1) 17,.u 19 (.len 1 0) 18,.b 20 (.bin .lss) 16 19,.m 4 20] .ret) .skip)) (.seq (.r [.v 5 (.int .i64 0)] (.block 0 (.loop c_rLess_0))) (.seq (.r [.v 6 (.int .i64 0)] (.block 2 (.loop c_rLess_1))) (.r [.u 86 (.fld 1) 2,.u 87 (.load false 1) 86,.u 88 (.len 1 0) 87,.u 89 (.fld 1) 3,.u 90 (.load false 1) 89,.u 91 (.len 1 0) 90,.b 92 (.bin .lss) 88 91,.m 4 92] .ret)))))
theorem ok_rLesse : compF Tryz.prog Tryz.f27 ⟨false, false, []⟩ = some (c_rLess, [.tmp 4], 93) := by kernel_rfl
theorem bsE {W : AW} {K : V → AW → Prop} {a b c : Int} : sem E (.bslice 3 1 (.agg [.int .u16 0, .int .u16 0, .int .u8 0]) [0]) [.agg [.int .u16 a, .int .u16 b, .int .u8 c]] W K = K (.sl 3 true [(Ed.mk a b c).V]) W := by
 simp [sem, rsem, tsem, fillE, V.cells, Ed.V]
theorem bsE' {W : AW} {K : V → AW → Prop} {e : Ed} : sem E (.bslice 3 1 (.agg [.int .u16 0, .int .u16 0, .int .u8 0]) [0]) [.agg [.int .u16 e.fr, .int .u16 e.to, .int .u8 e.kd]] W K = K (.sl 3 true [e.V]) W := bsE
theorem eds_now (l : List Ed) : nowGS 3 (l.map Ed.V) = edsV l := by
 cases l <;> rfl
theorem edges30_c (hP : PE E) (W : AW) {g m lo : Nat} {h : V} {P : List Ek} {N : List Int} (hG : Gr W g m h P N lo) : ACalls E 11 [.ptr g 0] W fun Y W' => Y = .tuple [edsV (edL P), .bool true] ∧ W' = W := by
 refine ACalls.of hP Tryz.func11 ok_edges30e (by simp) fun _ hok => ?_
 have hlm := hG.lm
 have hlg := hG.lg
 simp (maxSteps:=9^9) (disch:=omega) only [c_edges30, BZ, ↓reduceIte, reduceCtorEq]
 refine (edges_c hP _ g).mono ?_
 rintro _ W1 ⟨q, rfl, hq, hqn, hE1⟩
 rw [hE1.cl.start]
 simp (maxSteps:=9^9) (disch:=omega) only [BX, ↓reduceIte, nE, BM, BD]
 obtain ⟨W0, hW0⟩ : ∃ W0, W0 = X W1 W1.nx [.row [.nilsl]] := ⟨_, rfl⟩
 rw [← hW0]
 have hE10 : Ex W1 W0 := by rw [hW0]; exact .x0
 have hn0 : W0.nx = W1.nx + 1 := by rw [hW0]; rfl
 have r0 : rf W1.nx 0 = W1.nx := rfl
 have hc5 : W0.get (rf W1.nx 0) = some (.row [.nilsl]) := by rw [hW0, X_get]; rfl
 clear hW0
 have hE0 := hE1.trans hE10
 have hn1 := hE1.nx
 have hG0 := hG.ex hE0
 have hl := edL_lt hG
 refine range_edges hP (q := q) (lo := lo) (P := P) (N := N) rfl ((hE10.get _ hqn).trans hq) (by omega) hE0.cl hG0 (fun i W2 => Cl W2 ∧ W0.nx < W2.nx ∧ (∀ x, x < W0.nx → x ≠ rf W1.nx 0 → W2.get x = W0.get x) ∧ ∃ h, W2.get (rf W1.nx 0) = some (.row [h]) ∧ nowG W2 h (((edL P).take i).map Ed.V) 3 W0.nx) ?_ ?_ ?_ ?_
 ·intro W2 hE hn
  exact ⟨hE.cl, hn, fun x hx _ => hE.get x hx, .nilsl, by rw [hE.get _ (by omega)]; exact hc5, .inl ⟨rfl, rfl⟩⟩
 ·exact fun i W2 h => ⟨h.1, h.2.1⟩
 ·rintro i hi W2 W2' ⟨j0, j1, j2, h5, j3, j4⟩ hE2 hlp
  have htk : ((edL P).take (i + 1)).map Ed.V = ((edL P).take i).map Ed.V ++ [((edL P)[i]).V] := by
   rw [tao, gEg hi, mpp]; rfl
  have hlk : (((edL P).take i).map Ed.V).length = i := by simp; omega
  generalize (edL P)[i] = e at htk
  have hn2 := hE2.nx
  have k5 := (hE2.get _ (show rf W1.nx 0 < W2.nx by omega)).trans j3
  have j4' := j4.to hE2.nx fun r _ hr _ => hE2.get r hr
  refine awp_startC hE2.cl ?_
  simp (maxSteps:=9^9) (disch:=omega) only [BS, BC, ↓reduceIte, nE, BM, BD, nA, nL, nT, Ed.V, hlp]
  refine ⟨tt, ?_⟩
  have k5' : (X (W2'.put W0.nx (.loop .busy none)) W2'.nx [.row [.int .u16 e.fr, .int .u16 e.to, .int .u8 e.kd]]).get (rf W1.nx 0) = some (.row [h5]) := by rw [X_old (by omega), put_ne (by omega)]; exact k5
  simp (maxSteps:=9^9) (disch:=omega) only [BS, BC, ↓reduceIte, nE, BM, put_ne, k5, bsE']
  refine app_now (lo := W0.nx) (j4'.to (by simp only [X_nx, rf]; omega) fun r h1 h2 ⟨ys, hy⟩ => by rw [X_old h2, put_ne (by rintro rfl; rw [hlp] at hy; cases hy)]) Cl.X (by simp only [X_nx, rf]; omega) (by decide) rfl (by rw [hlk]; omega) ?_
  intro h' W3 gN gC gn gg1 gg2
  simp only [X_nx, rf, lcs, List.length_nil] at gn
  have k3 : W3.get (rf W1.nx 0) = some (.row [h5]) := by rw [gg2 _ (by omega)]; exact k5'
  have kl : W3.get W0.nx = some (.loop .busy none) := by
   rw [gg1 W0.nx (by simp only [X_nx, rf]; omega) (fun ys => by rw [X_old (by omega), put_at]; simp), X_old (by omega), put_at]
  simp (maxSteps:=9^9) (disch:=omega) only [BS, ↓reduceIte, nE, BM, BD, nL, gN.cells1.1, gN.cells1.2, k3]
  refine ⟨tt, by rw [put_ne (by omega)]; exact kl, (gC.put (by omega)).put (by rw [put_nx]; omega), by simp only [put_nx]; omega, fun x hx hx5 => ?_, h', ?_, ?_⟩
  ·rw [put_ne (by omega), put_ne hx5, gg2 x hx, X_old (by omega), put_ne (by omega), hE2.get x (by omega)]
   exact j2 x hx hx5
  ·first | (rw [put_at]; done) | (rw [put_ne (by omega), put_at])
  ·rw [htk]
   refine gN.to (by simp only [put_nx]; exact lr _) fun r h1 h2 ⟨ys, hy⟩ => ?_
   rw [put_ne (by rintro rfl; rw [kl] at hy; cases hy), put_ne (by omega)]
 ·rintro W2 ⟨j0, j1, j2, h5, j3, j4⟩ hlp
  rw [tkl] at j4
  have k5 : (W2.put W0.nx (.loop .exhausted none)).get (rf W1.nx 0) = some (.row [h5]) := by rw [put_ne (by omega)]; exact j3
  have j5 := j4.to (W' := W2.put W0.nx (.loop .exhausted none)) (by rw [put_nx]; exact lr _) fun r h1 h2 ⟨ys, hy⟩ => put_ne (by rintro rfl; rw [hlp] at hy; cases hy)
  simp (maxSteps:=9^9) (disch:=omega) only [BZ, ↓reduceIte, nE, BM, k5, j5.frz, eds_now]
  refine ⟨_, rfl, _, W, .weak (weak_back hok (by simp only [V.bel, V.belL, bel_eds, Bool.and_true]) fun x hx => ?_), lr _, rfl, rfl⟩
  have hx' : x < W.nx := hx
  rw [put_ne (by omega), j2 x (by omega) (by omega)]
  exact hE0.get x hx'
theorem take_extD {l m : List Int} {k : Nat} (h : l.take k = m.take k) (hl : k < l.length) (hm : k < m.length) (e : l.getD k 0 = m.getD k 0) : l.take (k + 1) = m.take (k + 1) := by
 rw [List.getD_eq_getElem?_getD, List.getD_eq_getElem?_getD, gEg hl, gEg hm] at e
 exact take_ext h hl hm e
theorem ne_atD {l m : List Int} {k : Nat} (_ : k < l.length) (_ : k < m.length) (e : l.getD k 0 ≠ m.getD k 0) : l ≠ m := by
 intro h; rw [h] at e; exact e rfl
theorem lex_at : ∀ {k : Nat} {a b : List Int}, a.take k = b.take k → k < a.length → k < b.length → a.getD k 0 ≠ b.getD k 0 → lexLt a b = decide (a.getD k 0 < b.getD k 0)
 | 0, x :: l, y :: m, _, _, _, hne => by
  have h : x ≠ y := hne
  unfold lexLt
  rw [if_neg h]
  rfl
 | k + 1, x :: l, y :: m, h, ha, hb, hne => by
  rw [List.take_succ_cons, List.take_succ_cons, List.cons.injEq] at h
  unfold lexLt
  rw [if_pos h.1]
  exact lex_at h.2 (by simpa using ha) (by simpa using hb) hne
theorem lex_end : ∀ {k : Nat} {a b : List Int}, a.take k = b.take k → (k = a.length ∧ k ≤ b.length) ∨ (k = b.length ∧ k ≤ a.length) → lexLt a b = decide (a.length < b.length)
 | 0, [], [], _, _ => rfl
 | 0, [], _ :: _, _, _ => by unfold lexLt; simp
 | 0, _ :: _, [], _, _ => by unfold lexLt; simp
 | 0, _ :: _, _ :: _, _, h => by simp at h
 | k + 1, [], _, _, h => by simp at h
 | k + 1, _ :: _, [], _, h => by simp at h
 | k + 1, x :: l, y :: m, h, h' => by
  rw [List.take_succ_cons, List.take_succ_cons, List.cons.injEq] at h
  unfold lexLt
  rw [if_pos h.1, lex_end h.2 (by simpa using h')]
  exact decide_eq_decide.2 (by simp)
def ownI (k : Int) : Int := (ownR k).getD (-1)
theorem rOwn_c (hP : PE E) (W : AW) (k : Int) : ACalls E 45 [.int .u8 k] W fun Y W' => Y = .int .i64 (ownI k) ∧ W' = W := by
 refine ACalls.of hP Tryz.func45 ok_rOwne (by simp) fun _ hok => ?_
 refine awp_start hok ?_
 by_cases h1 : k = 1
 ·have e1 : (k == 1) = true := by simp [h1]
  simp (maxSteps:=9^9) (disch:=omega) only [BX, ↓reduceIte, reduceCtorEq, c_rOwn, e1]
  exact ⟨_, rfl, _, W, backX hok rfl, lr _, by simp [ownI, ownR, h1], rfl⟩
 ·have e1 : (k == 1) = false := by simp [h1]
  by_cases h2 : k = 8
  ·have e2 : (k == 8) = true := by simp [h2]
   simp (maxSteps:=9^9) (disch:=omega) only [BX, ↓reduceIte, nE, reduceCtorEq, c_rOwn, e1, e2]
   exact ⟨_, rfl, _, W, backX hok rfl, lr _, by simp [ownI, ownR, h2], rfl⟩
  ·have e2 : (k == 8) = false := by simp [h2]
   by_cases h3 : k = 16
   ·have e3 : (k == 16) = true := by simp [h3]
    simp (maxSteps:=9^9) (disch:=omega) only [BX, ↓reduceIte, nE, reduceCtorEq, c_rOwn, e1, e2, e3]
    exact ⟨_, rfl, _, W, backX hok rfl, lr _, by simp [ownI, ownR, h3], rfl⟩
   ·have e3 : (k == 16) = false := by simp [h3]
    simp (maxSteps:=9^9) (disch:=omega) only [BX, ↓reduceIte, nE, reduceCtorEq, c_rOwn, e1, e2, e3]
    exact ⟨_, rfl, _, W, backX hok rfl, lr _, by simp [ownI, ownR, h1, h2, h3], rfl⟩
theorem ed_eqv {W : AW} {K : V → AW → Prop} {a b : Ed} (h : ekOk (ofEd a)) (h' : ekOk (ofEd b)) : sem E (.eqv false (true, [.i .u16, .i .u16, .i .u8])) [a.V, .agg [.int .u16 b.fr, .int .u16 b.to, .int .u8 b.kd]] W K = K (.bool (decide (a = b))) W := by
 have h1 : a.V.has shE = true := ekV_has h
 have h2 : b.V.has shE = true := ekV_has h'
 have h3 : a.V.keq b.V = decide (a = b) := by
  have := ekV_keq (ofEd a) (ofEd b)
  have h2 : decide (ofEd b = ofEd a) = decide (a = b) := decide_eq_decide.2 ⟨fun h => (congrArg toEd h).symm, fun h => by rw [h]⟩
  exact this.trans h2
 simp only [shE] at h1 h2
 show sem E (.eqv false (true, [.i .u16, .i .u16, .i .u8])) [a.V, b.V] W K = _
 simp [sem, rsem, tsem, h1, h2, h3]
theorem ed_load {W : AW} {K : V → AW → Prop} {e : Ed} : sem E (.load true 3) [.cptr e.V.cells] W K = K e.V W := id rfl
theorem rHasE_c (hP : PE E) (W : AW) {vL : V} {L : List Ed} (hv : isS 3 vL (L.map Ed.V)) (hL : ∀ e ∈ L, ekOk (ofEd e)) (hl : L.length < 2 ^ 40) (e : Ed) (he : ekOk (ofEd e)) :
  ACalls E 57 [vL, .agg [.int .u16 e.fr, .int .u16 e.to, .int .u8 e.kd]] W fun Y W' => Y = .bool (decide (e ∈ L)) ∧ W' = W := by
 refine ACalls.of hP Tryz.func57 ok_rHasEe (by simp) fun _ hok => ?_
 refine awp_start hok ?_
 simp (maxSteps:=9^9) (disch:=omega) only [BZ, BM, BD, c_rHasE]
 rw [e_loop]
 refine alp (fun (i : Nat) A1 W1 => A1 0 = some vL ∧ A1 3 = some (.ptr (rf W.nx 0) 0) ∧ A1 5 = some (.int .i64 (i : Nat)) ∧ i ≤ L.length ∧ (∀ j (hj : j < L.length), j < i → L[j] ≠ e) ∧ W1 = X W W.nx [.row [.int .u16 e.fr, .int .u16 e.to, .int .u8 e.kd]]) (fun i => L.length - i) 0
  ⟨rfl, rfl, rfl, Nat.zero_le _, fun _ _ h => by omega, rfl⟩ ?_
 rintro i A1 _ ⟨q0, q3, q5, qi, qf, rfl⟩ _
 by_cases hi : i < L.length
 ·have o1 := hL _ (gmm hi)
  by_cases hh : L[i] = e
  ·simp (maxSteps:=9^9) (disch:=omega) only [BX, ↓reduceIte, nE, reduceCtorEq, BM, BD, nA, nL, c_rHasE_0, q0, q3, q5, hv.len, lmp, clt, hi, dT, hv.idx (ed_at hi), ed_load, ed_eqv o1 he, decide_eq_true hh]
   exact ⟨_, rfl, _, W, backX hok rfl, lr _, by rw [decide_eq_true (hh ▸ gmm hi)], rfl⟩
  ·simp (maxSteps:=9^9) (disch:=omega) only [BX, ↓reduceIte, nE, reduceCtorEq, BM, BD, nA, nL, c_rHasE_0, q0, q3, q5, hv.len, lmp, clt, hi, dT, hv.idx (ed_at hi), ed_load, ed_eqv o1 he, decide_eq_false hh, wadd1]
   refine ⟨i + 1, ⟨tt, tt, tt, hi, fun j hj hji => ?_, tt⟩, by omega, lr _⟩
   by_cases e' : j = i
   ·subst e'; exact hh
   ·exact qf j hj (by omega)
 ·simp (maxSteps:=9^9) (disch:=omega) only [BX, ↓reduceIte, nE, reduceCtorEq, BM, BD, c_rHasE_0, q0, q5, hv.len, lmp, clt, hi, dF]
  refine ⟨_, rfl, _, W, backX hok rfl, lr _, ?_, rfl⟩
  rw [decide_eq_false]
  intro hm
  obtain ⟨j, hj, hje⟩ := List.getElem_of_mem hm
  exact qf j hj (by omega) hje
theorem same30_c (hP : PE E) (W : AW) {v1 v2 w1 w2 : V} {a b : List Int × List Int} (i1 : isS 1 v1 (intsV a.1)) (i2 : isS 1 v2 (u8s a.2)) (j1 : isS 1 w1 (intsV b.1)) (j2 : isS 1 w2 (u8s b.2)) (l1 : a.1.length < 2 ^ 40) (l2 : a.2.length < 2 ^ 40) :
  ACalls E 15 [.agg [v1, v2], .agg [w1, w2]] W fun Y W' => Y = .bool (decide (a = b)) ∧ W' = W := by
 refine ACalls.of hP Tryz.func15 ok_same30e (by simp) fun _ hok => ?_
 refine awp_start hok ?_
 obtain ⟨a1, a2⟩ := a
 obtain ⟨b1, b2⟩ := b
 simp only at i1 i2 j1 j2 l1 l2
 have fin : ∀ l r, r = decide ((a1, a2) = (b1, b2)) → ∃ X0, some (V.bool r) = some X0 ∧ ∃ Y W', RetV X0 (X W W.nx l) Y W' ∧ W.nx ≤ W'.nx ∧ Y = .bool (decide ((a1, a2) = (b1, b2))) ∧ W' = W := fun l b hb => ⟨_, rfl, _, W, backX hok rfl, lr _, by rw [hb], rfl⟩
 have no : ∀ l, (a1 ≠ b1 ∨ a2 ≠ b2) → ∃ X0, some (V.bool false) = some X0 ∧ ∃ Y W', RetV X0 (X W W.nx l) Y W' ∧ W.nx ≤ W'.nx ∧ Y = .bool (decide ((a1, a2) = (b1, b2))) ∧ W' = W := fun l h => fin l false (by
  rw [eq_comm, decide_eq_false_iff_not, Prod.mk.injEq]
  rintro ⟨rfl, rfl⟩
  rcases h with h | h <;> exact h rfl)
 simp (maxSteps:=9^9) (disch:=omega) only [BZ, ↓reduceIte, nE, BM, BD, c_same30, i1.len, j1.len, ints_len]
 by_cases h1 : a1.length = b1.length
 ·have c1 : ((a1.length : Int) != (b1.length : Int)) = false := by simp; omega
  by_cases h2 : a2.length = b2.length
  ·have c2 : ((a2.length : Int) != (b2.length : Int)) = false := by simp; omega
   repeat (rw [guard_if]; simp (maxSteps:=9^9) (disch:=omega) only [BX, ↓reduceIte, nE, BM, BD, i2.len, j2.len, u8s_len, c1, c2])
   rw [e_loop]
   refine alp (fun (k : Nat) A1 W1 => A1 2 = some (.ptr (rf W.nx 0) 0) ∧ A1 3 = some (.ptr (rf W.nx 1) 0) ∧ A1 5 = some (.int .i64 (k : Nat)) ∧ k ≤ a1.length ∧ a1.take k = b1.take k ∧ W1 = X W W.nx [.row [v1, v2], .row [w1, w2]]) (fun k => a1.length - k) 0
    ⟨rfl, rfl, rfl, Nat.zero_le _, rfl, rfl⟩ ?_
   rintro k A1 _ ⟨q2, q3, q5, qk, qt, rfl⟩ _
   by_cases hk : k < a1.length
   ·by_cases he : a1.getD k 0 = b1.getD k 0
    ·have c3 : (a1.getD k 0 != b1.getD k 0) = false := by rw [he]; exact bne_self_eq_false _
     simp (maxSteps:=9^9) (disch:=omega) only [BX, ↓reduceIte, nE, BM, BD, nA, c_same30_0, q2, q3, q5, i1.len, ints_len, clt, hk, dT, i1.idx (ints_getD hk), j1.idx (ints_getD (show k < b1.length by omega)), c3, wadd1]
     exact ⟨k + 1, ⟨tt, tt, tt, hk, take_extD qt hk (by omega) he, tt⟩, by omega, lr _⟩
    ·have c3 : (a1.getD k 0 != b1.getD k 0) = true := bne_iff_ne.2 he
     simp (maxSteps:=9^9) (disch:=omega) only [BX, ↓reduceIte, nE, BM, BD, nA, c_same30_0, q2, q3, q5, i1.len, ints_len, clt, hk, dT, i1.idx (ints_getD hk), j1.idx (ints_getD (show k < b1.length by omega)), c3]
     exact no _ (.inl (ne_atD hk (by omega) he))
   ·obtain rfl : k = a1.length := by omega
    rw [tkl, h1, tkl] at qt
    subst qt
    simp (maxSteps:=9^9) (disch:=omega) only [BX, ↓reduceIte, nE, BM, BD, nA, c_same30_0, q2, q5, i1.len, ints_len, clt, hk, dF]
    rw [e_loop]
    refine alp (fun (k : Nat) A1 W1 => A1 2 = some (.ptr (rf W.nx 0) 0) ∧ A1 3 = some (.ptr (rf W.nx 1) 0) ∧ A1 6 = some (.int .i64 (k : Nat)) ∧ k ≤ a2.length ∧ a2.take k = b2.take k ∧ W1 = X W W.nx [.row [v1, v2], .row [w1, w2]]) (fun k => a2.length - k) 0
     ⟨tt, tt, tt, Nat.zero_le _, rfl, rfl⟩ ?_
    rintro k A1 _ ⟨q2, q3, q5, qk, qt, rfl⟩ _
    by_cases hk : k < a2.length
    ·by_cases he : a2.getD k 0 = b2.getD k 0
     ·have c3 : (a2.getD k 0 != b2.getD k 0) = false := by rw [he]; exact bne_self_eq_false _
      simp (maxSteps:=9^9) (disch:=omega) only [BX, ↓reduceIte, nE, BM, BD, nA, c_same30_1, q2, q3, q5, i2.len, u8s_len, clt, hk, dT, i2.idx (u8_getD hk), j2.idx (u8_getD (show k < b2.length by omega)), c3, wadd1]
      exact ⟨k + 1, ⟨tt, tt, tt, hk, take_extD qt hk (by omega) he, tt⟩, by omega, lr _⟩
     ·have c3 : (a2.getD k 0 != b2.getD k 0) = true := bne_iff_ne.2 he
      simp (maxSteps:=9^9) (disch:=omega) only [BX, ↓reduceIte, nE, BM, BD, nA, c_same30_1, q2, q3, q5, i2.len, u8s_len, clt, hk, dT, i2.idx (u8_getD hk), j2.idx (u8_getD (show k < b2.length by omega)), c3]
      exact no _ (.inr (ne_atD hk (by omega) he))
    ·obtain rfl : k = a2.length := by omega
     rw [tkl, h2, tkl] at qt
     subst qt
     simp (maxSteps:=9^9) (disch:=omega) only [BX, ↓reduceIte, nE, BM, BD, nA, c_same30_1, q2, q5, i2.len, u8s_len, clt, hk, dF]
     exact ⟨_, rfl, _, W, backX hok rfl, lr _, by simp, rfl⟩
  ·have c2 : ((a2.length : Int) != (b2.length : Int)) = true := by simp; omega
   repeat (rw [guard_if]; simp (maxSteps:=9^9) (disch:=omega) only [BX, ↓reduceIte, nE, BM, BD, i2.len, j2.len, u8s_len, c1, c2])
   exact no _ (.inr fun h => h2 (by rw [h]))
 ·have c1 : ((a1.length : Int) != (b1.length : Int)) = true := by simp; omega
  repeat (rw [guard_if]; simp (maxSteps:=9^9) (disch:=omega) only [BX, ↓reduceIte, nE, BM, c1])
  exact no _ (.inl fun h => h1 (by rw [h]))
theorem rLess_c (hP : PE E) (W : AW) {v1 v2 w1 w2 : V} {a b : List Int × List Int} (i1 : isS 1 v1 (intsV a.1)) (i2 : isS 1 v2 (u8s a.2)) (j1 : isS 1 w1 (intsV b.1)) (j2 : isS 1 w2 (u8s b.2)) (l1 : a.1.length < 2 ^ 40) (l2 : a.2.length < 2 ^ 40) :
  ACalls E 27 [.agg [v1, v2], .agg [w1, w2]] W fun Y W' => Y = .bool (lessR a b) ∧ W' = W := by
 refine ACalls.of hP Tryz.func27 ok_rLesse (by simp) fun _ hok => ?_
 refine awp_start hok ?_
 obtain ⟨a1, a2⟩ := a
 obtain ⟨b1, b2⟩ := b
 simp only at i1 i2 j1 j2 l1 l2
 have fin : ∀ l r, r = lessR (a1, a2) (b1, b2) → ∃ X0, some (V.bool r) = some X0 ∧ ∃ Y W', RetV X0 (X W W.nx l) Y W' ∧ W.nx ≤ W'.nx ∧ Y = .bool (lessR (a1, a2) (b1, b2)) ∧ W' = W := fun l b hb => ⟨_, rfl, _, W, backX hok rfl, lr _, by rw [hb], rfl⟩
 simp (maxSteps:=9^9) (disch:=omega) only [BX, ↓reduceIte, nE, BM, BD, c_rLess, i1.len, j1.len, ints_len]
 by_cases h1 : a1.length = b1.length
 ·have c1 : ((a1.length : Int) != (b1.length : Int)) = false := by simp; omega
  simp (maxSteps:=9^9) (disch:=omega) only [BC, ↓reduceIte, c1]
  rw [e_loop]
  refine alp (fun (k : Nat) A1 W1 => A1 2 = some (.ptr (rf W.nx 0) 0) ∧ A1 3 = some (.ptr (rf W.nx 1) 0) ∧ A1 5 = some (.int .i64 (k : Nat)) ∧ k ≤ a1.length ∧ a1.take k = b1.take k ∧ W1 = X W W.nx [.row [v1, v2], .row [w1, w2]]) (fun k => a1.length - k) 0
   ⟨rfl, rfl, rfl, Nat.zero_le _, rfl, rfl⟩ ?_
  rintro k A1 _ ⟨q2, q3, q5, qk, qt, rfl⟩ _
  by_cases hk : k < a1.length
  ·have hk' : k < b1.length := by omega
   by_cases he : a1.getD k 0 = b1.getD k 0
   ·have c3 : (a1.getD k 0 != b1.getD k 0) = false := by rw [he]; exact bne_self_eq_false _
    simp (maxSteps:=9^9) (disch:=omega) only [BX, ↓reduceIte, nE, BM, BD, nA, c_rLess_0, q2, q3, q5, i1.len, ints_len, clt, hk, dT, i1.idx (ints_getD hk), j1.idx (ints_getD hk'), c3, wadd1]
    exact ⟨k + 1, ⟨tt, tt, tt, hk, take_extD qt hk (by omega) he, tt⟩, by omega, lr _⟩
   ·have c3 : (a1.getD k 0 != b1.getD k 0) = true := bne_iff_ne.2 he
    simp (maxSteps:=9^9) (disch:=omega) only [BX, ↓reduceIte, nE, BM, BD, nA, c_rLess_0, q2, q3, q5, i1.len, ints_len, clt, hk, dT, i1.idx (ints_getD hk), j1.idx (ints_getD hk'), c3]
    refine fin _ _ ?_
    unfold lessR
    rw [if_neg (fun h => h h1), if_neg (ne_atD hk hk' he), lex_at qt hk hk' he]
  ·obtain rfl : k = a1.length := by omega
   rw [tkl, h1, tkl] at qt
   subst qt
   simp (maxSteps:=9^9) (disch:=omega) only [BX, ↓reduceIte, nE, BM, BD, nA, c_rLess_0, q2, q5, i1.len, ints_len, clt, hk, dF]
   rw [e_loop]
   refine alp (fun (k : Nat) A1 W1 => A1 2 = some (.ptr (rf W.nx 0) 0) ∧ A1 3 = some (.ptr (rf W.nx 1) 0) ∧ A1 6 = some (.int .i64 (k : Nat)) ∧ k ≤ a2.length ∧ k ≤ b2.length ∧ a2.take k = b2.take k ∧ W1 = X W W.nx [.row [v1, v2], .row [w1, w2]]) (fun k => a2.length - k) 0
    ⟨tt, tt, tt, Nat.zero_le _, Nat.zero_le _, rfl, rfl⟩ ?_
   rintro k A1 _ ⟨q2, q3, q5, qk, qk', qt, rfl⟩ _
   have hR : lessR (a1, a2) (a1, b2) = lexLt a2 b2 := by
    unfold lessR
    rw [if_neg (fun h => h rfl), if_pos rfl]
   have ended : (k = a2.length ∧ k ≤ b2.length) ∨ (k = b2.length ∧ k ≤ a2.length) → decide (a2.length < b2.length) = lessR (a1, a2) (a1, b2) := fun h => by
    rw [hR, lex_end qt h]
   by_cases hk : k < a2.length
   ·by_cases hk' : k < b2.length
    ·by_cases he : a2.getD k 0 = b2.getD k 0
     ·have c3 : (a2.getD k 0 != b2.getD k 0) = false := by rw [he]; exact bne_self_eq_false _
      simp (maxSteps:=9^9) (disch:=omega) only [BZ, ↓reduceIte, nE, BM, BD, nA, c_rLess_1, q2, q5, i2.len, u8s_len, clt, hk, dT]
      repeat (rw [guard_if]; simp (maxSteps:=9^9) (disch:=omega) only [BX, ↓reduceIte, nE, BM, BD, nA, q2, q3, q5, j2.len, u8s_len, clt, hk', dT, i2.idx (u8_getD hk), j2.idx (u8_getD hk'), c3, wadd1])
      exact ⟨k + 1, ⟨tt, tt, tt, hk, hk', take_extD qt hk (by omega) he, tt⟩, by omega, lr _⟩
     ·have c3 : (a2.getD k 0 != b2.getD k 0) = true := bne_iff_ne.2 he
      simp (maxSteps:=9^9) (disch:=omega) only [BZ, ↓reduceIte, nE, BM, BD, nA, c_rLess_1, q2, q5, i2.len, u8s_len, clt, hk, dT]
      repeat (rw [guard_if]; simp (maxSteps:=9^9) (disch:=omega) only [BX, ↓reduceIte, nE, BM, BD, q2, q3, q5, j2.len, u8s_len, clt, hk', dT, i2.idx (u8_getD hk), j2.idx (u8_getD hk'), c3])
      exact fin _ _ (by rw [hR, lex_at qt hk hk' he])
    ·simp (maxSteps:=9^9) (disch:=omega) only [BZ, ↓reduceIte, nE, BM, BD, nA, c_rLess_1, q2, q5, i2.len, u8s_len, clt, hk, dT]
     repeat (rw [guard_if]; simp (maxSteps:=9^9) (disch:=omega) only [BX, ↓reduceIte, nE, BM, BD, q2, q3, q5, i2.len, j2.len, u8s_len, clt, hk', dF])
     exact fin _ _ (ended (.inr ⟨by omega, qk⟩))
   ·simp (maxSteps:=9^9) (disch:=omega) only [BZ, ↓reduceIte, nE, BM, BD, nA, c_rLess_1, q2, q5, i2.len, u8s_len, clt, hk, dF]
    repeat (rw [guard_if]; simp (maxSteps:=9^9) (disch:=omega) only [BX, ↓reduceIte, nE, BM, BD, q2, q3, i2.len, j2.len, u8s_len, clt])
    exact fin _ _ (ended (.inl ⟨by omega, qk'⟩))
 ·have c1 : ((a1.length : Int) != (b1.length : Int)) = true := by simp; omega
  simp (maxSteps:=9^9) (disch:=omega) only [↓reduceIte, c1]
  refine fin _ _ ?_
  unfold lessR
  rw [if_pos h1]
  exact decide_eq_decide.2 (by simp only; omega)
def c_rIsC_1 : AC := (.seq (.r [.m 35 11,.m 36 10,.b 37 (.bin .lss) 35 36] (.w 37 2)) (.seq (.block 3 (.seq (.par (.step 0 (.u 40 (.fld 0) 5) (.step 2 (.m 42 11) (.step 5 (.u 45 (.fld 0) 5) (.step 7 (.m 47 10) (.step 1 (.u 41 (.load false 1) 40) (.step 3 (.b 43 (.idxp 1) 41 42) (.step 4 (.u 44 (.load false 1) 43) (.step 6 (.u 46 (.load false 1) 45) (.step 8 (.b 48 (.idxp 1) 46 47) (.step 9 (.u 49 (.load false 1) 48) (.step 10 (.b 50 (.bin .eql) 44 49) .done)))))))))))) (.cond (.t 50) (.r [.v 6 (.bool false)] .ret) .skip))) (.reg [.m 38 11,.a 39 (.bin .add) 38 1,.m 11 39])))
def c_rIsC_0 : AC := (.seq (.r [.m 30 10,.m 31 8,.b 32 (.bin .lss) 30 31] (.w 32 0)) (.seq (.block 1 (.seq (.r [.v 11 (.int .i64 0)] (.block 2 (.loop c_rIsC_1))) (.seq (.seq (.par (.step 0 (.u 51 (.fld 0) 5) (.step 2 (.m 53 10) (.step 5 (.u 56 (.fld 0) 5) (.step 1 (.u 52 (.load false 1) 51) (.step 3 (.b 54 (.idxp 1) 52 53) (.step 4 (.u 55 (.load false 1) 54) (.step 6 (.u 57 (.load false 1) 56) (.step 7 (.a 58 (.idxp 1) 57 0) (.step 8 (.u 59 (.load false 1) 58) (.step 9 (.b 60 (.bin .lss) 55 59) (.step 10 (.m 61 60) (.step 11 (.U 62 (.fld 1) 5 61 false) (.step 13 (.M 64 10 61 false) (.step 17 (.M 68 7 61 false) (.step 12 (.U 63 (.load false 1) 62 61 false) (.step 14 (.B 65 (.idxp 1) 63 64 61 false) (.step 15 (.U 66 (.load false 1) 65 61 false) (.step 16 (.U 67 (.conv .i64) 66 61 false) (.step 18 (.B 69 (.bin .gtr) 67 68 61 false) (.step 19 (.p 70 .pick [.t 61,.T,.t 69]) (.step 20 (.m 71 70) (.step 21 (.M 72 0 71 false) (.step 22 (.U 73 (.fld 0) 5 71 false) (.step 24 (.M 75 10 71 false) (.step 27 (.U 78 (.fld 0) 5 71 false) (.step 29 (.M 80 10 71 false) (.step 30 (.P 81 (.bin .add) [.t 80,.i 1] 71 false) (.step 31 (.M 82 8 71 false) (.step 32 (.B 83 (.bin .rem) 81 82 71 false) (.step 35 (.U 86 (.fld 1) 5 71 false) (.step 37 (.M 88 10 71 false) (.step 23 (.U 74 (.load false 1) 73 71 false) (.step 25 (.B 76 (.idxp 1) 74 75 71 false) (.step 26 (.U 77 (.load false 1) 76 71 false) (.step 28 (.U 79 (.load false 1) 78 71 false) (.step 33 (.B 84 (.idxp 1) 79 83 71 false) (.step 34 (.U 85 (.load false 1) 84 71 false) (.step 36 (.U 87 (.load false 1) 86 71 false) (.step 38 (.B 89 (.idxp 1) 87 88 71 false) (.step 39 (.U 90 (.load false 1) 89 71 false) (.step 40 (.P 91 (.build [.int .u16 0,.int .u16 0,.int .u8 0] [(0, 1), (1, 1), (2, 1)]) [.t 77,.t 85,.t 90] 71 false) (.step 41 (.B 92 (.call 57) 72 91 71 false) (.step 42 (.U 93 (.un .not) 92 71 false) (.step 43 (.p 94 .pick [.t 71,.T,.t 93]) .done))))))))))))))))))))))))))))))))))))))))))))) (.cond (.t 94) (.r [.v 6 (.bool false)] .ret) .skip)) (.reg [.m 95 9,.m 96 95,.U 97 (.fld 1) 5 96 false,.U 98 (.load false 1) 97 96 false,.M 99 10 96 false,.B 100 (.idxp 1) 98 99 96 false,.U 101 (.load false 1) 100 96 false,.U 102 (.conv .i64) 101 96 false,.M 103 7 96 false,.B 104 (.bin .eql) 102 103 96 false,.p 105 .pick [.t 96,.T,.t 104],.m 9 105])))) (.reg [.m 33 10,.a 34 (.bin .add) 33 1,.m 10 34])))
def c_rIsC : AC := (.r [.u 5 .box 2,.v 6 (.bool false)] (.r [.m 12 1,.u 13 (.call 45) 12,.m 7 13] (.r [.u 14 (.fld 0) 5,.u 15 (.load false 1) 14,.u 16 (.len 1 0) 15,.m 8 16] (.seq (.r [.m 17 7,.a 18 (.bin .lss) 17 0,.m 19 18,.M 20 8 19 false,.P 21 (.bin .lss) [.t 20,.i 2] 19 false,.p 22 .pick [.t 19,.T,.t 21],.m 23 22,.U 24 (.fld 1) 5 23 false,.U 25 (.load false 1) 24 23 false,.U 26 (.len 1 0) 25 23 false,.M 27 8 23 false,.B 28 (.bin .neq) 26 27 23 false,.p 29 .pick [.t 23,.T,.t 28]] (.cond (.t 29) (.r [.v 6 (.bool false)] .ret) .skip)) (.r [.v 9 (.bool false)] (.seq (.r [.v 10 (.int .i64 0)] (.block 0 (.loop c_rIsC_0))) (.r [.m 106 9,.m 6 106] .ret)))))))
theorem ok_rIsCe : compF Tryz.prog Tryz.f24 ⟨false, false, []⟩ = some (c_rIsC, [.tmp 6], 107) := by kernel_rfl
structure GoodR (L : List Ed) (own : Int) (ids ks : List Int) (i : Nat) : Prop where
 nw : ids.getD i 0 ∉ ids.take i
 fst : ids.getD 0 0 ≤ ids.getD i 0
 le : ks.getD i 0 ≤ own
 ed : (⟨ids.getD i 0, ids.getD ((i + 1) % ids.length) 0, ks.getD i 0⟩ : Ed) ∈ L
theorem IsC.good {L : List Ed} {own : Int} {ids ks : List Int} (h : IsC L own ids ks) {i : Nat} (hi : i < ids.length) : GoodR L own ids ks i := by
 have hg : ids.getD i 0 = ids[i] := by rw [List.getD_eq_getElem?_getD, gEg hi]; rfl
 have hg2 : ks.getD i 0 ∈ ks := by rw [List.getD_eq_getElem?_getD, gEg (by rw [h.len]; exact hi)]; exact gmm _
 refine ⟨fun hm => ?_, h.fst _ (hg ▸ gmm _), h.le _ hg2, h.ed i hi⟩
 obtain ⟨j, hj, e⟩ := List.mem_take_iff_getElem.1 hm
 rw [hg] at e
 exact List.pairwise_iff_getElem.1 (List.nodup_iff_pairwise_ne.1 h.nd) j i (by omega) hi (by omega) e
theorem IsC.of {L : List Ed} {own : Int} {ids ks : List Int} (h2 : 2 ≤ ids.length) (hl : ks.length = ids.length) (ho : own ∈ ks) (h : ∀ i, i < ids.length → GoodR L own ids ks i) : IsC L own ids ks := by
 refine ⟨h2, hl, ho, fun k hk => ?_, fun x hx => ?_, nodup_take fun i hi => (h i hi).nw, fun i hi => (h i hi).ed⟩
 ·obtain ⟨i, hi, rfl⟩ := List.getElem_of_mem hk
  have := (h i (by omega)).le
  rwa [List.getD_eq_getElem?_getD, gEg hi] at this
 ·obtain ⟨i, hi, rfl⟩ := List.getElem_of_mem hx
  have := (h i hi).fst
  rwa [List.getD_eq_getElem?_getD (i := i), gEg hi] at this
theorem rIs_in {W : AW} {v1 v2 : V} {ids : List Int} (i1 : isS 1 v1 (intsV ids)) (l1 : ids.length < 2 ^ 20) {i : Nat} (hi : i < ids.length) {x0 x7 x8 x9 : V} {A : AFr} {Q : Exit → AFr → AW → Prop} (a0 : A 0 = some x0) (a5 : A 5 = some (.ptr (rf W.nx 0) 0)) (a7 : A 7 = some x7) (a8 : A 8 = some x8) (a9 : A 9 = some x9) (a10 : A 10 = some (.int .i64 (i : Nat))) (a11 : A 11 = some (.int .i64 0))
  (hret : ∀ A', A' 6 = some (.bool false) → ids.getD i 0 ∈ ids.take i → Q .ret A' (X W W.nx [.row [v1, v2]]))
  (hex : ∀ A', A' 0 = some x0 → A' 5 = some (.ptr (rf W.nx 0) 0) → A' 7 = some x7 → A' 8 = some x8 → A' 9 = some x9 → A' 10 = some (.int .i64 (i : Nat)) → ids.getD i 0 ∉ ids.take i → Q (.exit 2) A' (X W W.nx [.row [v1, v2]])) :
  ALoop (awp E c_rIsC_1) Q A (X W W.nx [.row [v1, v2]]) := by
 have hgi := ints_getD hi
 refine alp (fun (k : Nat) A1 W1 => A1 0 = some x0 ∧ A1 5 = some (.ptr (rf W.nx 0) 0) ∧ A1 7 = some x7 ∧ A1 8 = some x8 ∧ A1 9 = some x9 ∧ A1 10 = some (.int .i64 (i : Nat)) ∧ A1 11 = some (.int .i64 (k : Nat)) ∧ k ≤ i ∧ ids.getD i 0 ∉ ids.take k ∧ W1 = X W W.nx [.row [v1, v2]]) (fun k => i - k) 0
  ⟨a0, a5, a7, a8, a9, a10, a11, Nat.zero_le _, by simp, rfl⟩ ?_
 rintro k A1 _ ⟨q0, q5, q7, q8, q9, q10, q11, qk, qn, rfl⟩ _
 by_cases hk : k < i
 ·have hkl : k < ids.length := by omega
  have hgk := ints_getD hkl
  have hge : ids.getD k 0 = ids[k] := by rw [List.getD_eq_getElem?_getD, gEg hkl]; rfl
  by_cases he : ids.getD k 0 = ids.getD i 0
  ·have c3 : (ids.getD k 0 == ids.getD i 0) = true := by rw [he]; exact beq_self_eq_true _
   simp (maxSteps:=9^9) (disch:=omega) only [BX, ↓reduceIte, nE, BM, BD, c_rIsC_1, q5, q10, q11, clt, hk, dT, i1.idx hgk, i1.idx hgi, c3]
   refine hret _ tt ?_
   rw [← he, hge]
   exact List.mem_take_iff_getElem.2 ⟨k, by omega, rfl⟩
  ·have c3 : (ids.getD k 0 == ids.getD i 0) = false := beq_eq_false_iff_ne.2 he
   simp (maxSteps:=9^9) (disch:=omega) only [BX, ↓reduceIte, nE, reduceCtorEq, BM, BD, c_rIsC_1, q0, q5, q7, q8, q9, q10, q11, clt, hk, dT, i1.idx hgk, i1.idx hgi, c3, wadd1]
   refine ⟨k + 1, ⟨tt, tt, tt, tt, tt, tt, tt, hk, fun hm => ?_, tt⟩, by omega, lr _⟩
   rw [tao, gEg hkl] at hm
   rcases List.mem_append.1 hm with hm | hm
   ·exact qn hm
   ·exact he (by rw [hge, List.mem_singleton.1 hm])
 ·obtain rfl : k = i := by omega
  simp (maxSteps:=9^9) (disch:=omega) only [BX, ↓reduceIte, nE, BM, BD, c_rIsC_1, q10, q11, clt, hk, dF]
  exact hex _ tt tt tt tt tt tt qn
theorem rIsC_c (hP : PE E) (W : AW) {vL v1 v2 : V} {L : List Ed} {ids ks : List Int} (hv : isS 3 vL (L.map Ed.V)) (hL : ∀ e ∈ L, ekOk (ofEd e)) (hl : L.length < 2 ^ 40) (i1 : isS 1 v1 (intsV ids)) (i2 : isS 1 v2 (u8s ks)) (hi : ∀ x ∈ ids, 0 ≤ x ∧ x < 65536) (hk : ∀ x ∈ ks, 0 ≤ x ∧ x < 256) (l1 : ids.length < 2 ^ 20) (_ : ks.length < 2 ^ 20) (k : Int) :
  ACalls E 24 [vL, .int .u8 k, .agg [v1, v2]] W fun Y W' => Y = .bool (isR (fun e => decide (e ∈ L)) k ids ks) ∧ W' = W := by
 refine ACalls.of hP Tryz.func24 ok_rIsCe (by simp) fun _ hok => ?_
 refine awp_start hok ?_
 have fin : ∀ l b, b = isR (fun e => decide (e ∈ L)) k ids ks → ∃ X0, some (V.bool b) = some X0 ∧ ∃ Y W', RetV X0 (X W W.nx l) Y W' ∧ W.nx ≤ W'.nx ∧ Y = .bool (isR (fun e => decide (e ∈ L)) k ids ks) ∧ W' = W := fun l b hb => ⟨_, rfl, _, W, backX hok rfl, lr _, by rw [hb], rfl⟩
 simp (maxSteps:=9^9) (disch:=omega) only [BZ, ↓reduceIte, nE, BM, BD, c_rIsC]
 refine pc (rOwn_c hP _ k) ?_
 simp (maxSteps:=9^9) (disch:=omega) only [BZ, ↓reduceIte, nE, BM, BD, i1.len, ints_len]
 cases ho : ownR k with
 | none =>
  have e1 : decide (ownI k < 0) = true := by simp [ownI, ho]
  repeat (rw [guard_if]; simp (maxSteps:=9^9) (disch:=omega) only [BX, ↓reduceIte, nE, BM, e1])
  exact fin _ _ (by simp [isR, ho])
 | some own =>
  have ho3 : own = 0 ∨ own = 1 ∨ own = 2 := by
   unfold ownR at ho
   split at ho
   ·cases ho; exact .inl rfl
   ·split at ho
    ·cases ho; exact .inr (.inl rfl)
    ·split at ho
     ·cases ho; exact .inr (.inr rfl)
     ·cases ho
  have hoi : ownI k = own := by simp [ownI, ho]
  have e1 : decide (own < 0) = false := by simp; omega
  rw [hoi]
  by_cases h2 : ids.length < 2
  ·have e2 : decide ((ids.length : Int) < 2) = true := by simp; omega
   repeat (rw [guard_if]; simp (maxSteps:=9^9) (disch:=omega) only [BX, ↓reduceIte, nE, BM, e1, e2])
   exact fin _ _ (by simp [isR, ho]; intro h; omega)
  have e2 : decide ((ids.length : Int) < 2) = false := by simp; omega
  by_cases h3 : ks.length ≠ ids.length
  ·have e3 : ((ks.length : Int) != (ids.length : Int)) = true := by simp; omega
   repeat (rw [guard_if]; simp (maxSteps:=9^9) (disch:=omega) only [BX, ↓reduceIte, nE, BM, BD, i2.len, u8s_len, e1, e2, e3])
   exact fin _ _ (by simp [isR, ho, h3])
  have h3 : ks.length = ids.length := Decidable.not_not.1 h3
  have e3 : ((ks.length : Int) != (ids.length : Int)) = false := by simp; omega
  repeat (rw [guard_if]; simp (maxSteps:=9^9) (disch:=omega) only [BX, ↓reduceIte, nE, BM, BD, i2.len, u8s_len, e1, e2, e3])
  have hiff := isR_iff (es := L) (ids := ids) (ks := ks) ho (f := fun e => decide (e ∈ L)) fun _ => rfl
  have bad : ∀ i, i < ids.length → ¬ GoodR L own ids ks i → false = isR (fun e => decide (e ∈ L)) k ids ks := fun i hi hn => by
   cases hr : isR (fun e => decide (e ∈ L)) k ids ks with
   | false => rfl
   | true => exact absurd ((hiff.1 hr).good hi) hn
  have h0 : 0 < ids.length := by omega
  have hat0 := ints_getD h0
  have hix : ∀ W K, sem E (.idxp 1) [v1, .int .i64 0] W K = K (.cptr (V.int .u16 (ids.getD 0 0)).cells) W := fun W K => i1.idx (k := 0) hat0
  rw [e_loop]
  refine alp (fun (i : Nat) A1 W1 => A1 0 = some vL ∧ A1 5 = some (.ptr (rf W.nx 0) 0) ∧ A1 7 = some (.int .i64 own) ∧ A1 8 = some (.int .i64 (ids.length : Nat)) ∧ A1 9 = some (.bool ((ks.take i).any fun x => x == own)) ∧ A1 10 = some (.int .i64 (i : Nat)) ∧ i ≤ ids.length ∧ (∀ j, j < i → GoodR L own ids ks j) ∧ W1 = X W W.nx [.row [v1, v2]]) (fun i => ids.length - i) 0
   ⟨tt, tt, tt, tt, tt, tt, Nat.zero_le _, fun _ h => by omega, rfl⟩ ?_
  rintro i A1 _ ⟨q0, q5, q7, q8, q9, q10, qi, qg, rfl⟩ _
  by_cases hp : i < ids.length
  ·have hat := ints_getD hp
   have hj : (i + 1) % ids.length < ids.length := Nat.mod_lt _ (by omega)
   have hat2 := ints_getD hj
   have hpk : i < ks.length := by omega
   have hat3 := u8_getD hpk
   have hrm : ∀ W K, sem E (.bin .rem) [.int .i64 ((i + 1 : Nat) : Int), .int .i64 (ids.length : Int)] W K = K (.int .i64 (((i + 1) % ids.length : Nat) : Int)) W := fun W K => remQ (by omega)
   have hki := hk _ (getD_in hpk)
   have hwk : IntKind.i64.wrap (ks.getD i 0) = ks.getD i 0 := IntWalk.i64_in _ (by omega)
   simp (maxSteps:=9^9) (disch:=omega) only [BS, e_seq, cond_if, ↓reduceIte, nE, BM, BD, c_rIsC_0, q8, q10, clt, hp, dT, e_loop]
   refine rIs_in i1 l1 hp tt tt tt tt tt tt tt ?_ ?_
   ·intro A2 z6 hm
    simp (maxSteps:=9^9) (disch:=omega) only [BS, BC, z6]
    exact fin _ _ (bad i hp fun h => h.nw hm)
   ·intro A2 z0 z5 z7 z8 z9 z10 hn
    by_cases g1 : ids.getD i 0 < ids.getD 0 0
    ·simp (maxSteps:=9^9) (disch:=omega) only [BZ, ↓reduceIte, nE, BM, BD, z5, z10, i1.idx hat, hix, decide_eq_true g1]
     repeat (rw [guard_if]; simp (maxSteps:=9^9) (disch:=omega) only [BX, ↓reduceIte, nE, BM])
     exact fin _ _ (bad i hp fun h => absurd h.fst (by omega))
    ·by_cases g2 : ks.getD i 0 > own
     ·simp (maxSteps:=9^9) (disch:=omega) only [BZ, ↓reduceIte, nE, BM, BD, z5, z10, i1.idx hat, hix, decide_eq_false g1]
      repeat (rw [guard_if]; simp (maxSteps:=9^9) (disch:=omega) only [BX, ↓reduceIte, nE, BM, BD, z5, z7, z10, i2.idx hat3, hwk, decide_eq_true g2])
      exact fin _ _ (bad i hp fun h => absurd h.le (by omega))
     ·simp (maxSteps:=9^9) (disch:=omega) only [BZ, ↓reduceIte, nE, BM, BD, z5, z10, i1.idx hat, hix, decide_eq_false g1]
      repeat (rw [guard_if]; simp (maxSteps:=9^9) (disch:=omega) only [BS, BC, ↓reduceIte, nE, reduceCtorEq, BM, BD, nA, nL, z0, z5, z7, z8, z10, i1.idx hat, i1.idx hat2, i2.idx hat3, hwk, decide_eq_false g2, wadd1, hrm, hv.frz])
      refine pc (rHasE_c hP _ hv hL hl ⟨ids.getD i 0, ids.getD ((i + 1) % ids.length) 0, ks.getD i 0⟩ ⟨hi _ (getD_in hp), hi _ (getD_in hj), hki⟩) ?_
      by_cases g3 : (⟨ids.getD i 0, ids.getD ((i + 1) % ids.length) 0, ks.getD i 0⟩ : Ed) ∈ L
      ·rw [decide_eq_true g3]
       have hgood : GoodR L own ids ks i := ⟨hn, by omega, by omega, g3⟩
       have hat : (ks.take (i + 1)).any (fun x => x == own) = ((ks.take i).any (fun x => x == own) || (ks.getD i 0 == own)) := by
        rw [tao, gEg hpk, List.any_append, List.getD_eq_getElem?_getD, gEg hpk]
        simp
       cases hm : (ks.take i).any (fun x => x == own) with
       | true =>
        rw [hm] at hat z9
        simp (maxSteps:=9^9) (disch:=omega) only [BS]
        repeat (rw [guard_if]; simp (maxSteps:=9^9) (disch:=omega) only [BS, BC, cond_if, ↓reduceIte, nE, reduceCtorEq, BM, BD, z0, z5, z7, z8, z9, z10, wadd1])
        exact ⟨i + 1, ⟨tt, tt, tt, tt, by rw [hat]; rfl, tt, hp, fun j hji => by
         by_cases e : j = i
         ·subst e; exact hgood
         ·exact qg j (by omega), tt⟩, by omega, lr _⟩
       | false =>
        rw [hm] at hat z9
        simp (maxSteps:=9^9) (disch:=omega) only [BS]
        repeat (rw [guard_if]; simp (maxSteps:=9^9) (disch:=omega) only [BS, BC, cond_if, ↓reduceIte, nE, reduceCtorEq, BM, BD, z0, z5, z7, z8, z9, z10, i2.idx hat3, hwk, wadd1])
        exact ⟨i + 1, ⟨tt, tt, tt, tt, by rw [hat, Bool.false_or], tt, hp, fun j hji => by
         by_cases e : j = i
         ·subst e; exact hgood
         ·exact qg j (by omega), tt⟩, by omega, lr _⟩
      ·rw [decide_eq_false g3]
       simp (maxSteps:=9^9) (disch:=omega) only [BS]
       repeat (rw [guard_if]; simp (maxSteps:=9^9) (disch:=omega) only [BX, ↓reduceIte, nE, BD])
       exact fin _ _ (bad i hp fun h => g3 h.ed)
  ·obtain rfl : i = ids.length := by omega
   simp (maxSteps:=9^9) (disch:=omega) only [BX, ↓reduceIte, nE, BM, BD, c_rIsC_0, q8, q9, q10, clt, hp, dF]
   refine fin _ _ ?_
   rw [← h3, tkl]
   rw [Bool.eq_iff_iff, hiff]
   constructor
   ·intro h
    obtain ⟨x, hx, hxo⟩ := List.any_eq_true.1 h
    have : x = own := by simpa using hxo
    exact IsC.of (by omega) h3 (this ▸ hx) qg
   ·intro h
    exact List.any_eq_true.2 ⟨own, h.ow, by simp⟩
abbrev Cyc := List Int × List Int
theorem lex_ge_trans : ∀ {a b c : List Int}, lexLt a b = false → lexLt b c = false → lexLt a c = false
 | [], [], c, _, h => h
 | [], _ :: _, _, h, _ => by cases h
 | _ :: _, _, [], _, _ => rfl
 | _ :: _, [], _ :: _, _, h => by cases h
 | x :: l, y :: m, z :: n, h1, h2 => by
  unfold lexLt at h1 h2 ⊢
  by_cases e : x = y
  ·subst e
   rw [if_pos rfl] at h1
   by_cases e2 : x = z
   ·subst e2
    rw [if_pos rfl] at h2 ⊢
    exact lex_ge_trans h1 h2
   ·rw [if_neg e2] at h2 ⊢
    exact h2
  ·rw [if_neg e, decide_eq_false_iff_not] at h1
   by_cases e2 : y = z
   ·subst e2
    rw [if_neg e]
    exact decide_eq_false h1
   ·rw [if_neg e2, decide_eq_false_iff_not] at h2
    by_cases e3 : x = z
    ·omega
    ·rw [if_neg e3]
     exact decide_eq_false (by omega)
theorem lex_asymm : ∀ {a b : List Int}, lexLt a b = true → lexLt b a = false
 | [], [], h => by cases h
 | [], _ :: _, _ => rfl
 | _ :: _, [], h => by cases h
 | x :: l, y :: m, h => by
  unfold lexLt at h ⊢
  by_cases e : x = y
  ·subst e
   rw [if_pos rfl] at h ⊢
   exact lex_asymm h
  ·rw [if_neg e, decide_eq_true_eq] at h
   rw [if_neg (fun h => e h.symm)]
   exact decide_eq_false (by omega)
theorem less_refl (a : Cyc) : lessR a a = false := by
 unfold lessR
 rw [if_neg (fun h => h rfl), if_pos rfl]
 exact lex_refl _
theorem less_asymm {a b : Cyc} (h : lessR a b = true) : lessR b a = false := by
 unfold lessR at h ⊢
 by_cases hl : a.1.length = b.1.length
 ·rw [if_neg (fun h => h hl)] at h
  rw [if_neg (fun h => h hl.symm)]
  by_cases e : a.1 = b.1
  ·rw [if_pos e] at h
   rw [if_pos e.symm]
   exact lex_asymm h
  ·rw [if_neg e] at h
   rw [if_neg (fun h => e h.symm)]
   exact lex_asymm h
 ·rw [if_pos hl, decide_eq_true_eq] at h
  rw [if_pos (fun h => hl h.symm)]
  exact decide_eq_false (by omega)
theorem less_ge_trans {a b c : Cyc} (h1 : lessR a b = false) (h2 : lessR b c = false) : lessR a c = false := by
 unfold lessR at h1 h2 ⊢
 by_cases l1 : a.1.length = b.1.length
 ·rw [if_neg (fun h => h l1)] at h1
  by_cases l2 : b.1.length = c.1.length
  ·rw [if_neg (fun h => h l2)] at h2
   rw [if_neg (fun h => h (l1.trans l2))]
   by_cases e1 : a.1 = b.1
   ·rw [if_pos e1] at h1
    by_cases e2 : b.1 = c.1
    ·rw [if_pos e2] at h2
     rw [if_pos (e1.trans e2)]
     exact lex_ge_trans h1 h2
    ·rw [if_neg e2] at h2
     rw [if_neg (by rw [e1]; exact e2), e1]
     exact h2
   ·rw [if_neg e1] at h1
    by_cases e2 : b.1 = c.1
    ·rw [← e2, if_neg e1]
     exact h1
    ·rw [if_neg e2] at h2
     have h3 := lex_ge_trans h1 h2
     by_cases e3 : a.1 = c.1
     ·exfalso
      rw [e3] at h1
      exact e2 (lex_eq h2 h1)
     ·rw [if_neg e3]
      exact h3
  ·rw [if_pos l2, decide_eq_false_iff_not] at h2
   rw [if_pos (by rw [l1]; exact l2)]
   exact decide_eq_false (by omega)
 ·rw [if_pos l1, decide_eq_false_iff_not] at h1
  by_cases l2 : b.1.length = c.1.length
  ·rw [if_pos (by rw [← l2]; exact l1)]
   exact decide_eq_false (by omega)
  ·rw [if_pos l2, decide_eq_false_iff_not] at h2
   rw [if_pos (by omega)]
   exact decide_eq_false (by omega)
structure Bst (es : List Ed) (own : Int) (b b' : Option Cyc) : Prop where
 is : ∀ c, b' = some c → b = some c ∨ IsC es own c.1 c.2
 up : ∀ c, b = some c → ∃ c', b' = some c' ∧ lessR c c' = false
theorem Bst.refl (es : List Ed) (own : Int) (b : Option Cyc) : Bst es own b b := ⟨fun _ h => .inl h, fun c h => ⟨c, h, less_refl c⟩⟩
theorem Bst.trans {es : List Ed} {own : Int} {b b' b'' : Option Cyc} (h : Bst es own b b') (h' : Bst es own b' b'') : Bst es own b b'' := by
 refine ⟨fun c hc => ?_, fun c hc => ?_⟩
 ·rcases h'.is c hc with h1 | h1
  ·exact h.is c h1
  ·exact .inr h1
 ·obtain ⟨c1, h1, h2⟩ := h.up c hc
  obtain ⟨c2, h3, h4⟩ := h'.up c1 h1
  exact ⟨c2, h3, less_ge_trans h2 h4⟩
def Cvd (b : Option Cyc) (c : Cyc) : Prop := ∃ c', b = some c' ∧ lessR c c' = false
theorem Cvd.up {es : List Ed} {own : Int} {b b' : Option Cyc} {c : Cyc} (h : Cvd b c) (hb : Bst es own b b') : Cvd b' c := by
 obtain ⟨c1, h1, h2⟩ := h
 obtain ⟨c2, h3, h4⟩ := hb.up c1 h1
 exact ⟨c2, h3, less_ge_trans h2 h4⟩
structure Exw (ids ks : List Int) (c : Cyc) : Prop where
 pre : ids <+: c.1
 ks : ks = c.2.take (ids.length - 1)
def nxtE (n : Nat) (c : Cyc) : Ed := ⟨c.1.getD (n - 1) 0, c.1.getD (n % c.1.length) 0, c.2.getD (n - 1) 0⟩
structure Frm (es : List Ed) (own : Int) (ids ks : List Int) (b b' : Option Cyc) : Prop where
 bst : Bst es own b b'
 all : ∀ c, IsC es own c.1 c.2 → Exw ids ks c → Cvd b' c
structure Lps (es : List Ed) (own : Int) (ids ks : List Int) (b : Option Cyc) (i : Nat) (b' : Option Cyc) : Prop where
 bst : Bst es own b b'
 all : ∀ c, IsC es own c.1 c.2 → Exw ids ks c → (∃ j, j < i ∧ es[j]? = some (nxtE ids.length c)) → Cvd b' c
theorem Lps.start (es : List Ed) (own : Int) (ids ks : List Int) (b : Option Cyc) : Lps es own ids ks b 0 b := ⟨.refl .., fun _ _ _ ⟨_, h, _⟩ => by omega⟩
section
variable {es : List Ed} {own : Int} {ids ks : List Int} {b b' : Option Cyc}
theorem Frm.cut {c0 : Cyc} (hb : b = some c0) (hl : c0.1.length < ids.length) : Frm es own ids ks b b := by
 refine ⟨.refl .., fun c _ h => ⟨c0, hb, ?_⟩⟩
 have := h.pre.length_le
 unfold lessR
 rw [if_pos (by omega)]
 exact decide_eq_false (by omega)
theorem Exw.at_ {c : Cyc} (h : Exw ids ks c) {i : Nat} (hi : i < ids.length) : c.1.getD i 0 = ids.getD i 0 := by
 obtain ⟨t, ht⟩ := h.pre
 rw [← ht, List.getD_eq_getElem?_getD, List.getD_eq_getElem?_getD, List.getElem?_append_left hi]
theorem nxt_in {c : Cyc} (hc : IsC es own c.1 c.2) (h : Exw ids ks c) (h0 : 0 < ids.length) : nxtE ids.length c ∈ es := by
 have hl := h.pre.length_le
 have := hc.ed (ids.length - 1) (by omega)
 rw [show ids.length - 1 + 1 = ids.length by omega] at this
 exact this
theorem Lps.skip {i : Nat} {x : Ed} (h : Lps es own ids ks b i b') (hx : es[i]? = some x) (h0 : 0 < ids.length) (hn : x.fr ≠ ids.getD (ids.length - 1) 0 ∨ ¬ x.kd ≤ own) : Lps es own ids ks b (i + 1) b' := by
 refine ⟨h.bst, fun c hc he ⟨j, hj, hje⟩ => ?_⟩
 by_cases e : j = i
 ·exfalso
  subst e
  rw [hx] at hje
  obtain rfl := Option.some.inj hje
  rcases hn with hn | hn
  ·exact hn (he.at_ (by omega))
  ·refine hn (hc.le _ ?_)
   have hl := he.pre.length_le
   show c.2.getD (ids.length - 1) 0 ∈ c.2
   rw [List.getD_eq_getElem?_getD, gEg (by rw [hc.len]; omega)]
   exact gmm _
 ·exact h.all c hc he ⟨j, by omega, hje⟩
theorem Lps.go {i : Nat} {x : Ed} {b1 b2 : Option Cyc} (h : Lps es own ids ks b i b') (hx : es[i]? = some x) (h0 : 0 < ids.length)
  (hA : (IsC es own ids (ks ++ [x.kd]) ∧ (∀ c0, b' = some c0 → lessR (ids, ks ++ [x.kd]) c0 = true) ∧ b1 = some (ids, ks ++ [x.kd])) ∨ (b1 = b' ∧ (x.to = ids.getD 0 0 → IsC es own ids (ks ++ [x.kd]) → Cvd b' (ids, ks ++ [x.kd]))))
  (hB : Frm es own (ids ++ [x.to]) (ks ++ [x.kd]) b1 b2 ∨ (b2 = b1 ∧ (x.to ∈ ids ∨ ¬ ids.getD 0 0 < x.to))) : Lps es own ids ks b (i + 1) b2 := by
 have u1 : Bst es own b' b1 := by
  rcases hA with ⟨a1, a2, rfl⟩ | ⟨rfl, _⟩
  ·refine ⟨fun c hc => .inr (by obtain rfl := Option.some.inj hc; exact a1), fun c hc => ⟨_, rfl, less_asymm (a2 c hc)⟩⟩
  ·exact .refl ..
 have u2 : Bst es own b1 b2 := by
  rcases hB with hB | ⟨rfl, _⟩
  ·exact hB.bst
  ·exact .refl ..
 refine ⟨(h.bst.trans u1).trans u2, fun c hc he ⟨j, hj, hje⟩ => ?_⟩
 by_cases e : j = i
 ·subst e
  rw [hx] at hje
  have hxn := Option.some.inj hje
  have hl := he.pre.length_le
  have hkd : c.2.getD (ids.length - 1) 0 = x.kd := by rw [hxn]; rfl
  have hto : x.to = c.1.getD (ids.length % c.1.length) 0 := by rw [hxn]; rfl
  have hk1 : c.2.take ids.length = ks ++ [x.kd] := by
   have hlt : ids.length - 1 < c.2.length := by rw [hc.len]; omega
   rw [show ids.length = ids.length - 1 + 1 by omega, tao, ← he.ks, gEg hlt, ← hkd, List.getD_eq_getElem?_getD, gEg hlt]
   rfl
  by_cases hlen : c.1.length = ids.length
  ·have e1 : ids = c.1 := he.pre.eq_of_length hlen.symm
   have e2 : c.2 = ks ++ [x.kd] := by rw [← hk1, ← hlen, ← hc.len, tkl]
   have hce : c = (ids, ks ++ [x.kd]) := Prod.ext e1.symm e2
   rw [hlen, Nat.mod_self, he.at_ (by omega)] at hto
   refine Cvd.up ?_ u2
   rcases hA with ⟨_, _, rfl⟩ | ⟨rfl, a2⟩
   ·rw [hce]; exact ⟨_, rfl, less_refl _⟩
   ·rw [hce]
    refine a2 hto ?_
    rw [hce] at hc
    exact hc
  ·have hlt : ids.length < c.1.length := by omega
   rw [Nat.mod_eq_of_lt hlt] at hto
   have hat : c.1[ids.length]? = some x.to := by rw [hto, List.getD_eq_getElem?_getD, gEg hlt]; rfl
   have hpre : ids ++ [x.to] <+: c.1 := by
    obtain ⟨t, ht⟩ := he.pre
    rw [← ht, List.getElem?_append_right (lr _), Nat.sub_self] at hat
    cases t with
    | nil => simp at hat
    | cons y t =>
     rw [List.getElem?_cons_zero] at hat
     rw [← Option.some.inj hat]
     exact ⟨t, by rw [← ht]; simp⟩
   have hni : x.to ∉ ids := fun hm => by
    have := hpre.sublist.nodup hc.nd
    rw [List.nodup_append] at this
    exact this.2.2 _ hm _ (by simp) rfl
   have hgt : ids.getD 0 0 < x.to := by
    have h1 := hc.fst x.to (List.mem_of_getElem? hat)
    rw [he.at_ h0] at h1
    have h2 : ids.getD 0 0 ∈ ids := by
     rw [List.getD_eq_getElem?_getD, gEg h0]
     exact gmm _
    have : ids.getD 0 0 ≠ x.to := fun h => hni (h ▸ h2)
    omega
   rcases hB with hB | ⟨_, hB⟩
   ·exact hB.all c hc ⟨hpre, by rw [lap, List.length_singleton, Nat.add_sub_cancel, hk1]⟩
   ·rcases hB with hB | hB
    ·exact absurd hB hni
    ·exact absurd hgt hB
 ·exact Cvd.up (Cvd.up (h.all c hc he ⟨j, by omega, hje⟩) u1) u2
theorem Lps.done (h : Lps es own ids ks b es.length b') (h0 : 0 < ids.length) : Frm es own ids ks b b' := by
 refine ⟨h.bst, fun c hc he => ?_⟩
 obtain ⟨j, hj, hje⟩ := List.getElem_of_mem (nxt_in hc he h0)
 exact h.all c hc he ⟨j, hj, by rw [gEg hj, hje]⟩
structure Tps (es : List Ed) (own : Int) (N : List Int) (i : Nat) (b : Option Cyc) : Prop where
 bst : Bst es own none b
 all : ∀ c, IsC es own c.1 c.2 → (∃ j, j < i ∧ N[j]? = some (c.1.getD 0 0)) → Cvd b c
theorem Tps.start (es : List Ed) (own : Int) (N : List Int) : Tps es own N 0 none := ⟨.refl .., fun _ _ ⟨_, h, _⟩ => by omega⟩
theorem Tps.go {N : List Int} {i : Nat} {f : Int} (h : Tps es own N i b) (hf : N[i]? = some f) (hF : Frm es own [f] [] b b') : Tps es own N (i + 1) b' := by
 refine ⟨h.bst.trans hF.bst, fun c hc ⟨j, hj, hje⟩ => ?_⟩
 by_cases e : j = i
 ·subst e
  rw [hf] at hje
  have hfe := Option.some.inj hje
  refine hF.all c hc ⟨?_, rfl⟩
  have h2 := hc.two
  cases hc1 : c.1 with
  | nil => rw [hc1] at h2; simp at h2
  | cons y t =>
   rw [hc1] at hfe
   rw [hfe]
   exact ⟨t, rfl⟩
 ·exact Cvd.up (h.all c hc ⟨j, by omega, hje⟩) hF.bst
theorem search_eq {N : List Int} {k : Int} (ho : ownR k = some own) (hN : N.Pairwise fun a b => a < b) (he : ∀ e ∈ es, e.fr ∈ N ∧ e.to ∈ N) (hto : ∀ e ∈ es, 0 ≤ e.to ∧ e.to < 65536) (hlp : ∀ e ∈ es, e.fr ≠ e.to) (h : Tps es own N N.length b) : shortR es N k = b := by
 have hall : ∀ c : Cyc, IsC es own c.1 c.2 → Cvd b c := fun c hc => by
  obtain ⟨j, hj, hje⟩ := List.getElem_of_mem (closed_node he hc.closed)
  exact h.all c hc ⟨j, hj, by rw [gEg hj, hje]⟩
 unfold shortR
 rw [ho]
 simp only
 by_cases hb : bestR es N own = []
 ·rw [if_pos hb]
  cases hbb : b with
  | none => rfl
  | some c =>
   exfalso
   rcases h.bst.is c hbb with h1 | h1
   ·cases h1
   ·exact (short_first hN he hto h1).1 hb
 ·rw [if_neg hb]
  have hI := sho_isC (best_sho hN he hto hlp hb) ⟨k, ho⟩
  obtain ⟨c, h1, h2⟩ := hall (bestR es N own, kindsR es own (bestR es N own)) hI
  rw [h1]
  have hc : IsC es own c.1 c.2 := by
   rcases h.bst.is c h1 with h3 | h3
   ·cases h3
   ·exact h3
  rw [less_eq h2 (short_first hN he hto hc).2]
end
end Go.AL.S
namespace Go.AL
variable {γ : G} {E : Env} {w : World} {W W2 : AW}
theorem RelE.takeE {s : Nat} : ∀ {xs : List V} {l : List Value} {m : Nat}, RelE γ s xs l → m ≤ xs.length → RelE γ s (xs.take m) (l.take (m * s))
 | _, _, 0, _, _ => by rw [List.take_zero, Nat.zero_mul, List.take_zero]; rfl
 | [], _, m + 1, _, h => by simp at h
 | x :: xs, _, m + 1, ⟨v, l', rfl, h0, h1, h2⟩, h => by
  have hs : v.cells.toList.length = s := by rw [Array.length_toList, h0]
  rw [List.take_succ_cons, show (m + 1) * s = v.cells.toList.length + m * s by rw [hs, Nat.succ_mul]; omega, List.take_length_add_append]
  exact ⟨v, _, rfl, h0, h1, RelE.takeE h2 (by simpa using h)⟩
theorem buf_sl {np : Bool} {r s m : Nat} {xs : List V} {v : Value} (hW : RelW E γ w W) (hg : W.get r = some (.buf np s xs)) (h0 : 0 < m) (hm : m ≤ xs.length) (h : RelV γ (.buf np r s m) v) : RelV γ (.sl s false (xs.take m)) v := by
 obtain ⟨hs, cur, g1, _⟩ := hW.obj r _ hg
 rcases h with ⟨b, hown, c, sz, cap, hcon, h1, h2, h3, rfl, h4⟩ | ⟨_, hm0, _⟩
 ·obtain ⟨c', sz', k, e1, e2, e3, e4, _⟩ := g1 b hown
  rw [hcon] at e1; cases e1
  have hmk : m ≤ k := Nat.le_of_mul_le_mul_right (by omega) hs
  have hl : (xs.take m).length = m := by rw [ltk]; omega
  refine ⟨b, [], c.take (m * s), c.drop (m * s), sz, cap, by simpa using hcon, ?_, by rw [hl]; rfl, by rw [hl]; exact h3, by simp, by rw [hl]; exact h4⟩
  have := RelE.takeE e4 (m := m) (by rw [ltk]; omega)
  rwa [List.take_take, Nat.min_eq_left hmk] at this
 ·omega
def Says (E : Env) (W : AW) (x y : V) : Prop := ∀ γ w v, RelW E γ w W → RelV γ x v → RelV γ y v
theorem Says.refl {x : V} : Says E W x x := fun _ _ _ _ h => h
theorem Says.buf {np : Bool} {r s m : Nat} {xs : List V} (hg : W.get r = some (.buf np s xs)) (h0 : 0 < m) (hm : m ≤ xs.length) : Says E W (.buf np r s m) (.sl s false (xs.take m)) := fun _ _ _ hW h => buf_sl hW hg h0 hm h
inductive SaysL (E : Env) (W : AW) : List V → List V → Prop where
 | nil : SaysL E W [] []
 | cons {x y : V} {xs ys : List V} : Says E W x y → SaysL E W xs ys → SaysL E W (x :: xs) (y :: ys)
theorem SaysL.rel {xs ys : List V} (h : SaysL E W xs ys) (hW : RelW E γ w W) : ∀ {l : List Value}, RelL γ xs l → RelL γ ys l := by
 induction h with
 | nil => exact fun h => h
 | cons h1 _ ih =>
  rintro _ ⟨v, l', rfl, a, b⟩
  exact ⟨v, l', rfl, h1 _ _ _ hW a, ih b⟩
theorem Says.agg {xs ys : List V} (h : SaysL E W xs ys) : Says E W (.agg xs) (.agg ys) := fun _ _ _ hW ⟨vs, e, hv⟩ => ⟨vs, e, h.rel hW hv⟩
theorem ACalls.says {f : FuncId} {xs ys : List V} {Q : V → AW → Prop} (h : SaysL E W xs ys) (hc : ACalls E f ys W Q) : ACalls E f xs W Q :=
 ⟨hc.1, fun hE γ w ws hW hr => hc.2 hE γ w ws hW (h.rel hW hr)⟩
theorem RelW.row {r : Nat} {xs ys : List V} (hW : RelW E γ w W) (hg : W.get r = some (.row xs)) (h : SaysL E W xs ys) : RelW E γ w (W.put r (.row ys)) := by
 have key : ∀ x o, (W.put r (.row ys)).get x = some o → ∃ o', W.get x = some o' := fun x o hx => by
  by_cases e : x = r
  ·subst e; exact ⟨_, hg⟩
  ·rw [AW.put] at hx; simp only [if_neg e] at hx; exact ⟨_, hx⟩
 refine ⟨hW.below, hW.base, hW.con, hW.own, fun x o hx => ?_, hW.bd, fun x o hx => ?_, fun x x' o o' b hx hx' => ?_, fun x o b hx => ?_, hW.glob, hW.dfr, hW.dfrB, hW.ext, hW.n0⟩
 ·by_cases e : x = r
  ·subst e
   simp only [AW.put, if_true] at hx
   obtain rfl := Option.some.inj hx
   obtain ⟨b, c, e, h1, h2, h3⟩ := hW.obj _ _ hg
   exact ⟨b, c, e, h1, h2, h.rel hW h3⟩
  ·simp only [AW.put, if_neg e] at hx
   exact hW.obj x o hx
 ·obtain ⟨o', h'⟩ := key x o hx
  exact hW.lt x o' h'
 ·obtain ⟨o1, h1⟩ := key x o hx
  obtain ⟨o2, h2⟩ := key x' o' hx'
  exact hW.inj x x' o1 o2 b h1 h2
 ·obtain ⟨o1, h1⟩ := key x o hx
  exact hW.apart x o1 b h1
theorem ACalls.row {f : FuncId} {xs ys vs : List V} {r : Nat} {Q : V → AW → Prop} (hg : W.get r = some (.row xs)) (h : SaysL E W xs ys) (hc : ACalls E f vs (W.put r (.row ys)) Q) : ACalls E f vs W Q :=
 ⟨hc.1, fun hE γ w ws hW hr => hc.2 hE γ w ws (hW.row hg h) hr⟩
end Go.AL
namespace Go.AL
theorem ACalls.after {E : Env} {f : FuncId} {vs : List V} {W : AW} {Q Q2 : V → AW → Prop} (h : ACalls E f vs W Q) (hq : ∀ Y W', Q Y W' → ∃ Y2 W2, W2.nx = W'.nx ∧ (∀ γ w, RelW E γ w W' → RelW E γ w W2) ∧ Says E W' Y Y2 ∧ Q2 Y2 W2) : ACalls E f vs W Q2 :=
 ⟨h.1, fun hE γ w ws hW hr => (h.2 hE γ w ws hW hr).mono fun e w' ⟨v, γ', Y, W', g1, g2, g3, g4, g5, g6⟩ => by
  obtain ⟨Y2, W2, a1, a2, a3, a4⟩ := hq Y W' g6
  exact ⟨v, γ', Y2, W2, g1, g2, by omega, a2 _ _ g4, a3 _ _ _ g4 g5, a4⟩⟩
end Go.AL
namespace Go.AL.S
open Go Go.AL Go.AL.SE Go.Proofs
def c_rFrom_1 : AC := (.seq (.r [.m 120 13,.m 121 1,.u 122 (.len 1 0) 121,.b 123 (.bin .lss) 120 122] (.w 123 2)) (.seq (.block 3 (.par (.step 0 (.m 126 12) (.step 1 (.m 127 126) (.step 2 (.M 128 1 127 false) (.step 3 (.M 129 13 127 false) (.step 6 (.U 132 (.fld 1) 8 127 false) (.step 4 (.B 130 (.idxp 1) 128 129 127 false) (.step 5 (.U 131 (.load false 1) 130 127 false) (.step 7 (.U 133 (.load false 1) 132 127 false) (.step 8 (.B 134 (.bin .eql) 131 133 127 false) (.step 9 (.p 135 .pick [.t 127,.T,.t 134]) (.step 10 (.m 12 135) .done))))))))))))) (.reg [.m 124 13,.a 125 (.bin .add) 124 1,.m 13 125])))
def c_rFrom_0 : AC := (.seq (.r [.m 35 7,.m 36 0,.u 37 .nilck 36,.u 38 (.fld 0) 37,.u 39 (.load false 1) 38,.u 40 (.len 1 0) 39,.b 41 (.bin .lss) 35 40] (.w 41 0)) (.seq (.block 1 (.r [.m 44 0,.u 45 .nilck 44,.u 46 (.fld 0) 45,.u 47 (.load false 1) 46,.m 48 7,.b 49 (.idxp 3) 47 48,.u 50 (.load true 3) 49,.p 8 (.alloc [.int .u16 0,.int .u16 0,.int .u8 0]) [],⟨none,.store 3, [.t 8,.t 50], none⟩] (.seq (.seq (.par (.step 0 (.u 51 (.fld 0) 8) (.step 2 (.m 53 6) (.step 1 (.u 52 (.load false 1) 51) (.step 3 (.b 54 (.bin .neq) 52 53) (.step 4 (.m 55 54) (.step 5 (.U 56 (.fld 2) 8 55 false) (.step 8 (.M 59 0 55 false) (.step 9 (.U 60 .nilck 59 55 false) (.step 10 (.U 61 (.fld 1) 60 55 false) (.step 6 (.U 57 (.load false 1) 56 55 false) (.step 7 (.U 58 (.conv .i64) 57 55 false) (.step 11 (.U 62 (.load false 1) 61 55 false) (.step 12 (.U 63 (.pcall 45) 62 55 false) (.step 13 (.B 64 (.bin .gtr) 58 63 55 false) (.step 14 (.p 65 .pick [.t 55,.T,.t 64]) .done)))))))))))))))) (.cond (.t 65) (.exit 1) .skip)) (.r [.v 9 (.nilsl)] (.r [.v 10 (.nilsl)] (.r [.m 66 9,.m 67 1,.b 68 (.append 1 2) 66 67,.m 9 68] (.r [.m 69 10,.m 70 2,.b 71 (.append 1 1) 69 70,.m 10 71] (.r [.m 72 10,.u 73 (.fld 2) 8,.u 74 (.load false 1) 73,.u 75 (.bslice 1 1 (.int .u8 0) [0]) 74,.b 76 (.append 1 1) 72 75,.m 10 76] (.r [.m 77 9,.m 78 10,.b 79 (.build [.nilsl,.nilsl] [(0, 1), (1, 1)]) 77 78,.p 11 (.alloc [.nilsl,.nilsl]) [],⟨none,.store 2, [.t 11,.t 79], none⟩] (.seq (.seq (.par (.step 0 (.u 80 (.fld 1) 8) (.step 2 (.m 82 1) (.step 1 (.u 81 (.load false 1) 80) (.step 3 (.a 83 (.idxp 1) 82 0) (.step 4 (.u 84 (.load false 1) 83) (.step 5 (.b 85 (.bin .eql) 81 84) (.step 6 (.m 86 85) (.step 7 (.M 87 0 86 true) (.step 8 (.U 88 .nilck 87 86 true) (.step 9 (.U 89 (.fld 0) 88 86 true) (.step 11 (.M 91 0 86 true) (.step 12 (.U 92 .nilck 91 86 true) (.step 13 (.U 93 (.fld 1) 92 86 true) (.step 10 (.U 90 (.load false 1) 89 86 true) (.step 14 (.U 94 (.load false 1) 93 86 true) (.step 15 (.U 95 (.load true 2) 11 86 true) (.step 16 (.P 96 (.call 24) [.t 90,.t 94,.t 95] 86 true) (.step 17 (.p 97 .pick [.t 86,.t 96,.F]) (.step 18 (.m 98 97) (.step 19 (.M 99 0 98 true) (.step 20 (.U 100 .nilck 99 98 true) (.step 21 (.U 101 (.fld 4) 100 98 true) (.step 22 (.U 102 (.load false 1) 101 98 true) (.step 23 (.U 103 (.un .not) 102 98 true) (.step 24 (.M 104 103 98 true) (.step 26 (.M 106 0 104 false) (.step 27 (.U 107 .nilck 106 104 false) (.step 28 (.U 108 (.fld 2) 107 104 false) (.step 25 (.U 105 (.load true 2) 11 104 false) (.step 29 (.U 109 (.load true 2) 108 104 false) (.step 30 (.B 110 (.call 27) 105 109 104 false) (.step 31 (.P 111 .pick [.t 104,.T,.t 110] 98 true) (.step 32 (.p 112 .pick [.t 98,.t 111,.F]) .done)))))))))))))))))))))))))))))))))) (.cond (.t 112) (.r [.m 113 0,.u 114 (.load true 2) 11,.u 115 .nilck 113,.u 116 (.fld 2) 115,⟨none,.store 2, [.t 116,.t 114], none⟩] (.reg [.m 117 0,.u 118 .nilck 117,.u 119 (.fld 4) 118,⟨none,.store 1, [.t 119,.c (.bool true)], none⟩])) .skip)) (.r [.v 12 (.bool false)] (.seq (.r [.v 13 (.int .i64 0)] (.block 2 (.loop c_rFrom_1))) (.seq (.par (.step 0 (.m 136 12) (.step 1 (.u 137 (.un .not) 136) (.step 2 (.m 138 137) (.step 3 (.U 139 (.fld 1) 8 138 true) (.step 5 (.M 141 1 138 true) (.step 4 (.U 140 (.load false 1) 139 138 true) (.step 6 (.P 142 (.idxp 1) [.t 141,.i 0] 138 true) (.step 7 (.U 143 (.load false 1) 142 138 true) (.step 8 (.B 144 (.bin .gtr) 140 143 138 true) (.step 9 (.p 145 .pick [.t 138,.t 144,.F]) .done))))))))))) (.cond (.t 145) (.reg [.m 146 0,.m 147 9,.u 148 (.fld 1) 8,.u 149 (.load false 1) 148,.u 150 (.bslice 1 1 (.int .u16 0) [0]) 149,.b 151 (.append 1 2) 147 150,.m 152 10,.p 153 (.call 46) [.t 146,.t 151,.t 152]]) .skip)))))))))))))) (.reg [.m 42 7,.a 43 (.bin .add) 42 1,.m 7 43])))
def c_rFrom : AC := (.seq (.r [.m 14 0,.u 15 .nilck 14,.u 16 (.fld 4) 15,.u 17 (.load false 1) 16,.m 18 17,.M 19 1 18 true,.U 20 (.len 1 0) 19 18 true,.M 21 0 18 true,.U 22 .nilck 21 18 true,.U 23 (.fld 2) 22 18 true,.U 24 (.fld 0) 23 18 true,.U 25 (.load false 1) 24 18 true,.U 26 (.len 1 0) 25 18 true,.B 27 (.bin .gtr) 20 26 18 true,.p 28 .pick [.t 18,.t 27,.F]] (.cond (.t 28) .ret .skip)) (.r [.m 29 1,.m 30 1,.u 31 (.len 1 0) 30,.a 32 (.bin .sub) 31 1,.b 33 (.idxp 1) 29 32,.u 34 (.load false 1) 33,.m 6 34] (.r [.v 7 (.int .i64 0)] (.block 0 (.loop c_rFrom_0)))))
theorem ok_rFrome : compF Tryz.prog Tryz.f46 ⟨false, false, []⟩ = some (c_rFrom, [], 154) := by kernel_rfl
variable {E : Env}
def rdS (W : AW) (s : Nat) (v : V) (xs : List V) : Prop := v = .sl s false xs ∨ ∃ r m ys, v = .buf true r s m ∧ W.get r = some (.buf true s ys) ∧ r < W.nx ∧ 0 < m ∧ m ≤ ys.length ∧ xs = ys.take m
def ovV : Option (List V) → V
 | none => .nilsl
 | some xs => .sl 1 false xs
def rdO (W : AW) (v : V) : Option (List V) → Prop
 | none => v = .nilsl
 | some xs => rdS W 1 v xs
section
variable {W W' : AW} {s : Nat} {v : V} {xs : List V} {o : Option (List V)}
theorem rdS.says (h : rdS W s v xs) : Says E W v (.sl s false xs) := by
 rcases h with rfl | ⟨r, m, ys, rfl, h1, _, h3, h4, rfl⟩
 ·exact .refl
 ·exact Says.buf h1 h3 h4
theorem rdS.to (h : rdS W s v xs) (hn : W.nx ≤ W'.nx) (hg : ∀ r, r < W.nx → (∃ ys, W.get r = some (.buf true s ys)) → W'.get r = W.get r) : rdS W' s v xs := by
 rcases h with h | ⟨r, m, ys, rfl, h1, h2, h3, h4, rfl⟩
 ·exact .inl h
 ·exact .inr ⟨r, m, ys, rfl, by rw [hg r h2 ⟨_, h1⟩]; exact h1, by omega, h3, h4, rfl⟩
theorem rdS.put {r0 : Nat} {ys zs : List V} (h : rdS W s v xs) (hg : W.get r0 = some (.buf true s ys)) : rdS (W.put r0 (.buf true s (ys ++ zs))) s v xs := by
 rcases h with h | ⟨r, m, ys', rfl, h1, h2, h3, h4, rfl⟩
 ·exact .inl h
 ·by_cases e : r = r0
  ·subst e
   rw [h1] at hg
   cases hg
   exact .inr ⟨r, m, _, rfl, put_at, by rw [put_nx]; exact h2, h3, by rw [lap]; omega, by rw [List.take_append_of_le_length h4]⟩
  ·exact .inr ⟨r, m, ys', rfl, by rw [put_ne e]; exact h1, by rw [put_nx]; exact h2, h3, h4, rfl⟩
theorem rdO.says (h : rdO W v o) : Says E W v (ovV o) := by
 cases o with
 | none => rw [show v = .nilsl from h]; exact .refl
 | some xs => exact rdS.says h
theorem rdO.to (h : rdO W v o) (hn : W.nx ≤ W'.nx) (hg : ∀ r, r < W.nx → W'.get r = W.get r) : rdO W' v o := by
 cases o with
 | none => exact h
 | some xs => exact rdS.to h hn fun r hr _ => hg r hr
theorem rdO.put {r0 : Nat} {ys zs : List V} (h : rdO W v o) (hg : W.get r0 = some (.buf true 1 ys)) : rdO (W.put r0 (.buf true 1 (ys ++ zs))) v o := by
 cases o with
 | none => exact h
 | some xs => exact rdS.put h hg
theorem rdO.of : rdO W (ovV o) o := by
 cases o with
 | none => rfl
 | some xs => exact .inl rfl
end
def bv1 (b : Option Cyc) : Option (List V) := b.map fun c => intsV c.1
def bv2 (b : Option Cyc) : Option (List V) := b.map fun c => u8s c.2
structure Sr (W : AW) (q : Nat) (vL : V) (k : Int) (b : Option Cyc) : Prop where
 ex : ∃ b1 b2, W.get q = some (.row [vL, .int .u8 k, b1, b2, .bool b.isSome]) ∧ rdO W b1 (bv1 b) ∧ rdO W b2 (bv2 b)
 lq : q < W.nx
structure SrF (W : AW) (q : Nat) (vL : V) (k : Int) (b : Option Cyc) : Prop where
 row : W.get q = some (.row [vL, .int .u8 k, ovV (bv1 b), ovV (bv2 b), .bool b.isSome])
 lq : q < W.nx
section
variable {W W' : AW} {q : Nat} {vL : V} {k : Int} {b : Option Cyc}
theorem SrF.sr (h : SrF W q vL k b) : Sr W q vL k b := ⟨⟨_, _, h.row, .of, .of⟩, h.lq⟩
theorem Sr.to (h : Sr W q vL k b) (hn : W.nx ≤ W'.nx) (hg : ∀ r, r < W.nx → W'.get r = W.get r) : Sr W' q vL k b := by
 obtain ⟨⟨b1, b2, h1, h2, h3⟩, h4⟩ := h
 exact ⟨⟨b1, b2, by rw [hg q h4]; exact h1, h2.to hn hg, h3.to hn hg⟩, by omega⟩
theorem Sr.put {r0 : Nat} {ys zs : List V} (h : Sr W q vL k b) (hg : W.get r0 = some (.buf true 1 ys)) : Sr (W.put r0 (.buf true 1 (ys ++ zs))) q vL k b := by
 obtain ⟨⟨b1, b2, h1, h2, h3⟩, h4⟩ := h
 have : q ≠ r0 := by rintro rfl; rw [h1] at hg; cases hg
 exact ⟨⟨b1, b2, by rw [put_ne this]; exact h1, h2.put hg, h3.put hg⟩, by rw [put_nx]; exact h4⟩
theorem Sr.frz (h : Sr W q vL k b) : ∃ xs, W.get q = some (.row xs) ∧ SaysL E W xs [vL, .int .u8 k, ovV (bv1 b), ovV (bv2 b), .bool b.isSome] := by
 obtain ⟨⟨b1, b2, h1, h2, h3⟩, _⟩ := h
 exact ⟨_, h1, .cons .refl (.cons .refl (.cons h2.says (.cons h3.says (.cons .refl .nil))))⟩
theorem Sr.call {f : FuncId} {vs : List V} {Q : V → AW → Prop} (h : Sr W q vL k b) (hc : ∀ W2, SrF W2 q vL k b → W2.nx = W.nx → (∀ x, x ≠ q → W2.get x = W.get x) → ACalls E f vs W2 Q) : ACalls E f vs W Q := by
 obtain ⟨xs, h1, h2⟩ := h.frz (E := E)
 exact ACalls.row h1 h2 (hc _ ⟨put_at, by rw [put_nx]; exact h.lq⟩ put_nx fun x hx => put_ne hx)
end
def FromQ (S : AW → Nat → V → Int → Option Cyc → Prop) (L : List Ed) (own : Int) (ids ks : List Int) (b : Option Cyc) (W : AW) (q : Nat) (vL : V) (k : Int) (Y : V) (W' : AW) : Prop :=
 Y = .tuple [] ∧ ∃ b', Frm L own ids ks b b' ∧ S W' q vL k b' ∧ Cl W' ∧ W.nx ≤ W'.nx ∧ ∀ x, x < W.nx → x ≠ q → W'.get x = W.get x
theorem FromQ.after {L : List Ed} {own : Int} {ids ks : List Int} {b : Option Cyc} {W : AW} {q : Nat} {vL : V} {k : Int} {f : FuncId} {vs : List V} (h : ACalls E f vs W (FromQ Sr L own ids ks b W q vL k)) : ACalls E f vs W (FromQ SrF L own ids ks b W q vL k) := by
 refine h.after ?_
 rintro Y W' ⟨rfl, b', h1, h2, h3, h4, h5⟩
 obtain ⟨xs, g1, g2⟩ := h2.frz (E := E)
 exact ⟨_, W'.put q (.row [vL, .int .u8 k, ovV (bv1 b'), ovV (bv2 b'), .bool b'.isSome]), put_nx, fun γ w hW => hW.row g1 g2, .refl, rfl, b', h1, ⟨put_at, by rw [put_nx]; exact h2.lq⟩, h3.put h2.lq, by rw [put_nx]; exact h4, fun x hx hn => by rw [put_ne hn]; exact h5 x hx hn⟩
theorem app_nil {W : AW} {K : V → AW → Prop} {v : V} {xs : List V} {lo by' : Nat} (h : isS 1 v xs) (hb : xs.length * by' ≤ 2 ^ 46) (hC : Cl W) (hlo : lo ≤ W.nx) (hk : ∀ o W', nowG W' o xs 1 lo → Ex W W' → K o W') : sem E (.append 1 by') [.nilsl, v] W K := by
 have he : elemsV 1 W v = some xs := by
  rcases h with ⟨rfl, rfl⟩ | ⟨rfl, rfl⟩ | ⟨f, rfl⟩
  ·rfl
  ·rfl
  ·simp [elemsV]
 cases xs with
 | nil =>
  simp only [sem, he]
  exact ⟨by decide, hb, hk _ _ (.inl ⟨rfl, rfl⟩) (Ex.refl hC)⟩
 | cons a l =>
  have hem : (a :: l).isEmpty = false := rfl
  simp only [sem, he, hem]
  refine ⟨by decide, hb, ?_⟩
  rw [if_neg (by decide)]
  refine hk _ _ (.inr ⟨W.nx, hlo, by rw [alloc_nx]; omega, rfl, List.cons_ne_nil _ _, alloc_at⟩) ⟨fun x hx => ?_, by rw [alloc_nx]; omega, fun x hx => alloc_lt hx⟩
  rw [alloc_nx] at hx
  rw [al_gets, if_neg (by omega)]
  exact hC x (by omega)
theorem app_now3 {W : AW} {K : V → AW → Prop} {h x : V} {xs : List V} {s lo by' : Nat} (hn : nowG W h xs s lo) (hC : Cl W) (hlo : lo ≤ W.nx) (hs : 0 < s) (hx : x.cells.all V.one = true) (hb : (xs.length + 1) * by' ≤ 2 ^ 46)
  (hK : ∀ r W', lo ≤ r → r < W'.nx → W'.get r = some (.buf true s (xs ++ [x])) → Cl W' → W.nx ≤ W'.nx → (∀ y, y < W.nx → y ≠ r → W'.get y = W.get y) → K (.buf true r s (xs.length + 1)) W') : sem E (.append s by') [h, .sl s true [x]] W K := by
 rcases hn with ⟨rfl, rfl⟩ | ⟨r, h1, h2, rfl, h4, h5⟩
 ·have e : sem E (.append s by') [.nilsl, .sl s true [x]] W K = K (.buf true W.nx s 1) (W.alloc (.buf true s [x])) := by
   simp [sem, elemsV, hs]
   intro; simp at hb; omega
  rw [e]
  refine hK _ _ hlo (by rw [alloc_nx]; omega) alloc_at ?_ (by rw [alloc_nx]; omega) (fun y hy _ => alloc_lt hy)
  intro y hy
  rw [alloc_nx] at hy
  rw [al_gets, if_neg (by omega)]
  exact hC y (by omega)
 ·have e : sem E (.append s by') [.buf true r s xs.length, .sl s true [x]] W K = K (.buf true r s (xs.length + 1)) (W.put r (.buf true s (xs ++ [x]))) := by
   simp only [sem, elemsV, if_true, h5, lcs, List.length_nil, Nat.zero_add, List.all_cons, List.all_nil, Bool.and_true, hx]
   exact propext ⟨fun h => h.2.2.2.2.2.2.2, fun h => ⟨hs, tt, tt, tt, tt, hb, tt, h⟩⟩
  rw [e]
  exact hK _ _ h1 (by rw [put_nx]; exact h2) put_at (hC.put h2) (by rw [put_nx]; omega) (fun y _ hne => put_ne hne)
theorem bK8 {W : AW} {K : V → AW → Prop} {a : Int} : sem E (.bslice 1 1 (.int .u8 0) [0]) [.int .u8 a] W K = K (.sl 1 true [.int .u8 a]) W := id rfl
theorem bK16 {W : AW} {K : V → AW → Prop} {a : Int} : sem E (.bslice 1 1 (.int .u16 0) [0]) [.int .u16 a] W K = K (.sl 1 true [.int .u16 a]) W := id rfl
structure RgF (A : AFr) (q : Nat) (v1 v2 : V) (last : Int) (i : Nat) : Prop where
 a0 : A 0 = some (.ptr q 0)
 a1 : A 1 = some v1
 a2 : A 2 = some v2
 a6 : A 6 = some (.int .u16 last)
 a7 : A 7 = some (.int .i64 (i : Nat))
structure RgG (A : AFr) (q : Nat) (v1 v2 : V) (last : Int) (i r8 r9 n9 r10 n10 : Nat) : Prop extends RgF A q v1 v2 last i where
 a8 : A 8 = some (.ptr r8 0)
 a9 : A 9 = some (.buf true r9 1 n9)
 a10 : A 10 = some (.buf true r10 1 n10)
structure Wf (W1 W' : AW) (q r8 r9 r10 : Nat) (x : Ed) (ids ks : List Int) : Prop where
 cl : Cl W'
 nx : W1.nx ≤ W'.nx
 old : ∀ y, y < W1.nx → y ≠ q → W'.get y = W1.get y
 g8 : W'.get r8 = some (.row [.int .u16 x.fr, .int .u16 x.to, .int .u8 x.kd])
 g9 : W'.get r9 = some (.buf true 1 (intsV ids))
 g10 : W'.get r10 = some (.buf true 1 (u8s (ks ++ [x.kd])))
 l8 : W1.nx ≤ r8 ∧ r8 < W'.nx
 l9 : W1.nx ≤ r9 ∧ r9 < W'.nx
 l10 : W1.nx ≤ r10 ∧ r10 < W'.nx
 ne : r9 ≠ r10
theorem there_go {W0 : AW} {q : Nat} {v1 v2 : V} {last : Int} {i r8 r9 n9 r10 n10 : Nat} {x : Ed} {ids : List Int} (i1 : isS 1 v1 (intsV ids)) (l1 : ids.length < 2 ^ 20) (g8 : W0.get r8 = some (.row [.int .u16 x.fr, .int .u16 x.to, .int .u8 x.kd])) {A : AFr} {Q : Exit → AFr → AW → Prop} (hR : RgG A q v1 v2 last i r8 r9 n9 r10 n10) (a12 : A 12 = some (.bool false)) (a13 : A 13 = some (.int .i64 0))
  (hex : ∀ A', RgG A' q v1 v2 last i r8 r9 n9 r10 n10 → A' 12 = some (.bool (decide (x.to ∈ ids))) → Q (.exit 2) A' W0) : ALoop (awp E c_rFrom_1) Q A W0 := by
 refine alp (fun (n : Nat) A1 W1 => RgG A1 q v1 v2 last i r8 r9 n9 r10 n10 ∧ A1 12 = some (.bool (decide (x.to ∈ ids.take n))) ∧ A1 13 = some (.int .i64 (n : Nat)) ∧ n ≤ ids.length ∧ W1 = W0) (fun n => ids.length - n) 0
  ⟨hR, by rw [a12]; simp, a13, Nat.zero_le _, rfl⟩ ?_
 rintro n A1 _ ⟨⟨⟨q0, q1, q2, q6, q7⟩, q8, q9, q10⟩, q12, q13, qn, rfl⟩ _
 by_cases hn : n < ids.length
 ·have hg := ints_getD hn
  have hge : ids.getD n 0 = ids[n] := by rw [List.getD_eq_getElem?_getD, gEg hn]; rfl
  have htk : decide (x.to ∈ ids.take (n + 1)) = (decide (x.to ∈ ids.take n) || (ids.getD n 0 == x.to)) := by
   rw [tao, gEg hn, hge]
   rw [Bool.eq_iff_iff]
   simp only [decide_eq_true_eq, map', Bool.or_eq_true, beq_iff_eq, Option.toList_some, msg]
   exact ⟨fun h => h.imp id Eq.symm, fun h => h.imp id Eq.symm⟩
  cases hm : decide (x.to ∈ ids.take n) with
  | true =>
   rw [hm] at q12 htk
   simp (maxSteps:=9^9) (disch:=omega) only [BS, e_seq, cond_if, ↓reduceIte, nE, c_rFrom_1, q1, q12, q13, i1.len, ints_len, clt, hn, dT]
   repeat (rw [guard_if]; simp (maxSteps:=9^9) (disch:=omega) only [BS, BC, ↓reduceIte, nE, BM, q13, wadd1])
   exact ⟨n + 1, ⟨⟨⟨tt, tt, tt, tt, tt⟩, tt, tt, tt⟩, by rw [htk]; rfl, tt, hn, tt⟩, by omega, lr _⟩
  | false =>
   rw [hm] at q12 htk
   simp (maxSteps:=9^9) (disch:=omega) only [BS, e_seq, cond_if, ↓reduceIte, nE, c_rFrom_1, q1, q12, q13, i1.len, ints_len, clt, hn, dT]
   repeat (rw [guard_if]; simp (maxSteps:=9^9) (disch:=omega) only [BS, BC, ↓reduceIte, nE, BM, BD, q1, q8, q13, i1.idx hg, g8, wadd1])
   exact ⟨n + 1, ⟨⟨⟨tt, tt, tt, tt, tt⟩, tt, tt, tt⟩, by rw [htk, Bool.false_or], tt, hn, tt⟩, by omega, lr _⟩
 ·obtain rfl : n = ids.length := by omega
  rw [tkl] at q12
  simp (maxSteps:=9^9) (disch:=omega) only [BX, ↓reduceIte, nE, c_rFrom_1, q1, q13, i1.len, ints_len, clt, hn, dF]
  exact hex _ ⟨⟨tt, tt, tt, tt, tt⟩, tt, tt, tt⟩ tt
theorem cbuf {r n : Nat} : (V.buf true r 1 n).cells = [V.buf true r 1 n] := id rfl
theorem obuf {r n : Nat} : (V.buf true r 1 n).one = true := id rfl
theorem app_buf {W : AW} {K : V → AW → Prop} {x : V} {xs : List V} {r s by' : Nat} (h5 : W.get r = some (.buf true s xs)) (hs : 0 < s) (hx : x.cells.all V.one = true) (hb : (xs.length + 1) * by' ≤ 2 ^ 46) : sem E (.append s by') [.buf true r s xs.length, .sl s true [x]] W K = K (.buf true r s (xs.length + 1)) (W.put r (.buf true s (xs ++ [x]))) := by
 simp only [sem, elemsV, if_true, h5, lcs, List.length_nil, Nat.zero_add, List.all_cons, List.all_nil, Bool.and_true, hx]
 exact propext ⟨fun h => h.2.2.2.2.2.2.2, fun h => ⟨hs, tt, tt, tt, tt, hb, tt, h⟩⟩
theorem frz_full {W : AW} {r s m : Nat} {xs : List V} (hg : W.get r = some (.buf true s xs)) (hm : m = xs.length) (h0 : xs ≠ []) : W.frz (.buf true r s m) = .sl s false xs := by
 simp [AW.frz, hg, hm, h0]
theorem ints_app (l : List Int) (y : Int) : intsV (l ++ [y]) = intsV l ++ [.int .u16 y] := by simp [intsV]
theorem says_full {W : AW} {np : Bool} {r s m : Nat} {xs : List V} (hg : W.get r = some (.buf np s xs)) (h0 : 0 < xs.length) (hm : m = xs.length) : Says E W (.buf np r s m) (.sl s false xs) := by
 subst hm
 have := Says.buf (E := E) hg h0 (lr _)
 rwa [tkl] at this
theorem from_round (hP : PE E) {vL : V} {L : List Ed} {k own : Int} (ho : ownR k = some own) (hv : isS 3 vL (L.map Ed.V)) (hL : ∀ e ∈ L, ekOk (ofEd e)) (hl : L.length < 2 ^ 40)
  {ids ks : List Int} {v1 v2 : V} (i1 : isS 1 v1 (intsV ids)) (i2 : isS 1 v2 (u8s ks)) (h0 : 0 < ids.length) (l1 : ids.length < 2 ^ 20) (hks : ks.length + 1 = ids.length) (hib : ∀ x ∈ ids, 0 ≤ x ∧ x < 65536) (hkb : ∀ x ∈ ks, 0 ≤ x ∧ x < 256)
  (IH : ∀ (x : Ed), x ∈ L → x.to ∉ ids → ∀ (W : AW) {q : Nat} {w1 w2 : V} {b : Option Cyc}, SrF W q vL k b → isS 1 w1 (intsV (ids ++ [x.to])) → isS 1 w2 (u8s (ks ++ [x.kd])) → ACalls E 46 [.ptr q 0, w1, w2] W (FromQ SrF L own (ids ++ [x.to]) (ks ++ [x.kd]) b W q vL k))
  {W1 : AW} {q i : Nat} {b b' : Option Cyc} {A1 : AFr} {P : AFr → AW → Prop} {Q : Exit → AFr → AW → Prop} (hi : i < L.length) (hC : Cl W1) (hR : RgF A1 q v1 v2 (ids.getD (ids.length - 1) 0) i) (hLp : Lps L own ids ks b i b') (hS : Sr W1 q vL k b')
  (hP' : ∀ A' W' b'', RgF A' q v1 v2 (ids.getD (ids.length - 1) 0) (i + 1) → Lps L own ids ks b (i + 1) b'' → Sr W' q vL k b'' → Cl W' → W1.nx ≤ W'.nx → (∀ y, y < W1.nx → y ≠ q → W'.get y = W1.get y) → P A' W') : awp E c_rFrom_0 (thenQ P Q) A1 W1 := by
 obtain ⟨q0, q1, q2, q6, q7⟩ := hR
 obtain ⟨x, hx⟩ : ∃ x, L[i]? = some x := ⟨_, gEg hi⟩
 have hxL := List.mem_of_getElem? hx
 have hxo := hL x hxL
 obtain ⟨o1, o2, o3⟩ := hxo
 have hidx : ∀ W K, sem E (.idxp 3) [vL, .int .i64 (i : Int)] W K = K (.cptr [.int .u16 x.fr, .int .u16 x.to, .int .u8 x.kd]) W := fun W K => hv.idx (k := i) (x := x.V) (by rw [List.getElem?_map, hx]; rfl)
 have lq := hS.lq
 obtain ⟨xs, hq0, hx0, hx1⟩ : ∃ xs, W1.get q = some (.row xs) ∧ xs[0]? = some vL ∧ xs[1]? = some (.int .u8 k) := by
  obtain ⟨⟨b1, b2, g, _, _⟩, _⟩ := hS
  exact ⟨_, g, rfl, rfl⟩
 have hq : ∀ l, (X W1 W1.nx l).get q = some (.row xs) := fun l => by rw [X_old lq]; exact hq0
 have hoi : ownI k = own := by simp [ownI, ho]
 have hwk : IntKind.i64.wrap x.kd = x.kd := IntWalk.i64_in _ (by have := o3; simp only [ofEd] at this; omega)
 have ld0 : ∀ l (K : V → AW → Prop), sem E (.load false 1) [.ptr q 0] (X W1 W1.nx l) K = K vL (X W1 W1.nx l) := fun l K => sem_load_row (hq l) hx0
 have ld1 : ∀ l (K : V → AW → Prop), sem E (.load false 1) [.ptr q 1] (X W1 W1.nx l) K = K (.int .u8 k) (X W1 W1.nx l) := fun l K => sem_load_row (hq l) hx1
 refine awp_startC hC ?_
 have done : ∀ A' l b'', RgF A' q v1 v2 (ids.getD (ids.length - 1) 0) (i + 1) → b'' = b' → (x.fr ≠ ids.getD (ids.length - 1) 0 ∨ ¬ x.kd ≤ own) → P A' (X W1 W1.nx l) := fun A' l b'' h1 h2 h3 => hP' _ _ b' h1 (hLp.skip hx h0 h3) (hS.to (by simp [X_nx, rf]) fun r hr => X_old hr) Cl.X (by simp [X_nx, rf]) fun y hy _ => X_old hy
 by_cases hf : x.fr = ids.getD (ids.length - 1) 0
 ·have c1 : (x.fr != ids.getD (ids.length - 1) 0) = false := by simp only [hf, bne_self_eq_false]
  by_cases hk : x.kd ≤ own
  ·have c2 : decide (x.kd > own) = false := decide_eq_false (by omega)
   simp (maxSteps:=9^9) (disch:=omega) only [BX, ↓reduceIte, nE, reduceCtorEq, BM, BD, nA, nL, nT, c_rFrom_0, q0, q6, q7, ld0, hv.len, lmp, clt, hi, dT, hidx, c1]
   repeat (rw [guard_if]; simp (maxSteps:=9^9) (disch:=omega) only [BS, BC, ↓reduceIte, nE, reduceCtorEq, BM, BD, q0, ld1, hwk])
   refine pcall_go (by simp only [mcs, List.map_nil]; rfl) (rOwn_c hP _ k) ?_
   rw [hoi]
   simp (maxSteps:=9^9) (disch:=omega) only [BS]
   repeat (rw [guard_if]; simp (maxSteps:=9^9) (disch:=omega) only [BX, ↓reduceIte, nE, q1, c2])
   refine app_nil (lo := W1.nx + 1) i1 (by rw [ints_len]; omega) Cl.X (by simp only [X_nx, rf]; exact lr _) ?_
   intro h9 W2 n9 e9
   have e9n : W1.nx + 1 ≤ W2.nx := e9.nx
   rcases n9 with ⟨_, hnil⟩ | ⟨r9, l9, m9, rfl, _, g9⟩
   ·exact absurd hnil (by cases ids with | nil => simp at h0 | cons y l => simp [intsV])
   simp (maxSteps:=9^9) (disch:=omega) only [BS, ↓reduceIte]
   rw [e_seq]
   simp (maxSteps:=9^9) (disch:=omega) only [BS, ↓reduceIte, nE, q2]
   refine app_nil (lo := W2.nx) i2 (by rw [u8s_len]; omega) e9.cl (lr _) ?_
   intro h10 W3 n10 e10
   have e10n := e10.nx
   have g8 : W3.get (rf W1.nx 0) = some (.row [.int .u16 x.fr, .int .u16 x.to, .int .u8 x.kd]) := by
    rw [e10.get _ (by simp only [rf]; omega), e9.get _ (by show W1.nx + 0 < W1.nx + 1; omega), X_get]; rfl
   have g8l : ∀ K : V → AW → Prop, sem E (.load false 1) [.ptr (rf W1.nx 0) 2] W3 K = K (.int .u8 x.kd) W3 := fun K => sem_load_row g8 rfl
   simp (maxSteps:=9^9) (disch:=omega) only [BS, ↓reduceIte]
   rw [e_seq]
   simp (maxSteps:=9^9) (disch:=omega) only [BS, ↓reduceIte, nE, BD, g8l, bK8]
   refine app_now3 (lo := W2.nx) n10 e10.cl e10n (by decide) rfl (by rw [u8s_len]; omega) ?_
   intro r10 W4 l10 m10 g10 c4 n4 o4
   simp (maxSteps:=9^9) (disch:=omega) only [BS, ↓reduceIte]
   rw [e_seq, c4.start]
   simp (maxSteps:=9^9) (disch:=omega) only [BS, BC, ↓reduceIte, nE, BM, BD, nA, nL, nT, cbuf, obuf]
   have g10' : W4.get r10 = some (.buf true 1 (u8s (ks ++ [x.kd]))) := by rw [u8s_app]; exact g10
   have k8 : W4.get (rf W1.nx 0) = some (.row [.int .u16 x.fr, .int .u16 x.to, .int .u8 x.kd]) := by rw [o4 _ (by simp only [rf]; omega) (by simp only [rf]; omega)]; exact g8
   have k9 : W4.get r9 = some (.buf true 1 (intsV ids)) := by rw [o4 _ (by omega) (by omega), e10.get _ m9]; exact g9
   have k0 : ∀ y, y < W1.nx → W4.get y = W1.get y := fun y hy => by rw [o4 _ (by omega) (by omega), e10.get _ (by omega), e9.get _ (by show y < W1.nx + 1; omega), X_old hy]
   obtain ⟨W5, hW5⟩ : ∃ W5, W5 = X W4 W4.nx [.row [.buf true r9 1 (intsV ids).length, .buf true r10 1 ((u8s ks).length + 1)]] := ⟨_, rfl⟩
   have g11 : W5.get (rf W4.nx 0) = some (.row [.buf true r9 1 (intsV ids).length, .buf true r10 1 ((u8s ks).length + 1)]) := by rw [hW5, X_get]; rfl
   have n5 : W5.nx = W4.nx + 1 := by rw [hW5]; rfl
   have c5 : Cl W5 := by rw [hW5]; exact Cl.X
   have k5 : ∀ y, y < W4.nx → W5.get y = W4.get y := fun y hy => by rw [hW5, X_old hy]
   have wf : Wf W1 W5 q (rf W1.nx 0) r9 r10 x ids ks := ⟨c5, by omega, fun y hy _ => by rw [k5 y (by omega), k0 y hy], by rw [k5 _ (by simp only [rf]; omega)]; exact k8, by rw [k5 _ (by omega)]; exact k9, by rw [k5 _ (by omega)]; exact g10', ⟨by simp only [rf]; omega, by simp only [rf]; omega⟩, ⟨by omega, by omega⟩, ⟨by omega, by omega⟩, by omega⟩
   have S5 : Sr W5 q vL k b' := hS.to (by omega) fun r hr => by rw [k5 r (by omega), k0 r hr]
   rw [← hW5]
   have r11 : rf W4.nx 0 < W5.nx := by simp only [rf]; omega
   have r11' : W1.nx ≤ rf W4.nx 0 := by simp only [rf]; omega
   generalize rf W4.nx 0 = rc at g11 r11 r11'
   generalize rf W1.nx 0 = r8 at wf
   clear hW5 k5 n5 g10' k8 k9 k0 g10 o4 g8l g8 n10 e10 e9 g9
   rw [e_seq]
   refine awp_mono (Q := fun z A' W' => z = .normal ∧ ∃ b1, RgG A' q v1 v2 (ids.getD (ids.length - 1) 0) i r8 r9 (intsV ids).length r10 ((u8s ks).length + 1) ∧ Wf W1 W' q r8 r9 r10 x ids ks ∧ Sr W' q vL k b1 ∧ ((IsC L own ids (ks ++ [x.kd]) ∧ (∀ c0, b' = some c0 → lessR (ids, ks ++ [x.kd]) c0 = true) ∧ b1 = some (ids, ks ++ [x.kd])) ∨ (b1 = b' ∧ (x.to = ids.getD 0 0 → IsC L own ids (ks ++ [x.kd]) → Cvd b' (ids, ks ++ [x.kd]))))) _ ?_ ?_
   ·rintro _ A2 W6 ⟨rfl, b1, hR2, wf2, S6, hA⟩
    show awp E _ _ A2 W6
    have hrest := hR2
    obtain ⟨⟨z0, z1, z2, z6, z7⟩, z8, z9, z10⟩ := hR2
    simp (maxSteps:=9^9) (disch:=omega) only [BS, e_seq]
    rw [e_loop]
    refine there_go (x := x) i1 (by omega) wf2.g8 ⟨⟨tt, tt, tt, tt, tt⟩, tt, tt, tt⟩ tt tt ?_
    rintro A3 ⟨⟨y0, y1, y2, y6, y7⟩, y8, y9, y10⟩ y12
    have ldt : ∀ K : V → AW → Prop, sem E (.load false 1) [.ptr r8 1] W6 K = K (.int .u16 x.to) W6 := fun K => sem_load_row wf2.g8 rfl
    have hat0 := ints_getD h0
    have hix : ∀ W K, sem E (.idxp 1) [v1, .int .i64 0] W K = K (.cptr (V.int .u16 (ids.getD 0 0)).cells) W := fun W K => i1.idx (k := 0) hat0
    have fin : ∀ A', RgF A' q v1 v2 (ids.getD (ids.length - 1) 0) (i + 1) → (x.to ∈ ids ∨ ¬ ids.getD 0 0 < x.to) → P A' W6 := fun A' h1 h2 => hP' _ _ b1 h1 (hLp.go hx h0 hA (.inr ⟨rfl, h2⟩)) S6 wf2.cl wf2.nx wf2.old
    by_cases m1 : x.to ∈ ids
    ·rw [decide_eq_true m1] at y12
     simp (maxSteps:=9^9) (disch:=omega) only [BS, e_seq, ↓reduceIte, BD, y12]
     repeat (rw [guard_if]; simp (maxSteps:=9^9) (disch:=omega) only [BS, BC, cond_if, ↓reduceIte, nE, BM, y7, wadd1])
     exact fin _ ⟨tt, tt, tt, tt, tt⟩ (.inl m1)
    ·rw [decide_eq_false m1] at y12
     by_cases m2 : x.to > ids.getD 0 0
     ·simp (maxSteps:=9^9) (disch:=omega) only [BS, e_seq, ↓reduceIte, BD, y12]
      repeat (rw [guard_if]; simp (maxSteps:=9^9) (disch:=omega) only [BS, cond_if, ↓reduceIte, nE, reduceCtorEq, BM, BD, y0, y1, y8, y9, ldt, hix, decide_eq_true m2])
      have b9 := wf2.l9
      have b10 := wf2.l10
      have nq9 : r9 ≠ q := by omega
      simp (maxSteps:=9^9) (disch:=omega) only [BS, ↓reduceIte, nE, bK16]
      rw [app_buf wf2.g9 (by decide) rfl (by rw [ints_len]; omega)]
      have S7 := S6.put (zs := [.int .u16 x.to]) wf2.g9
      have g9 : (W6.put r9 (.buf true 1 (intsV ids ++ [.int .u16 x.to]))).get r9 = some (.buf true 1 (intsV ids ++ [.int .u16 x.to])) := put_at
      have g10 : (W6.put r9 (.buf true 1 (intsV ids ++ [.int .u16 x.to]))).get r10 = some (.buf true 1 (u8s (ks ++ [x.kd]))) := by rw [put_ne (fun e => wf2.ne e.symm)]; exact wf2.g10
      have c7 := wf2.cl.put (o := .buf true 1 (intsV ids ++ [.int .u16 x.to])) b9.2
      have n7 : W1.nx ≤ (W6.put r9 (.buf true 1 (intsV ids ++ [.int .u16 x.to]))).nx := wf2.nx
      have o7 : ∀ y, y < W1.nx → y ≠ q → (W6.put r9 (.buf true 1 (intsV ids ++ [.int .u16 x.to]))).get y = W1.get y := fun y hy hq => by rw [put_ne (by omega)]; exact wf2.old y hy hq
      generalize W6.put r9 (.buf true 1 (intsV ids ++ [.int .u16 x.to])) = W7 at S7 g9 g10 c7 n7 o7
      have hf9 := frz_full (m := (intsV ids).length + 1) g9 (by simp) (by simp)
      have hf10 := frz_full (m := (u8s ks).length + 1) g10 (by rw [u8s_app]; simp) (by rw [u8s_app]; simp)
      simp (maxSteps:=9^9) (disch:=omega) only [BS, BC, ↓reduceIte, nE, y10, hf9, hf10]
      refine S7.call fun W8 s8 n8 o8 => (IH x hxL m1 W8 s8 (by rw [ints_app]; exact .mk) .mk).mono ?_
      rintro _ W9 ⟨rfl, b2, hF, s9, c9, n9, o9⟩
      simp (maxSteps:=9^9) (disch:=omega) only [BS, ↓reduceIte, nE, y7, wadd1]
      exact hP' _ _ b2 ⟨tt, tt, tt, tt, tt⟩ (hLp.go hx h0 hA (.inl hF)) s9.sr c9 (by omega) fun y hy hyq => by rw [o9 y (by omega) hyq, o8 y hyq, o7 y hy hyq]
     ·simp (maxSteps:=9^9) (disch:=omega) only [BS, e_seq, ↓reduceIte, BD, y12]
      repeat (rw [guard_if]; simp (maxSteps:=9^9) (disch:=omega) only [BS, BC, cond_if, ↓reduceIte, nE, BM, BD, y1, y7, y8, ldt, hix, decide_eq_false m2, wadd1])
      exact fin _ ⟨tt, tt, tt, tt, tt⟩ (.inr m2)
   ·have ldt : ∀ K : V → AW → Prop, sem E (.load false 1) [.ptr r8 1] W5 K = K (.int .u16 x.to) W5 := fun K => sem_load_row wf.g8 rfl
    have hat0 := ints_getD h0
    have hix : ∀ W K, sem E (.idxp 1) [v1, .int .i64 0] W K = K (.cptr (V.int .u16 (ids.getD 0 0)).cells) W := fun W K => i1.idx (k := 0) hat0
    have stay : ∀ A', RgG A' q v1 v2 (ids.getD (ids.length - 1) 0) i r8 r9 (intsV ids).length r10 ((u8s ks).length + 1) → (x.to = ids.getD 0 0 → IsC L own ids (ks ++ [x.kd]) → Cvd b' (ids, ks ++ [x.kd])) → ∃ b1, RgG A' q v1 v2 (ids.getD (ids.length - 1) 0) i r8 r9 (intsV ids).length r10 ((u8s ks).length + 1) ∧ Wf W1 W5 q r8 r9 r10 x ids ks ∧ Sr W5 q vL k b1 ∧ ((IsC L own ids (ks ++ [x.kd]) ∧ (∀ c0, b' = some c0 → lessR (ids, ks ++ [x.kd]) c0 = true) ∧ b1 = some (ids, ks ++ [x.kd])) ∨ (b1 = b' ∧ (x.to = ids.getD 0 0 → IsC L own ids (ks ++ [x.kd]) → Cvd b' (ids, ks ++ [x.kd])))) := fun A' h1 h2 => ⟨b', h1, wf, S5, .inr ⟨rfl, h2⟩⟩
    by_cases t0 : x.to = ids.getD 0 0
    ·have c3 : (x.to == ids.getD 0 0) = true := by rw [t0]; exact beq_self_eq_true _
     have Sx := S5
     obtain ⟨⟨b1, b2, hq5, rd1, rd2⟩, lq5⟩ := Sx
     have e0 : ∀ K : V → AW → Prop, sem E (.load false 1) [.ptr q 0] W5 K = K vL W5 := fun K => sem_load_row hq5 rfl
     have e1 : ∀ K : V → AW → Prop, sem E (.load false 1) [.ptr q 1] W5 K = K (.int .u8 k) W5 := fun K => sem_load_row hq5 rfl
     have e2 : ∀ K : V → AW → Prop, sem E (.load true 2) [.ptr q 2] W5 K = K (.agg [b1, b2]) W5 := fun K => sem_load_row hq5 rfl
     have e4 : ∀ K : V → AW → Prop, sem E (.load false 1) [.ptr q 4] W5 K = K (.bool b'.isSome) W5 := fun K => sem_load_row hq5 rfl
     have ec : ∀ K : V → AW → Prop, sem E (.load true 2) [.ptr rc 0] W5 K = K (.agg [.buf true r9 1 (intsV ids).length, .buf true r10 1 ((u8s ks).length + 1)]) W5 := fun K => sem_load_row g11 rfl
     simp (maxSteps:=9^9) (disch:=omega) only [BS, e_seq, ↓reduceIte, nE, BM, BD, q1, ldt, hix, c3]
     repeat (rw [guard_if]; simp (maxSteps:=9^9) (disch:=omega) only [BS, BC, ↓reduceIte, nE, reduceCtorEq, BD, q0, e0, e1, ec, hv.frz])
     have hib' : ∀ y ∈ ks ++ [x.kd], 0 ≤ y ∧ y < 256 := fun y hy => by
      rcases List.mem_append.1 hy with hy | hy
      ·exact hkb y hy
      ·rw [List.mem_singleton.1 hy]; exact o3
     have hkl : (ks ++ [x.kd]).length = ids.length := by rw [lap, List.length_singleton]; exact hks
     have sc : Says E W5 (.agg [.buf true r9 1 (intsV ids).length, .buf true r10 1 ((u8s ks).length + 1)]) (.agg [.sl 1 false (intsV ids), .sl 1 false (u8s (ks ++ [x.kd]))]) := .agg (.cons (says_full wf.g9 (by rw [ints_len]; omega) rfl) (.cons (says_full wf.g10 (by rw [u8s_len, hkl]; omega) (by rw [u8s_len, u8s_len, hkl]; exact hks)) .nil))
     refine ACalls.says (.cons .refl (.cons .refl (.cons sc .nil))) (pc (rIsC_c hP _ hv hL hl .mk .mk hib hib' (by omega) (by omega) k) ?_)
     have hiff := isR_iff (es := L) (ids := ids) (ks := ks ++ [x.kd]) ho (f := fun e => decide (e ∈ L)) fun _ => rfl
     have wfp : Wf W1 ((W5.put q (.row [vL, .int .u8 k, .buf true r9 1 (intsV ids).length, .buf true r10 1 ((u8s ks).length + 1), .bool b'.isSome])).put q (.row [vL, .int .u8 k, .buf true r9 1 (intsV ids).length, .buf true r10 1 ((u8s ks).length + 1), .bool true])) q r8 r9 r10 x ids ks := by
      have b8 := wf.l8
      have b9 := wf.l9
      have b10 := wf.l10
      exact ⟨(wf.cl.put lq5).put (by rw [put_nx]; exact lq5), by rw [put_nx, put_nx]; exact wf.nx, fun y hy hyq => by rw [put_ne hyq, put_ne hyq]; exact wf.old y hy hyq, by rw [put_ne (by omega), put_ne (by omega)]; exact wf.g8, by rw [put_ne (by omega), put_ne (by omega)]; exact wf.g9, by rw [put_ne (by omega), put_ne (by omega)]; exact wf.g10, by rw [put_nx, put_nx]; exact b8, by rw [put_nx, put_nx]; exact b9, by rw [put_nx, put_nx]; exact b10, wf.ne⟩
     have Srp : Sr ((W5.put q (.row [vL, .int .u8 k, .buf true r9 1 (intsV ids).length, .buf true r10 1 ((u8s ks).length + 1), .bool b'.isSome])).put q (.row [vL, .int .u8 k, .buf true r9 1 (intsV ids).length, .buf true r10 1 ((u8s ks).length + 1), .bool true])) q vL k (some (ids, ks ++ [x.kd])) := by
      refine ⟨⟨_, _, put_at, .inr ⟨r9, _, _, rfl, wfp.g9, wfp.l9.2, by rw [ints_len]; omega, lr _, (tkl).symm⟩, .inr ⟨r10, _, _, rfl, wfp.g10, wfp.l10.2, by omega, by rw [u8s_len, u8s_len, hkl]; omega, ?_⟩⟩, by rw [put_nx, put_nx]; exact lq5⟩
      have : (u8s ks).length + 1 = (u8s (ks ++ [x.kd])).length := by rw [u8s_len, u8s_len, hkl]; exact hks
      rw [this, tkl]
     have st2 : ∀ K : V → AW → Prop, sem E (.store 2) [.ptr q 2, .agg [.buf true r9 1 (intsV ids).length, .buf true r10 1 ((u8s ks).length + 1)]] W5 K = K .undef (W5.put q (.row [vL, .int .u8 k, .buf true r9 1 (intsV ids).length, .buf true r10 1 ((u8s ks).length + 1), .bool b'.isSome])) := fun K => sem_store_row hq5 rfl rfl (by simp)
     have st4 : ∀ K : V → AW → Prop, sem E (.store 1) [.ptr q 4, .bool true] (W5.put q (.row [vL, .int .u8 k, .buf true r9 1 (intsV ids).length, .buf true r10 1 ((u8s ks).length + 1), .bool b'.isSome])) K = K .undef ((W5.put q (.row [vL, .int .u8 k, .buf true r9 1 (intsV ids).length, .buf true r10 1 ((u8s ks).length + 1), .bool b'.isSome])).put q (.row [vL, .int .u8 k, .buf true r9 1 (intsV ids).length, .buf true r10 1 ((u8s ks).length + 1), .bool true])) := fun K => sem_store_row put_at rfl rfl (by simp)
     cases hr : isR (fun e => decide (e ∈ L)) k ids (ks ++ [x.kd]) with
     | false =>
      simp (maxSteps:=9^9) (disch:=omega) only [BS, ↓reduceIte, nE, ]
      repeat (rw [guard_if]; simp (maxSteps:=9^9) (disch:=omega) only [BS, BC, cond_if, ↓reduceIte, nE, BM])
      exact ⟨tt, stay _ ⟨⟨tt, tt, tt, tt, tt⟩, tt, tt, tt⟩ fun _ h => by rw [hiff.2 h] at hr; cases hr⟩
     | true =>
      have hI := hiff.1 hr
      cases hb : b' with
      | none =>
       rw [hb] at e4 st2 st4 wfp Srp
       simp only [Option.isSome_none] at e4 st2 st4 wfp Srp
       simp (maxSteps:=9^9) (disch:=omega) only [BS, ↓reduceIte, nE, reduceCtorEq, ]
       repeat (rw [guard_if]; simp (maxSteps:=9^9) (disch:=omega) only [BX, ↓reduceIte, nE, reduceCtorEq, BM, BD, q0, e4, ec, st2, st4])
       exact ⟨tt, _, ⟨⟨tt, tt, tt, tt, tt⟩, tt, tt, tt⟩, wfp, Srp, .inl ⟨hI, ⟨fun _ h => h.elim, rfl⟩⟩⟩
      | some c0 =>
       rw [hb] at e4 st2 st4 wfp Srp rd1 rd2 stay
       have s1 := rd1.says (E := E)
       have s2 := rd2.says (E := E)
       simp (maxSteps:=9^9) (disch:=omega) only [BS, ↓reduceIte, nE, ]
       repeat (rw [guard_if]; simp (maxSteps:=9^9) (disch:=omega) only [BS, BC, ↓reduceIte, nE, reduceCtorEq, BD, q0, e4, Option.isSome_some, e2, ec])
       refine ACalls.says (.cons sc (.cons (.agg (.cons s1 (.cons s2 .nil))) .nil)) (pc (rLess_c hP _ (a := (ids, ks ++ [x.kd])) (b := c0) .mk .mk .mk .mk (by simp only; omega) (by simp only; omega)) ?_)
       cases hlr : lessR (ids, ks ++ [x.kd]) c0 with
       | true =>
        simp (maxSteps:=9^9) (disch:=omega) only [BS, ]
        repeat (rw [guard_if]; simp (maxSteps:=9^9) (disch:=omega) only [BX, ↓reduceIte, nE, reduceCtorEq, BM, BD, q0, ec, st2, st4])
        exact ⟨tt, _, ⟨⟨tt, tt, tt, tt, tt⟩, tt, tt, tt⟩, wfp, Srp, .inl ⟨hI, fun c h => by cases h; exact hlr, rfl⟩⟩
       | false =>
        simp (maxSteps:=9^9) (disch:=omega) only [BS, ]
        repeat (rw [guard_if]; simp (maxSteps:=9^9) (disch:=omega) only [BS, BC, cond_if, ↓reduceIte, nE])
        exact ⟨tt, stay _ ⟨⟨tt, tt, tt, tt, tt⟩, tt, tt, tt⟩ fun _ _ => ⟨c0, rfl, hlr⟩⟩
    ·have c3 : (x.to == ids.getD 0 0) = false := beq_eq_false_iff_ne.2 t0
     simp (maxSteps:=9^9) (disch:=omega) only [BS, e_seq, ↓reduceIte, nE, BM, BD, q1, ldt, hix, c3]
     repeat (rw [guard_if]; simp (maxSteps:=9^9) (disch:=omega) only [BS, BC, cond_if, ↓reduceIte, nE, BM])
     exact ⟨tt, stay _ ⟨⟨tt, tt, tt, tt, tt⟩, tt, tt, tt⟩ fun h => absurd h t0⟩
  ·have c2 : decide (x.kd > own) = true := decide_eq_true (by omega)
   simp (maxSteps:=9^9) (disch:=omega) only [BX, ↓reduceIte, nE, reduceCtorEq, BM, BD, nA, nL, nT, c_rFrom_0, q0, q6, q7, ld0, hv.len, lmp, clt, hi, dT, hidx, c1]
   repeat (rw [guard_if]; simp (maxSteps:=9^9) (disch:=omega) only [BS, BC, ↓reduceIte, nE, reduceCtorEq, BM, BD, q0, ld1, hwk])
   refine pcall_go (by simp only [mcs, List.map_nil]; rfl) (rOwn_c hP _ k) ?_
   rw [hoi]
   simp (maxSteps:=9^9) (disch:=omega) only [BS]
   repeat (rw [guard_if]; simp (maxSteps:=9^9) (disch:=omega) only [BS, BC, cond_if, ↓reduceIte, nE, q7, c2, wadd1])
   exact done _ _ _ ⟨tt, tt, tt, tt, tt⟩ rfl (.inr hk)
 ·have c1 : (x.fr != ids.getD (ids.length - 1) 0) = true := bne_iff_ne.2 hf
  simp (maxSteps:=9^9) (disch:=omega) only [BX, ↓reduceIte, nE, reduceCtorEq, BM, BD, nA, nL, nT, c_rFrom_0, q0, q6, q7, ld0, hv.len, lmp, clt, hi, dT, hidx, c1]
  repeat (rw [guard_if]; simp (maxSteps:=9^9) (disch:=omega) only [BS, BC, cond_if, ↓reduceIte, nE, BM, q7, wadd1])
  exact done _ _ _ ⟨tt, tt, tt, tt, tt⟩ rfl (.inl hf)
def c_rShort_0 : AC := (.seq (.r [.m 14 9,.m 15 1,.u 16 (.len 1 0) 15,.b 17 (.bin .lss) 14 16,.m 18 17,.M 19 2 18 true,.U 20 (.call 45) 19 18 true,.P 21 (.bin .geq) [.t 20,.i 0] 18 true,.p 22 .pick [.t 18,.t 21,.F]] (.w 22 0)) (.seq (.block 1 (.reg [.m 25 8,.m 26 1,.m 27 9,.b 28 (.idxp 1) 26 27,.u 29 (.load false 1) 28,.u 30 (.bslice 1 1 (.int .u16 0) [0]) 29,.p 31 (.call 46) [.t 25,.t 30,.c (.nilsl)]])) (.reg [.m 23 9,.a 24 (.bin .add) 23 1,.m 9 24])))
def c_rShort : AC := (.r [.p 6 (.alloc [.nilsl,.nilsl]) [],.v 7 (.bool false)] (.r [.m 10 0,.m 11 2,.b 12 (.build [.nilsl,.int .u8 0,.nilsl,.nilsl,.bool false] [(0, 1), (1, 1)]) 10 11,.u 13 .box 12,.m 8 13] (.seq (.r [.v 9 (.int .i64 0)] (.block 0 (.loop c_rShort_0))) (.seq (.par (.step 0 (.m 32 8) (.step 1 (.u 33 .nilck 32) (.step 2 (.u 34 (.fld 2) 33) (.step 4 (.m 36 8) (.step 5 (.u 37 .nilck 36) (.step 6 (.u 38 (.fld 4) 37) (.step 3 (.u 35 (.load true 2) 34) (.alt (.step 7 (.u 39 (.load false 1) 38) (.step 8 ⟨none,.store 2, [.t 6,.t 35], none⟩ (.step 9 (.m 7 39) .done))) (.step 8 ⟨none,.store 2, [.t 6,.t 35], none⟩ (.step 7 (.u 39 (.load false 1) 38) (.step 9 (.m 7 39) .done)))))))))))) .ret))))
theorem ok_rShorte : compF Tryz.prog Tryz.f13 ⟨false, false, []⟩ = some (c_rShort, [.cell 6 true 2, .tmp 7], 40) := by kernel_rfl
theorem from_loop (hP : PE E) {vL : V} {L : List Ed} {k own : Int} (ho : ownR k = some own) (hv : isS 3 vL (L.map Ed.V)) (hL : ∀ e ∈ L, ekOk (ofEd e)) (hl : L.length < 2 ^ 40)
  {ids ks : List Int} {v1 v2 : V} (i1 : isS 1 v1 (intsV ids)) (i2 : isS 1 v2 (u8s ks)) (h0 : 0 < ids.length) (l1 : ids.length < 2 ^ 20) (hks : ks.length + 1 = ids.length) (hib : ∀ x ∈ ids, 0 ≤ x ∧ x < 65536) (hkb : ∀ x ∈ ks, 0 ≤ x ∧ x < 256)
  (IH : ∀ (x : Ed), x ∈ L → x.to ∉ ids → ∀ (W : AW) {q : Nat} {w1 w2 : V} {b : Option Cyc}, SrF W q vL k b → isS 1 w1 (intsV (ids ++ [x.to])) → isS 1 w2 (u8s (ks ++ [x.kd])) → ACalls E 46 [.ptr q 0, w1, w2] W (FromQ SrF L own (ids ++ [x.to]) (ks ++ [x.kd]) b W q vL k))
  {W1 : AW} {q : Nat} {b : Option Cyc} {A1 : AFr} {Q : Exit → AFr → AW → Prop} (hC : Cl W1) (hR : RgF A1 q v1 v2 (ids.getD (ids.length - 1) 0) 0) (hS : Sr W1 q vL k b)
  (hex : ∀ A' W' b', Frm L own ids ks b b' → Sr W' q vL k b' → Cl W' → W1.nx ≤ W'.nx → (∀ y, y < W1.nx → y ≠ q → W'.get y = W1.get y) → Q (.exit 0) A' W') : ALoop (awp E c_rFrom_0) Q A1 W1 := by
 refine alp (fun (σ : Nat × Option Cyc) A W => RgF A q v1 v2 (ids.getD (ids.length - 1) 0) σ.1 ∧ σ.1 ≤ L.length ∧ Lps L own ids ks b σ.1 σ.2 ∧ Sr W q vL k σ.2 ∧ Cl W ∧ W1.nx ≤ W.nx ∧ ∀ y, y < W1.nx → y ≠ q → W.get y = W1.get y) (fun σ => L.length - σ.1) (0, b)
  ⟨hR, Nat.zero_le _, .start .., hS, hC, lr _, fun _ _ _ => rfl⟩ ?_
 rintro ⟨i, b'⟩ A W ⟨gR, gi, gL, gS, gC, gn, go⟩ _
 simp only at gR gi gL gS
 by_cases hi : i < L.length
 ·refine from_round hP ho hv hL hl i1 i2 h0 l1 hks hib hkb IH hi gC gR gL gS ?_
  intro A' W' b'' h1 h2 h3 h4 h5 h6
  exact ⟨(i + 1, b''), ⟨h1, hi, h2, h3, h4, by omega, fun y hy hq => by rw [h6 y (by omega) hq]; exact go y hy hq⟩, by simp only; omega, by omega⟩
 ·obtain rfl : i = L.length := by omega
  obtain ⟨q0, q1, q2, q6, q7⟩ := gR
  have e0 : ∀ K : V → AW → Prop, sem E (.load false 1) [.ptr q 0] W K = K vL W := fun K => by
   obtain ⟨⟨b1, b2, g, _, _⟩, _⟩ := gS
   exact sem_load_row g rfl
  simp (maxSteps:=9^9) (disch:=omega) only [BX, ↓reduceIte, nE, reduceCtorEq, BD, c_rFrom_0, q0, q7, e0, hv.len, lmp, clt, hi, dF]
  exact hex _ _ b' (gL.done h0) gS gC gn go
theorem rFrom_c (hP : PE E) {vL : V} {L : List Ed} {N : List Int} {k own : Int} (ho : ownR k = some own) (hv : isS 3 vL (L.map Ed.V)) (hL : ∀ e ∈ L, ekOk (ofEd e)) (hl : L.length < 2 ^ 40) (hN : ∀ e ∈ L, e.to ∈ N) (hNb : ∀ x ∈ N, 0 ≤ x ∧ x < 65536) (hNl : N.length < 2 ^ 20) :
  ∀ (n : Nat) (W : AW) {q : Nat} {v1 v2 : V} {ids ks : List Int} {b : Option Cyc}, SrF W q vL k b → isS 1 v1 (intsV ids) → isS 1 v2 (u8s ks) → 0 < ids.length → ids.Nodup → (∀ x ∈ ids, x ∈ N) → ks.length + 1 = ids.length → (∀ x ∈ ks, 0 ≤ x ∧ x < 256) → N.length < ids.length + n →
   ACalls E 46 [.ptr q 0, v1, v2] W (FromQ SrF L own ids ks b W q vL k)
 | 0, W, q, v1, v2, ids, ks, b, _, _, _, _, hnd, hsub, _, _, hm => by
  have := length_le_of_sub hnd hsub
  omega
 | n + 1, W, q, v1, v2, ids, ks, b, hS, i1, i2, h0, hnd, hsub, hks, hkb, hm => by
  have l1 := length_le_of_sub hnd hsub
  have IH : ∀ (x : Ed), x ∈ L → x.to ∉ ids → ∀ (W : AW) {q : Nat} {w1 w2 : V} {b : Option Cyc}, SrF W q vL k b → isS 1 w1 (intsV (ids ++ [x.to])) → isS 1 w2 (u8s (ks ++ [x.kd])) → ACalls E 46 [.ptr q 0, w1, w2] W (FromQ SrF L own (ids ++ [x.to]) (ks ++ [x.kd]) b W q vL k) := fun x hx hxn W q w1 w2 b s j1 j2 =>
   rFrom_c hP ho hv hL hl hN hNb hNl n W s j1 j2 (by simp) (List.nodup_append.2 ⟨hnd, by simp, fun a ha y hy e => by rw [List.mem_singleton.1 hy] at e; exact hxn (e ▸ ha)⟩) (fun y hy => by
    rcases List.mem_append.1 hy with hy | hy
    ·exact hsub y hy
    ·rw [List.mem_singleton.1 hy]; exact hN x hx) (by simp only [lap, List.length_singleton]; omega) (fun y hy => by
    rcases List.mem_append.1 hy with hy | hy
    ·exact hkb y hy
    ·rw [List.mem_singleton.1 hy]; obtain ⟨_, _, h⟩ := hL x hx; exact h) (by simp only [lap, List.length_singleton]; omega)
  refine FromQ.after (ACalls.of hP Tryz.func46 ok_rFrome (by simp) fun _ hok => ?_)
  refine awp_start hok ?_
  have hS0 : Sr (X W W.nx []) q vL k b := hS.sr.to (by simp [X_nx, rf]) fun r hr => X_old hr
  have hq : (X W W.nx []).get q = some (.row [vL, .int .u8 k, ovV (bv1 b), ovV (bv2 b), .bool b.isSome]) := by rw [X_old hS.lq]; exact hS.row
  have e4 : ∀ K : V → AW → Prop, sem E (.load false 1) [.ptr q 4] (X W W.nx []) K = K (.bool b.isSome) (X W W.nx []) := fun K => sem_load_row hq rfl
  have e2 : ∀ K : V → AW → Prop, sem E (.load false 1) [.ptr q 2] (X W W.nx []) K = K (ovV (bv1 b)) (X W W.nx []) := fun K => sem_load_row hq rfl
  obtain ⟨m, hmm⟩ : ∃ m, ids.length = m + 1 := ⟨_, (Nat.succ_pred_eq_of_pos h0).symm⟩
  have hsub1 : IntKind.i64.wrap ((ids.length : Int) - 1) = (m : Int) := by rw [hmm]; exact sub1 (by omega)
  have hla : ids.length - 1 = m := by omega
  have hat := ints_getD (l := ids) (i := m) (by omega)
  have hend : ∀ A' W' b', Frm L own ids ks b b' → Sr W' q vL k b' → Cl W' → (X W W.nx []).nx ≤ W'.nx → (∀ y, y < (X W W.nx []).nx → y ≠ q → W'.get y = (X W W.nx []).get y) → ∃ X0, resV A' W' [] = some X0 ∧ ∃ Y W2, RetV X0 W' Y W2 ∧ W.nx ≤ W2.nx ∧ FromQ Sr L own ids ks b W q vL k Y W2 := fun A' W' b' h1 h2 h3 h4 h5 =>
   ⟨_, e_res0, _, W', .weak weak_id, h4, rfl, b', h1, h2, h3, h4, fun y hy hyq => (h5 y hy hyq).trans (X_old hy)⟩
  cases hb : b with
  | none =>
   rw [hb] at e4 hS0 hend
   simp (maxSteps:=9^9) (disch:=omega) only [BZ, ↓reduceIte, BD, c_rFrom, e4, Option.isSome_none]
   repeat (rw [guard_if]; simp (maxSteps:=9^9) (disch:=omega) only [BX, ↓reduceIte, nE, BM, i1.len, ints_len, hsub1, i1.idx hat])
   rw [e_loop]
   refine from_loop hP ho hv hL hl i1 i2 h0 (by omega) hks (fun x hx => hNb x (hsub x hx)) hkb IH Cl.X ⟨tt, tt, tt, by rw [hla]; rfl, tt⟩ hS0 ?_
   intro A' W' b' h1 h2 h3 h4 h5
   simp (maxSteps:=9^9) (disch:=omega) only [BS, ↓reduceIte, ]
   exact hend A' W' b' h1 h2 h3 h4 h5
  | some c0 =>
   have hbl : isS 1 (ovV (bv1 (some c0))) (intsV c0.1) := .mk
   rw [hb] at e4 e2 hS0 hend
   by_cases hc : c0.1.length < ids.length
   ·simp (maxSteps:=9^9) (disch:=omega) only [BZ, ↓reduceIte, BD, c_rFrom, e4, Option.isSome_some]
    repeat (rw [guard_if]; simp (maxSteps:=9^9) (disch:=omega) only [BS, BC, cond_if, ↓reduceIte, nE, reduceCtorEq, BD, i1.len, ints_len, e2, hbl.len, show decide ((ids.length : Int) > (c0.1.length : Int)) = true from decide_eq_true (by omega)])
    exact hend (fun _ => none) _ _ (.cut rfl hc) hS0 Cl.X (lr _) fun _ _ _ => rfl
   ·simp (maxSteps:=9^9) (disch:=omega) only [BZ, ↓reduceIte, BD, c_rFrom, e4, Option.isSome_some]
    repeat (rw [guard_if]; simp (maxSteps:=9^9) (disch:=omega) only [BX, ↓reduceIte, nE, reduceCtorEq, BM, BD, i1.len, ints_len, e2, hbl.len, show decide ((ids.length : Int) > (c0.1.length : Int)) = false from decide_eq_false (by omega), hsub1, i1.idx hat])
    rw [e_loop]
    refine from_loop hP ho hv hL hl i1 i2 h0 (by omega) hks (fun x hx => hNb x (hsub x hx)) hkb IH Cl.X ⟨tt, tt, tt, by rw [hla]; rfl, tt⟩ hS0 ?_
    intro A' W' b' h1 h2 h3 h4 h5
    simp (maxSteps:=9^9) (disch:=omega) only [BS, ↓reduceIte, ]
    exact hend A' W' b' h1 h2 h3 h4 h5
theorem ov_one {o : Option (List V)} : (ovV o).one = true := by cases o <;> rfl
theorem ov_bel1 {b : Option Cyc} {n : Nat} : (ovV (bv1 b)).bel n = true := by
 cases b with
 | none => rfl
 | some c => exact belL_ints _ _
theorem ov_bel2 {b : Option Cyc} {n : Nat} : (ovV (bv2 b)).bel n = true := by
 cases b with
 | none => rfl
 | some c => exact u8_bel _ _
def bvT (b : Option Cyc) : V := .tuple [.agg [ovV (bv1 b), ovV (bv2 b)], .bool b.isSome]
theorem rShort_c (hP : PE E) (W : AW) {vL vN : V} {L : List Ed} {N : List Int} (k : Int) (hv : isS 3 vL (L.map Ed.V)) (hvN : isS 1 vN (intsV N)) (hL : ∀ e ∈ L, ekOk (ofEd e)) (hl : L.length < 2 ^ 40) (hN : ∀ e ∈ L, e.fr ∈ N ∧ e.to ∈ N) (hNs : N.Pairwise fun a b => a < b) (hNb : ∀ x ∈ N, 0 ≤ x ∧ x < 65536) (hNl : N.length < 2 ^ 20) (hlp : ∀ e ∈ L, e.fr ≠ e.to) :
  ACalls E 13 [vL, vN, .int .u8 k] W fun Y W' => Y = bvT (shortR L N k) ∧ W' = W := by
 refine ACalls.of hP Tryz.func13 ok_rShorte (by simp) fun _ hok => ?_
 refine awp_start hok ?_
 simp (maxSteps:=9^9) (disch:=omega) only [BZ, ↓reduceIte, nE, reduceCtorEq, BM, BD, nA, nL, c_rShort, hv.cells]
 obtain ⟨W0, hW0⟩ : ∃ W0, W0 = X W W.nx [.row [.nilsl, .nilsl], .row [vL, .int .u8 k, .nilsl, .nilsl, .bool false]] := ⟨_, rfl⟩
 have g6 : W0.get (rf W.nx 0) = some (.row [.nilsl, .nilsl]) := by rw [hW0, X_get]; rfl
 have s0 : SrF W0 (rf W.nx 1) vL k none := ⟨by rw [hW0, X_get]; rfl, by rw [hW0]; simp [X_nx, rf]⟩
 have c0 : Cl W0 := by rw [hW0]; exact Cl.X
 have n0 : W.nx < W0.nx := by rw [hW0]; simp [X_nx, rf]
 have o0 : ∀ y, y < W.nx → W0.get y = W.get y := fun y hy => by rw [hW0, X_old hy]
 have qne : rf W.nx 0 ≠ rf W.nx 1 := by simp [rf]
 have qlo : W.nx ≤ rf W.nx 0 ∧ W.nx ≤ rf W.nx 1 ∧ rf W.nx 0 < W0.nx := ⟨by simp [rf], by simp [rf], by simp only [rf]; omega⟩
 rw [← hW0]
 clear hW0
 generalize rf W.nx 0 = r6 at g6 qne qlo
 generalize rf W.nx 1 = q at s0 qne qlo
 rw [e_loop]
 cases ho : ownR k with
 | none =>
  have e1 : decide (ownI k ≥ 0) = false := by simp [ownI, ho]
  have hs : shortR L N k = none := by unfold shortR; rw [ho]
  have hqr : (W0.put r6 (.row [ovV (bv1 none), ovV (bv2 none)])).get q = some (.row [vL, .int .u8 k, ovV (bv1 none), ovV (bv2 none), .bool (none : Option Cyc).isSome]) := by rw [put_ne (fun e => qne e.symm)]; exact s0.row
  refine alp (fun (_ : Nat) A1 W1 => A1 1 = some vN ∧ A1 2 = some (.int .u8 k) ∧ A1 6 = some (.ptr r6 0) ∧ A1 8 = some (.ptr q 0) ∧ A1 9 = some (.int .i64 ((0 : Nat) : Int)) ∧ W1 = W0) (fun _ => 0) 0
   ⟨tt, tt, tt, tt, tt, rfl⟩ ?_
  rintro _ A1 W1 ⟨q1, q2, q6, q8, q9, e1W⟩ _
  rw [e1W, hs]
  have leave : ∃ X0, some (V.tuple [V.agg [ovV (bv1 none), ovV (bv2 none)], V.bool (none : Option Cyc).isSome]) = some X0 ∧ ∃ X W', RetV X0 (W0.put r6 (AObj.row [ovV (bv1 none), ovV (bv2 none)])) X W' ∧ W.nx ≤ W'.nx ∧ X = bvT none ∧ W' = W :=
   ⟨_, rfl, _, W, .weak (weak_back hok (by simp only [V.bel, V.belL, ov_bel1, ov_bel2, Bool.and_self]) fun y hy => by rw [put_ne (by omega), o0 y hy]), lr _, rfl, rfl⟩
  by_cases hi : 0 < N.length
  ·simp (maxSteps:=9^9) (disch:=omega) only [BS, e_seq, ↓reduceIte, nE, nT, c_rShort_0, q1, q9, hvN.len, ints_len, clt, hi, dT]
   repeat (rw [guard_if]; simp (maxSteps:=9^9) (disch:=omega) only [BS, BC, ↓reduceIte, nE, q2])
   refine pc (rOwn_c hP _ k) ?_
   simp (maxSteps:=9^9) (disch:=omega) only [BS]
   repeat (rw [guard_if]; simp (maxSteps:=9^9) (disch:=omega) only [BX, ↓reduceIte, nE, BM, BD, nA, nL, q6, q8, s0.row, g6, ov_one, put_at, hqr, e1])
   exact ⟨leave, leave⟩
  ·simp (maxSteps:=9^9) (disch:=omega) only [BS, e_seq, ↓reduceIte, nE, nT, c_rShort_0, q1, q9, hvN.len, ints_len, clt, hi, dF]
   repeat (rw [guard_if]; simp (maxSteps:=9^9) (disch:=omega) only [BX, ↓reduceIte, nE, BM, BD, nA, nL, q6, q8, s0.row, g6, ov_one, put_at, hqr])
   exact ⟨leave, leave⟩
 | some own =>
  have hoi : ownI k = own := by simp [ownI, ho]
  have e1 : decide (own ≥ 0) = true := by
   refine decide_eq_true ?_
   unfold ownR at ho
   split at ho
   ·cases ho; decide
   ·split at ho
    ·cases ho; decide
    ·split at ho
     ·cases ho; decide
     ·cases ho
  refine alp (fun (σ : Nat × Option Cyc) A1 W1 => A1 1 = some vN ∧ A1 2 = some (.int .u8 k) ∧ A1 6 = some (.ptr r6 0) ∧ A1 8 = some (.ptr q 0) ∧ A1 9 = some (.int .i64 (σ.1 : Nat)) ∧ σ.1 ≤ N.length ∧ Tps L own N σ.1 σ.2 ∧ SrF W1 q vL k σ.2 ∧ Cl W1 ∧ W0.nx ≤ W1.nx ∧ ∀ y, y < W0.nx → y ≠ q → W1.get y = W0.get y) (fun σ => N.length - σ.1) (0, none)
   ⟨tt, tt, tt, tt, tt, Nat.zero_le _, .start .., s0, c0, lr _, fun _ _ _ => rfl⟩ ?_
  rintro ⟨i, b⟩ A1 W1 ⟨q1, q2, q6, q8, q9, qi, qT, qS, qC, qn, qo⟩ _
  simp only at q9 qi qT qS
  by_cases hi : i < N.length
  ·simp (maxSteps:=9^9) (disch:=omega) only [BS, e_seq, ↓reduceIte, nE, c_rShort_0, q1, q9, hvN.len, ints_len, clt, hi, dT]
   repeat (rw [guard_if]; simp (maxSteps:=9^9) (disch:=omega) only [BS, BC, ↓reduceIte, nE, q2])
   refine pc (rOwn_c hP _ k) ?_
   rw [hoi]
   simp (maxSteps:=9^9) (disch:=omega) only [BS]
   repeat (rw [guard_if]; simp (maxSteps:=9^9) (disch:=omega) only [BX, ↓reduceIte, nE, BM, q1, q8, q9, e1, hvN.idx (int_at hi), bK16])
   refine (rFrom_c hP ho hv hL hl (fun e he => (hN e he).2) hNb hNl N.length W1 qS (ids := [N[i]]) (ks := []) .mk .nil (by simp) (by simp) (fun x hx => by rw [List.mem_singleton.1 hx]; exact gmm _) rfl (by simp) (by simp only [List.length_singleton]; omega)).mono ?_
   rintro _ W2 ⟨rfl, b', hF, h2, h3, h4, h5⟩
   simp (maxSteps:=9^9) (disch:=omega) only [BS, ↓reduceIte, nE, q1, q2, q6, q8, q9, wadd1]
   exact ⟨(i + 1, b'), ⟨tt, tt, tt, tt, tt, hi, qT.go (gEg hi) hF, h2, h3, by omega, fun y hy hyq => by rw [h5 y (by omega) hyq]; exact qo y hy hyq⟩, by simp only; omega, by omega⟩
  ·obtain rfl : i = N.length := by omega
   have hs := search_eq ho hNs hN (fun e he => by obtain ⟨_, h, _⟩ := hL e he; exact h) hlp qT
   have h6 : W1.get r6 = some (.row [.nilsl, .nilsl]) := by rw [qo r6 qlo.2.2 qne]; exact g6
   have hqr : (W1.put r6 (.row [ovV (bv1 b), ovV (bv2 b)])).get q = some (.row [vL, .int .u8 k, ovV (bv1 b), ovV (bv2 b), .bool b.isSome]) := by rw [put_ne (fun e => qne e.symm)]; exact qS.row
   rw [hs]
   simp (maxSteps:=9^9) (disch:=omega) only [BS, e_seq, ↓reduceIte, nE, c_rShort_0, q1, q9, hvN.len, ints_len, clt, hi, dF]
   repeat (rw [guard_if]; simp (maxSteps:=9^9) (disch:=omega) only [BX, ↓reduceIte, nE, BM, BD, nA, nL, q6, q8, qS.row, h6, ov_one, put_at, hqr])
   refine ⟨?_, ?_⟩ <;> exact ⟨_, rfl, _, W, .weak (weak_back hok (by simp only [V.bel, V.belL, ov_bel1, ov_bel2, Bool.and_self]) fun y hy => by rw [put_ne (by omega), qo y (by omega) (by omega), o0 y hy]), lr _, rfl, rfl⟩
end Go.AL.S
namespace Go.AL.S
open Go Go.AL Go.Proofs Go.Shelf
end Go.AL.S
namespace Go.AL.S
structure TS where
 met : Nat → Nat
 low : Nat → Nat
 gone : Nat → Nat
 wt : Nat → Bool
 way : List Nat
 wtg : List Nat
 ended : List (List Nat)
 cnt : Nat
end Go.AL.S
namespace Go.AL.S
end Go.AL.S
