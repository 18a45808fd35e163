/- What the program's functions do, part 5. Conditions: none. -/
import Derived.Test.YtfncnpcoekinjaaGreatDoorBd
open Nat renaming reduceEqDiff → nE, reduceLeDiff → nL, reduceAdd → nA, reduceLT → nT, le_refl → lr
open List renaming getElem?_eq_getElem → gEg, length_map → lmp, getElem_mem → gmm, length_append → lap, length_cons → lcs, mem_singleton → msg, append_nil → apn, mem_append → map', take_length → tkl, map_cons → mcs, map_append → mpp, mem_map → mmp, any_eq_true → aet, length_replicate → lrp, take_add_one → tao, length_take → ltk, mem_filter → mfl
set_option maxRecDepth 100000
set_option maxHeartbeats 8000000
namespace Go.AL.S
open Go Go.AL Go.AL.SE Go.Proofs
def c_works : AC := (.r [.v 0 (.bool false)] (.r [.p 1 (.call 19) [],.p 2 (.call 18) [.t 1,.c (.int .u8 1)],.p 3 (.bin .eql) [.t 2,.c (.str ⟨#[49, 32, 45, 119, 119, 45, 62, 32, 50, 32, 45, 119, 119, 45, 62, 32, 49]⟩)],.m 4 3,.P 5 (.call 19) [] 4 true,.P 6 (.call 18) [.t 5,.c (.int .u8 16)] 4 true,.P 7 (.bin .eql) [.t 6,.c (.str ⟨#[110, 111, 110, 101]⟩)] 4 true,.p 8 .pick [.t 4,.t 7,.F],.m 9 8,.P 10 (.bslice 1 2 (.int .u16 0) [0, 1]) [.c (.int .u16 3),.c (.int .u16 5)] 9 true,.P 11 (.bslice 1 2 (.int .u8 0) [0, 1]) [.c (.int .u8 0),.c (.int .u8 2)] 9 true,.B 12 (.build [.nilsl,.nilsl] [(0, 1), (1, 1)]) 10 11 9 true,.U 13 (.call 21) 12 9 true,.P 14 (.bin .eql) [.t 13,.c (.str ⟨#[51, 32, 45, 119, 119, 45, 62, 32, 53, 32, 45, 114, 119, 45, 62, 32, 51]⟩)] 9 true,.p 15 .pick [.t 9,.t 14,.F],.m 0 15] .ret))
theorem ok_workse : compF Tryz.prog Tryz.f9 ⟨false, false, []⟩ = some (c_works, [.tmp 0], 16) := by kernel_rfl
variable {E : Env}
def shortD (l : List De) (k : Int) : Option (List Int × List Int) := shortR (edL (buildP (toldR l).1 (toldR l).2)) (nodesR (toldR l).1) k
def elO : Option (List Int) → V
 | none => .nilsl
 | some l => elT l
def deP (ms : List Mi) : De := ⟨.sl 3 true (ms.map Mi.V), ms, .nilsl, [], 0⟩
def deR (ms : List Mi) (rs : List (Option (List Int))) : De := ⟨.sl 3 true (ms.map Mi.V), ms, .sl 1 true (rs.map elO), rs, 0⟩
theorem elO_isEl (o : Option (List Int)) : isEl (elO o) o := by
 cases o with
 | none => exact .inl ⟨rfl, rfl⟩
 | some l => exact .inr (.inr ⟨_, l, rfl, rfl⟩)
theorem belO (rs : List (Option (List Int))) (n : Nat) : V.belL n (rs.map elO) = true := by
 induction rs with
 | nil => rfl
 | cons x l ih =>
  simp only [mcs, V.belL, Bool.and_eq_true]
  refine ⟨?_, ih⟩
  cases x with
  | none => rfl
  | some l => exact belL_ints l n
theorem deP_ok {ms : List Mi} (h : ∀ m ∈ ms, m.ok) (hl : ms.length < 2 ^ 30) : (deP ms).ok ∧ (deP ms).small :=
 ⟨⟨.mk, h, ⟨[], .inl ⟨rfl, rfl⟩, rfl, fun k h => absurd h (by simp)⟩, (fun o ho => absurd ho (by simp [deP])), rfl, ⟨by simp [deP], by simp [deP]⟩⟩, hl, by simp [deP], fun o ho => absurd ho (by simp [deP])⟩
theorem deR_ok {ms : List Mi} {rs : List (Option (List Int))} (h : ∀ m ∈ ms, m.ok) (hl : ms.length < 2 ^ 30) (hr : ∀ o ∈ rs, (nums o).length < 2 ^ 30 ∧ ∀ n ∈ nums o, 0 ≤ n ∧ n < 65536) (hq : rs.length < 2 ^ 30) : (deR ms rs).ok ∧ (deR ms rs).small :=
 ⟨⟨.mk, h, ⟨_, .mk, by simp [deR], fun k h h' => by rw [List.getElem_map]; exact elO_isEl _⟩, fun o ho => (hr o ho).2, belO rs 0, ⟨by simp [deR], by simp [deR]⟩⟩, hl, hq, fun o ho => (hr o ho).1⟩
theorem twoD_eq : twoD = [deP [⟨false, 0, 1⟩, ⟨false, 1, 2⟩], deP [⟨false, 0, 3⟩, ⟨false, 1, 4⟩], deR [⟨true, 0, 0⟩, ⟨true, 1, 0⟩] [some [1, 3], some [4, 2]]] := rfl
theorem twoD_ok : ∀ d ∈ twoD, d.ok ∧ d.small := by
 rw [twoD_eq]
 simp only [List.forall_mem_cons, List.not_mem_nil, false_implies, implies_true, and_true]
 refine ⟨deP_ok (by simp [Mi.ok]) (by decide), deP_ok (by simp [Mi.ok]) (by decide), deR_ok (by simp [Mi.ok]) (by decide) (by simp [nums]) (by decide)⟩
structure Cl5 (l : List De) (k : Int) (r : Option (List Int × List Int)) : Prop where
 r : shortD l k = r
 e : (edL (buildP (toldR l).1 (toldR l).2)).length < 2 ^ 30
 n : ∀ x ∈ nodesR (toldR l).1, 0 ≤ x ∧ x < 65536
theorem text_k (hP : PE E) (hd0 : E.w0.drawn = 0) (W : AW) {v : V} {l : List De} (hv : isS 3 v (l.map De.V)) (hd : ∀ d ∈ l, d.ok ∧ d.small) (hl : l.length < 60000) {k : Int} {r : Option (List Int × List Int)} {s : ByteArray} (h : Cl5 l k r) (hc : ∀ p, r = some p → Cy p) (hs : textR r = .str s) :
  ACalls E 18 [v, .int .u8 k] W fun Y W' => Y = .str s ∧ W' = W := by
 rw [← hs]
 exact text30_c hP hd0 W hv hd hl k h.r h.e h.n hc
theorem cl5_of {l : List De} {k : Int} {r : Option (List Int × List Int)} {e : Nat} {n : List Int} (h : (shortD l k, (edL (buildP (toldR l).1 (toldR l).2)).length, nodesR (toldR l).1) = (r, e, n)) (he : e < 2 ^ 30) (hn : ∀ x ∈ n, 0 ≤ x ∧ x < 65536) : Cl5 l k r := by
 injection h with h1 h
 injection h with h2 h3
 exact ⟨h1, by rw [h2]; exact he, by rw [h3]; exact hn⟩
theorem cy2 {a b c d : Int} (ha : 0 ≤ a ∧ a < 100) (hb : 0 ≤ b ∧ b < 100) (hc : 0 ≤ c ∧ c < 256) (hd : 0 ≤ d ∧ d < 256) : ∀ p, some ([a, b], [c, d]) = some p → Cy p := by
 rintro _ ⟨⟩
 exact ⟨rfl, by simp, by simp, by simp [ha, hb], by simp [hc, hd]⟩
theorem two1 : Cl5 twoD 1 (some ([1, 2], [0, 0])) := cl5_of (e := 4) (n := [1, 2, 3]) (by kernel_rfl) (by decide) (by simp)
theorem two16 : Cl5 twoD 16 none := cl5_of (e := 4) (n := [1, 2, 3]) (by kernel_rfl) (by decide) (by simp)
def tWW : ByteArray := ⟨#[49, 32, 45, 119, 119, 45, 62, 32, 50, 32, 45, 119, 119, 45, 62, 32, 49]⟩
def tNo : ByteArray := ⟨#[110, 111, 110, 101]⟩
theorem tWW_eq : textR (some ([1, 2], [0, 0])) = .str tWW := by kernel_rfl
theorem tNo_eq : textR none = .str tNo := rfl
theorem eqSS {W : AW} {K : V → AW → Prop} {a b : ByteArray} (h : a = b) : sem E (.bin .eql) [.str a, .str b] W K = K (.bool true) W := by
 subst h
 simp [sem, rsem, tsem, binS]
def tPl : ByteArray := ⟨#[51, 32, 45, 119, 119, 45, 62, 32, 53, 32, 45, 114, 119, 45, 62, 32, 51]⟩
theorem tPl_eq : textR (some ([3, 5], [0, 2])) = .str tPl := by kernel_rfl
theorem cText2 (hP : PE E) (hd0 : E.w0.drawn = 0) (W : AW) {a b c d : Int} (ha : 0 ≤ a ∧ a < 100) (hb : 0 ≤ b ∧ b < 100) (hc : 0 ≤ c ∧ c < 256) (hd : 0 ≤ d ∧ d < 256) {s : ByteArray} (hs : textR (some ([a, b], [c, d])) = .str s) :
  ACalls E 21 [.agg [.sl 1 true [.int .u16 a, .int .u16 b], .sl 1 true [.int .u8 c, .int .u8 d]]] W fun Y W' => Y = .str s ∧ W' = W := by
 rw [← hs]
 exact Cy.text hP hd0 W (cy2 ha hb hc hd _ rfl) .mk .mk
theorem bK2 {W : AW} {K : V → AW → Prop} {a b : Int} : sem E (.bslice 1 2 (.int .u8 0) [0, 1]) [.int .u8 a, .int .u8 b] W K = K (.sl 1 true [.int .u8 a, .int .u8 b]) W := id rfl
theorem eqWW {W : AW} {K : V → AW → Prop} : sem E (.bin .eql) [.str tWW, .str ⟨#[49, 32, 45, 119, 119, 45, 62, 32, 50, 32, 45, 119, 119, 45, 62, 32, 49]⟩] W K = K (.bool true) W := eqSS rfl
theorem eqNo {W : AW} {K : V → AW → Prop} : sem E (.bin .eql) [.str tNo, .str ⟨#[110, 111, 110, 101]⟩] W K = K (.bool true) W := eqSS rfl
theorem eqPl {W : AW} {K : V → AW → Prop} : sem E (.bin .eql) [.str tPl, .str ⟨#[51, 32, 45, 119, 119, 45, 62, 32, 53, 32, 45, 114, 119, 45, 62, 32, 51]⟩] W K = K (.bool true) W := eqSS rfl
theorem works_c (hP : PE E) (hd0 : E.w0.drawn = 0) (W : AW) : ACalls E 9 [] W fun Y W' => Y = .bool true ∧ W' = W := by
 refine ACalls.of hP Tryz.func9 ok_workse (by simp) fun _ hok => ?_
 refine awp_start hok ?_
 simp (maxSteps:=9^9) (disch:=omega) only [BZ, c_works]
 refine pc (twoWW_c hP _) ?_
 simp (maxSteps:=9^9) (disch:=omega) only [BS, BC, ↓reduceIte, ]
 refine pc (text_k hP hd0 _ .mk twoD_ok (by decide) two1 (cy2 (by decide) (by decide) (by decide) (by decide)) tWW_eq) ?_
 simp (maxSteps:=9^9) (disch:=omega) only [BS, ↓reduceIte, eqWW]
 rw [guard_if]
 simp (maxSteps:=9^9) (disch:=omega) only [BS, BC, ↓reduceIte, ]
 refine pc (twoWW_c hP _) ?_
 simp (maxSteps:=9^9) (disch:=omega) only [BS, ]
 rw [guard_if]
 simp (maxSteps:=9^9) (disch:=omega) only [BS, BC, ↓reduceIte, nE, ]
 refine pc (text_k hP hd0 _ .mk twoD_ok (by decide) two16 (fun p h => by cases h) tNo_eq) ?_
 simp (maxSteps:=9^9) (disch:=omega) only [BS, ]
 rw [guard_if]
 simp (maxSteps:=9^9) (disch:=omega) only [BS, ↓reduceIte, nE, eqNo]
 rw [guard_if]
 simp (maxSteps:=9^9) (disch:=omega) only [BS, ↓reduceIte, bU2]
 rw [guard_if]
 simp (maxSteps:=9^9) (disch:=omega) only [BS, ↓reduceIte, nE, bK2]
 rw [guard_if]
 simp (maxSteps:=9^9) (disch:=omega) only [BS, ↓reduceIte, nE, BM, BD, nA, nL]
 rw [guard_if]
 simp (maxSteps:=9^9) (disch:=omega) only [BS, BC, ↓reduceIte, nE, ]
 refine pc (cText2 hP hd0 _ (by decide) (by decide) (by decide) (by decide) tPl_eq) ?_
 simp (maxSteps:=9^9) (disch:=omega) only [BS, ]
 rw [guard_if]
 simp (maxSteps:=9^9) (disch:=omega) only [BS, BC, ↓reduceIte, nE, eqPl]
 exact ⟨_, rfl, _, W, .weak (weak_back hok rfl fun y hy => by rw [X_old (by omega)]), lr _, rfl, rfl⟩
end Go.AL.S
set_option maxHeartbeats 4000000
namespace Go.AL.S
open Go Go.AL Go.Proofs Go.Sort Go.Shelf Go.RowKit
variable {E : Env}
def maxR : List Int → Int
 | [] => 0
 | x :: l => l.foldl max x
def minR : List Int → Int
 | [] => 0
 | x :: l => l.foldl min x
theorem fold_take {f : Int → Int → Int} {x : Int} {l : List Int} {k : Nat} {y : Int} (h : l[k]? = some y) : (l.take (k + 1)).foldl f x = f ((l.take k).foldl f x) y := by
 rw [tao, h, List.foldl_append]
 rfl
theorem max8_w (b o c : Nat) (x : Int) (l : List Int) (W : World) (hl : l.length < 2 ^ 40) (hb : ∀ i y, (x :: l)[i]? = some y → W.cell? ⟨b, o + i, none⟩ = some (.int .u8 y)) :
  Calls Tryz.prog 49 #[.slice (some ⟨b, o, none⟩) (l.length + 1) c] W fun e w' => e = .returned (.int .u8 (maxR (x :: l))) ∧ w' = W := by
 have h0 : W.cell? ⟨b, o, none⟩ = some (.int .u8 x) := hb 0 x rfl
 go_enter Tryz.func49, Tryz.ntmps49
 go_wp2
 have hz : decide ((l.length : Int) + 1 < 1) = false := by simp; omega
 try rw [hz]
 go_loop [3, 4] (fun m i => ∃ k : Nat, k ≤ l.length ∧ i = .int .i64 ((k : Int) + 1) ∧ m = .int .u8 ((l.take k).foldl max x)) (fun _ i => l.length + 1 - (Proofs.intOf i).toNat)
 case atStart => exact ⟨0, Nat.zero_le _, rfl, rfl⟩
 case round =>
  obtain ⟨k, hk, rfl, rfl⟩ := hrel
  by_cases hp : k < l.length
  ·obtain ⟨y, hy⟩ : ∃ y, l[k]? = some y := ⟨_, gEg hp⟩
   have hc : W.cell? ⟨b, o + (k + 1), none⟩ = some (.int .u8 y) := hb (k + 1) y (by simpa using hy)
   have HT := Lib.hid (fold_take (f := max) (x := x) hy)
   go_wp2
   go_round
   case rel =>
    exact ⟨k + 1, by omega, by simp, congrArg _ (fold_take (f := max) (gEg hp)).symm⟩
   case measure =>
    simp only [Proofs.intOf]
    omega
  ·obtain rfl : k = l.length := by omega
   go_wp2
   go_ret
   exact ⟨rfl, rfl⟩
theorem min16_w (b o c : Nat) (x : Int) (l : List Int) (W : World) (hl : l.length < 2 ^ 40) (hb : ∀ i y, (x :: l)[i]? = some y → W.cell? ⟨b, o + i, none⟩ = some (.int .u16 y)) :
  Calls Tryz.prog 50 #[.slice (some ⟨b, o, none⟩) (l.length + 1) c] W fun e w' => e = .returned (.int .u16 (minR (x :: l))) ∧ w' = W := by
 have h0 : W.cell? ⟨b, o, none⟩ = some (.int .u16 x) := hb 0 x rfl
 go_enter Tryz.func50, Tryz.ntmps50
 go_wp2
 have hz : decide ((l.length : Int) + 1 < 1) = false := by simp; omega
 try rw [hz]
 go_loop [3, 4] (fun m i => ∃ k : Nat, k ≤ l.length ∧ i = .int .i64 ((k : Int) + 1) ∧ m = .int .u16 ((l.take k).foldl min x)) (fun _ i => l.length + 1 - (Proofs.intOf i).toNat)
 case atStart => exact ⟨0, Nat.zero_le _, rfl, rfl⟩
 case round =>
  obtain ⟨k, hk, rfl, rfl⟩ := hrel
  by_cases hp : k < l.length
  ·obtain ⟨y, hy⟩ : ∃ y, l[k]? = some y := ⟨_, gEg hp⟩
   have hc : W.cell? ⟨b, o + (k + 1), none⟩ = some (.int .u16 y) := hb (k + 1) y (by simpa using hy)
   have HT := Lib.hid (fold_take (f := min) (x := x) hy)
   go_wp2
   go_round
   case rel =>
    exact ⟨k + 1, by omega, by simp, congrArg _ (fold_take (f := min) (gEg hp)).symm⟩
   case measure =>
    simp only [Proofs.intOf]
    omega
  ·obtain rfl : k = l.length := by omega
   go_wp2
   go_ret
   exact ⟨rfl, rfl⟩
theorem max8_c (hP : PE E) (W : AW) {v : V} {l : List Int} (h : isS 1 v (u8s l)) (h0 : 0 < l.length) (hl : l.length < 2 ^ 30) : ACalls E 49 [v] W fun Y W' => Y = .int .u8 (maxR l) ∧ W' = W := by
 refine ⟨⟨_, _, by rw [hP]; exact Tryz.func49, rfl, by decide⟩, fun _ γ w ws hW hr => ?_⟩
 obtain ⟨_, _, rfl, r1, rfl⟩ := hr
 obtain ⟨b, o, c, rfl, hb, k⟩ := isS_cells hW h h0 r1
 rw [hP]
 cases l with
 | nil => exact absurd h0 (by simp)
 | cons x l =>
  refine Calls.mono (max8_w b o c x l w (by simp at hl; omega) k) ?_
  rintro en w' ⟨rfl, rfl⟩
  exact ⟨_, γ, .int .u8 _, W, rfl, G.le.refl _ _, lr _, hW, rfl, rfl, rfl⟩
theorem min16_c (hP : PE E) (W : AW) {v : V} {l : List Int} (h : isS 1 v (intsV l)) (h0 : 0 < l.length) (hl : l.length < 2 ^ 30) : ACalls E 50 [v] W fun Y W' => Y = .int .u16 (minR l) ∧ W' = W := by
 refine ⟨⟨_, _, by rw [hP]; exact Tryz.func50, rfl, by decide⟩, fun _ γ w ws hW hr => ?_⟩
 obtain ⟨_, _, rfl, r1, rfl⟩ := hr
 obtain ⟨b, o, c, rfl, hb, k⟩ := isS_cells hW h h0 r1
 rw [hP]
 cases l with
 | nil => exact absurd h0 (by simp)
 | cons x l =>
  refine Calls.mono (min16_w b o c x l w (by simp at hl; omega) k) ?_
  rintro en w' ⟨rfl, rfl⟩
  exact ⟨_, γ, .int .u16 _, W, rfl, G.le.refl _ _, lr _, hW, rfl, rfl, rfl⟩
end Go.AL.S
namespace Go.AL.S
open Go Go.AL Go.AL.SE Go.Proofs
def c_hasG : AC := (.r [.u 3 .box 1,.v 4 (.bool false)] (.seq (.par (.step 0 (.m 5 0) (.step 1 (.p 6 (.eqn true 0) [.t 5,.c (.nilptr)]) (.step 2 (.m 7 6) (.step 3 (.M 8 0 7 true) (.step 4 (.U 9 .nilck 8 7 true) (.step 5 (.U 10 (.fld 1) 9 7 true) (.step 6 (.U 11 (.load false 1) 10 7 true) (.step 7 (.U 12 (.load true 3) 3 7 true) (.step 8 (.B 13 (.lookup (true, [.i .u16,.i .u16,.i .u8]) (.int .i64 0) false) 11 12 7 true) (.step 9 (.P 14 (.bin .gtr) [.t 13,.i 0] 7 true) (.step 10 (.p 15 .pick [.t 7,.t 14,.F]) (.step 11 (.m 4 15) .done))))))))))))) .ret))
theorem ok_hasGe : compF Tryz.prog Tryz.f52 ⟨false, false, []⟩ = some (c_hasG, [.tmp 4], 16) := by kernel_rfl
variable {E : Env}
theorem hasG_x (hP : PE E) (W : AW) {g m : Nat} {h : V} {P : List Ek} (hg : W.get g = some (.row [h, .map m])) (hm : W.get m = some (gmap P)) (hgl : g < W.nx) (hml : m < W.nx) (hpk : ∀ x ∈ P, ekOk x) (e : Ed) (he : ekOk (ofEd e)) : ACalls E 52 [.ptr g 0, e.V] W fun Y W' => Y = .bool (decide (ofEd e ∈ P)) ∧ W' = W := by
 refine ACalls.of hP Tryz.func52 ok_hasGe (by simp) fun _ hok => ?_
 refine awp_start hok ?_
 have hgr : ∀ l, (X W W.nx l).get g = some (.row [h, .map m]) := fun l => by rw [X_old hgl]; exact hg
 have hmr : ∀ l, (X W W.nx l).get m = some (gmap P) := fun l => by rw [X_old hml]; exact hm
 have hks := g_keys (tally_ok hpk) he 0
 have hlk : ∀ l K, sem E (.lookup shE (.int .i64 0) false) [.map m, .agg [.int .u16 e.fr, .int .u16 e.to, .int .u8 e.kd]] (X W W.nx l) K = K (.int .i64 ((getE (tally P) (ofEd e)).getD 0)) (X W W.nx l) := fun l K => by
  rw [show V.agg [.int .u16 e.fr, .int .u16 e.to, .int .u8 e.kd] = ekV (ofEd e) from rfl, m_lookup (hmr l) hks, lookK_g]
 have hv : decide ((getE (tally P) (ofEd e)).getD 0 > 0) = decide (ofEd e ∈ P) := by
  rw [tally_get]
  by_cases hmm : ofEd e ∈ P
  ·rw [if_pos hmm, Option.getD_some, decide_eq_true hmm, decide_eq_true (by have := List.count_pos_iff.2 hmm; omega)]
  ·rw [if_neg hmm, Option.getD_none, decide_eq_false hmm]; rfl
 simp (maxSteps:=9^9) (disch:=omega) only [BZ, ↓reduceIte, reduceCtorEq, BM, BD, c_hasG, Ed.V]
 repeat (rw [guard_if]; simp (maxSteps:=9^9) (disch:=omega) only [BS, BC, ↓reduceIte, nE, reduceCtorEq, BM, BD, nA, nL, hg, hlk, hv])
 exact ⟨_, rfl, _, W, backX hok rfl, lr _, rfl, rfl⟩
def c_cIs_0 : AC := (.r [.b 63 (.bin .lss) 62 61] (.seq (.w 63 0) (.seq (.block 1 (.r [.m 64 62,.b 65 (.idxp 1) 60 62,.u 66 (.load false 1) 65,.m 10 64,.m 11 66] (.seq (.par (.step 0 (.u 67 (.fld 0) 5) (.step 2 (.m 69 10) (.step 4 (.m 71 11) (.step 1 (.u 68 (.load false 1) 67) (.step 3 (.b 70 (.slc 1 false true false) 68 69) (.step 5 (.b 72 (.call 51) 70 71) (.step 6 (.m 73 72) (.step 7 (.M 74 0 73 false) (.step 8 (.M 75 11 73 false) (.step 9 (.U 76 (.fld 0) 5 73 false) (.step 11 (.M 78 10 73 false) (.step 12 (.P 79 (.bin .add) [.t 78,.i 1] 73 false) (.step 13 (.M 80 9 73 false) (.step 14 (.B 81 (.bin .rem) 79 80 73 false) (.step 17 (.U 84 (.fld 1) 5 73 false) (.step 19 (.M 86 10 73 false) (.step 10 (.U 77 (.load false 1) 76 73 false) (.step 15 (.B 82 (.idxp 1) 77 81 73 false) (.step 16 (.U 83 (.load false 1) 82 73 false) (.step 18 (.U 85 (.load false 1) 84 73 false) (.step 20 (.B 87 (.idxp 1) 85 86 73 false) (.step 21 (.U 88 (.load false 1) 87 73 false) (.step 22 (.P 89 (.build [.int .u16 0,.int .u16 0,.int .u8 0] [(0, 1), (1, 1), (2, 1)]) [.t 75,.t 83,.t 88] 73 false) (.step 23 (.B 90 (.call 52) 74 89 73 false) (.step 24 (.U 91 (.un .not) 90 73 false) (.step 25 (.p 92 .pick [.t 73,.T,.t 91]) .done))))))))))))))))))))))))))) (.cond (.t 92) (.r [.v 6 (.bool false)] .ret) .skip)))) (.reg [.a 93 (.bin .add) 62 1,.m 62 93]))))
def c_cIs : AC := (.r [.u 5 .box 2,.v 6 (.bool false)] (.r [.m 13 1,.u 14 (.call 40) 13,.m 12 14,.u 15 (.ext 0) 12,.u 16 (.ext 1) 12,.p 7 (.alloc [.int .u8 0]) [],⟨none,.store 1, [.t 7,.t 15], none⟩,.m 8 16] (.r [.u 17 (.fld 0) 5,.u 18 (.load false 1) 17,.u 19 (.len 1 0) 18,.m 9 19] (.seq (.seq (.par (.step 0 (.m 20 8) (.step 1 (.u 21 (.un .not) 20) (.step 2 (.m 22 21) (.step 3 (.M 23 9 22 false) (.step 4 (.P 24 (.bin .lss) [.t 23,.i 2] 22 false) (.step 5 (.p 25 .pick [.t 22,.T,.t 24]) (.step 6 (.m 26 25) (.step 7 (.U 27 (.fld 1) 5 26 false) (.step 10 (.M 30 9 26 false) (.step 8 (.U 28 (.load false 1) 27 26 false) (.step 9 (.U 29 (.len 1 0) 28 26 false) (.step 11 (.B 31 (.bin .neq) 29 30 26 false) (.step 12 (.p 32 .pick [.t 26,.T,.t 31]) (.step 13 (.m 33 32) (.step 14 (.U 34 (.fld 1) 5 33 false) (.step 16 (.U 36 (.fld 0) 7 33 false) (.step 15 (.U 35 (.load false 1) 34 33 false) (.step 17 (.U 37 (.load false 1) 36 33 false) (.step 18 (.B 38 (.pcall 48) 35 37 33 false) (.step 19 (.U 39 (.un .not) 38 33 false) (.step 20 (.p 40 .pick [.t 33,.T,.t 39]) (.step 21 (.m 41 40) (.step 22 (.U 42 (.fld 1) 5 41 false) (.step 25 (.U 45 (.fld 0) 7 41 false) (.step 23 (.U 43 (.load false 1) 42 41 false) (.step 24 (.U 44 (.pcall 49) 43 41 false) (.step 26 (.U 46 (.load false 1) 45 41 false) (.step 27 (.B 47 (.bin .gtr) 44 46 41 false) (.step 28 (.p 48 .pick [.t 41,.T,.t 47]) (.step 29 (.m 49 48) (.step 30 (.U 50 (.fld 0) 5 49 false) (.step 33 (.U 53 (.fld 0) 5 49 false) (.step 31 (.U 51 (.load false 1) 50 49 false) (.step 32 (.U 52 (.pcall 50) 51 49 false) (.step 34 (.U 54 (.load false 1) 53 49 false) (.step 35 (.P 55 (.idxp 1) [.t 54,.i 0] 49 false) (.step 36 (.U 56 (.load false 1) 55 49 false) (.step 37 (.B 57 (.bin .neq) 52 56 49 false) (.step 38 (.p 58 .pick [.t 49,.T,.t 57]) .done)))))))))))))))))))))))))))))))))))))))) (.cond (.t 58) (.r [.v 6 (.bool false)] .ret) .skip)) (.seq (.r [.u 59 (.fld 0) 5,.u 60 (.load false 1) 59,.u 61 (.len 1 0) 60,.v 62 (.int .i64 0)] (.block 0 (.loop c_cIs_0))) (.r [.v 6 (.bool true)] .ret))))))
theorem ok_cIse : compF Tryz.prog Tryz.f20 ⟨false, false, []⟩ = some (c_cIs, [.tmp 6], 94) := by kernel_rfl
def isAt (f : Ed → Bool) (ids ks : List Int) (i : Nat) : Bool := !(ids.take i).any (fun x => decide (ids.getD i 0 = x)) && f ⟨ids.getD i 0, ids.getD ((i + 1) % ids.length) 0, ks.getD i 0⟩
def isGo (f : Ed → Bool) (ids ks : List Int) (n : Nat) : Bool := (List.range n).all (isAt f ids ks)
def isR (f : Ed → Bool) (k : Int) (ids ks : List Int) : Bool := match ownR k with
 | none => false
 | some own => decide (2 ≤ ids.length) && decide (ks.length = ids.length) && ks.any (fun x => decide (own = x)) && decide (maxR ks ≤ own) && decide (minR ids = ids.getD 0 0) && isGo f ids ks ids.length
theorem remQ {W : AW} {K : V → AW → Prop} {k : IntKind} {a b : Nat} (h : 0 < b) : sem E (.bin .rem) [.int k (a : Int), .int k (b : Int)] W K = K (.int k ((a % b : Nat) : Int)) W := by
 have : (b : Int) ≠ 0 := by omega
 have h2 : (b : Int) = 0 ↔ False := iff_false_intro this
 simp only [sem, rsem, tsem, if_true, binI, h2, if_false, Int.ofNat_tmod]
theorem isGo_succ (f : Ed → Bool) (ids ks : List Int) (i : Nat) : isGo f ids ks (i + 1) = (isGo f ids ks i && isAt f ids ks i) := by
 simp [isGo, List.range_succ, List.all_append]
theorem isGo_no {f : Ed → Bool} {ids ks : List Int} {i n : Nat} (h : isAt f ids ks i = false) (hn : i < n) : isGo f ids ks n = false := by
 cases hg : isGo f ids ks n with
 | false => rfl
 | true =>
  have := List.all_eq_true.1 hg i (List.mem_range.2 hn)
  rw [h] at this
  exact absurd this (by simp)
theorem ints_getD {l : List Int} {i : Nat} (h : i < l.length) : (intsV l)[i]? = some (.int .u16 (l.getD i 0)) := by
 rw [int_at h]; simp [List.getD, h]
theorem u8_getD {l : List Int} {i : Nat} (h : i < l.length) : (u8s l)[i]? = some (.int .u8 (l.getD i 0)) := by
 simp [u8s, List.getD, h]
theorem getD_in {l : List Int} {i : Nat} (h : i < l.length) : l.getD i 0 ∈ l := by
 simp [List.getD, h]
theorem cIs_c (hP : PE E) (W : AW) {gp v1 v2 : V} {ids ks : List Int} (f : Ed → Bool) (i1 : isS 1 v1 (intsV ids)) (i2 : isS 1 v2 (u8s ks)) (hi : ∀ x ∈ ids, 0 ≤ x ∧ x < 65536) (hk : ∀ x ∈ ks, 0 ≤ x ∧ x < 256) (hl : ids.length < 2 ^ 20) (_ : ks.length < 2 ^ 20) (k : Int)
  (_ : gp.cells = [gp]) (_ : gp.one = true) (hgf : ∀ W : AW, W.frz gp = gp) (hf : ∀ l e, ekOk (ofEd e) → ACalls E 52 [gp, e.V] (X W W.nx l) fun Y W' => Y = .bool (f e) ∧ W' = X W W.nx l) :
  ACalls E 20 [gp, .int .u8 k, .agg [v1, v2]] W fun Y W' => Y = .bool (isR f k ids ks) ∧ W' = W := by
 refine ACalls.of hP Tryz.func20 ok_cIse (by simp) fun _ hok => ?_
 refine awp_start hok ?_
 have fin : ∀ l b, b = isR f k ids ks → ∃ X0, some (V.bool b) = some X0 ∧ ∃ Y W', RetV X0 (X W W.nx l) Y W' ∧ W.nx ≤ W'.nx ∧ Y = .bool (isR f k ids ks) ∧ W' = W := fun l b hb => ⟨_, rfl, _, W, .weak (weak_back hok rfl fun y hy => by rw [X_old (by omega)]), lr _, by rw [hb], rfl⟩
 simp (maxSteps:=9^9) (disch:=omega) only [BZ, ↓reduceIte, nE, BM, BD, c_cIs]
 refine pc (cof_c hP _ k) ?_
 have hn1 : (intsV ids).length = ids.length := by simp [intsV]
 have hn2 : (u8s ks).length = ks.length := by simp [u8s]
 cases ho : ownR k with
 | none =>
  have hR : isR f k ids ks = false := by simp [isR, ho]
  simp (maxSteps:=9^9) (disch:=omega) only [BZ, ↓reduceIte, nE, BM, BD, nA, nL, nT, Option.isSome_none, Option.getD_none, i1.len, hn1]
  repeat (rw [guard_if]; simp (maxSteps:=9^9) (disch:=omega) only [BX, ↓reduceIte, nE, BM])
  exact fin _ _ hR.symm
 | some own =>
  simp (maxSteps:=9^9) (disch:=omega) only [BZ, ↓reduceIte, nE, BM, BD, nA, nL, nT, Option.isSome_some, Option.getD_some, i1.len, hn1]
  by_cases h2 : ids.length < 2
  ·have c2 : decide ((ids.length : Int) < 2) = true := by simp; omega
   have hR : isR f k ids ks = false := by simp [isR, ho]; intro h; omega
   repeat (rw [guard_if]; simp (maxSteps:=9^9) (disch:=omega) only [BX, ↓reduceIte, nE, BM, c2])
   exact fin _ _ hR.symm
  have c2 : decide ((ids.length : Int) < 2) = false := by simp; omega
  by_cases h3 : ks.length ≠ ids.length
  ·have c3 : ((ks.length : Int) != (ids.length : Int)) = true := by simp; omega
   have hR : isR f k ids ks = false := by simp [isR, ho, h3]
   repeat (rw [guard_if]; simp (maxSteps:=9^9) (disch:=omega) only [BX, ↓reduceIte, nE, BM, BD, i2.len, hn2, c2, c3])
   exact fin _ _ hR.symm
  have h3 : ks.length = ids.length := Decidable.not_not.1 h3
  have c3 : ((ks.length : Int) != (ids.length : Int)) = false := by simp; omega
  repeat (rw [guard_if]; simp (maxSteps:=9^9) (disch:=omega) only [BS, BC, ↓reduceIte, nE, BM, BD, i2.len, hn2, c2, c3])
  refine pcall_go (by simp only [mcs, List.map_nil, i2.frz]; rfl) (has8_c hP _ i2 (by omega) own) ?_
  cases h4 : ks.any (fun x => decide (own = x)) with
  | false =>
   have hR : isR f k ids ks = false := by simp only [isR, ho, h4, Bool.and_false, Bool.false_and]
   simp (maxSteps:=9^9) (disch:=omega) only [BS, ]
   repeat (rw [guard_if]; simp (maxSteps:=9^9) (disch:=omega) only [BX, ↓reduceIte, nE, BM, BD])
   exact fin _ _ hR.symm
  | true =>
  simp (maxSteps:=9^9) (disch:=omega) only [BS, ]
  repeat (rw [guard_if]; simp (maxSteps:=9^9) (disch:=omega) only [BS, BC, ↓reduceIte, nE, BM, BD])
  refine pcall_go (by simp only [mcs, List.map_nil, i2.frz]) (max8_c hP _ i2 (by omega) (by omega)) ?_
  by_cases h5 : maxR ks > own
  ·have c5 : decide (maxR ks > own) = true := decide_eq_true h5
   have hR : isR f k ids ks = false := by simp only [isR, ho, show decide (maxR ks ≤ own) = false from decide_eq_false (by omega), Bool.and_false, Bool.false_and]
   simp (maxSteps:=9^9) (disch:=omega) only [BS]
   repeat (rw [guard_if]; simp (maxSteps:=9^9) (disch:=omega) only [BX, ↓reduceIte, nE, BM, c5])
   exact fin _ _ hR.symm
  have c5 : decide (maxR ks > own) = false := decide_eq_false h5
  simp (maxSteps:=9^9) (disch:=omega) only [BS]
  repeat (rw [guard_if]; simp (maxSteps:=9^9) (disch:=omega) only [BS, BC, ↓reduceIte, nE, BM, BD, c5])
  refine pcall_go (by simp only [mcs, List.map_nil, i1.frz]) (min16_c hP _ i1 (by omega) (by omega)) ?_
  have hat0 : (intsV ids)[0]? = some (.int .u16 (ids.getD 0 0)) := by
   cases ids with
   | nil => exact absurd h2 (by simp)
   | cons x l => rfl
  have hix : ∀ W K, sem E (.idxp 1) [v1, .int .i64 0] W K = K (.cptr [.int .u16 (ids.getD 0 0)]) W := fun W K => i1.idx (k := 0) hat0
  by_cases h6 : minR ids ≠ ids.getD 0 0
  ·have c6 : (minR ids != ids.getD 0 0) = true := bne_iff_ne.2 h6
   have hR : isR f k ids ks = false := by simp only [isR, ho, show decide (minR ids = ids.getD 0 0) = false from decide_eq_false h6, Bool.and_false, Bool.false_and]
   simp (maxSteps:=9^9) (disch:=omega) only [BS]
   repeat (rw [guard_if]; simp (maxSteps:=9^9) (disch:=omega) only [BX, ↓reduceIte, nE, BM, c6, hix])
   exact fin _ _ hR.symm
  have h6 : minR ids = ids.getD 0 0 := Decidable.not_not.1 h6
  have c6 : (minR ids != ids.getD 0 0) = false := by rw [h6]; simp
  simp (maxSteps:=9^9) (disch:=omega) only [BS]
  repeat (rw [guard_if]; simp (maxSteps:=9^9) (disch:=omega) only [BX, ↓reduceIte, nE, BM, BD, i1.len, hn1, c6, hix])
  have hRg : isR f k ids ks = isGo f ids ks ids.length := by
   have e2 : decide (2 ≤ ids.length) = true := by simp; omega
   have e3 : decide (ks.length = ids.length) = true := by simp [h3]
   have e5 : decide (maxR ks ≤ own) = true := by simp; omega
   have e6 : decide (minR ids = ids.getD 0 0) = true := decide_eq_true h6
   simp only [isR, ho, h4, e2, e3, e5, e6, Bool.true_and]
  rw [e_loop]
  refine alp (fun (i : Nat) A1 W1 => A1 0 = some gp ∧ A1 5 = some (.ptr (rf W.nx 0) 0) ∧ A1 9 = some (.int .i64 ids.length) ∧ A1 60 = some v1 ∧ A1 61 = some (.int .i64 ids.length) ∧ A1 62 = some (.int .i64 (i : Nat)) ∧ i ≤ ids.length ∧ isGo f ids ks i = true ∧ W1 = X W W.nx [.row [v1, v2], .row [.int .u8 own]]) (fun i => ids.length - i) 0
   ⟨rfl, rfl, rfl, rfl, rfl, rfl, Nat.zero_le _, rfl, rfl⟩ ?_
  rintro i A1 _ ⟨q0, q5, q9, q60, q61, q62, qi, qg, rfl⟩ _
  by_cases hp : i < ids.length
  ·have hat := ints_getD hp
   have hj : (i + 1) % ids.length < ids.length := Nat.mod_lt _ (by omega)
   have hat2 := ints_getD hj
   have hat3 := u8_getD (l := ks) (i := i) (by omega)
   have ht := i1.take i
   rw [ints_take] at ht
   have hx : ∀ W K, sem E (.idxp 1) [v1, .int .i64 (i : Int)] W K = K (.cptr [.int .u16 (ids.getD i 0)]) W := fun W K => i1.idx (k := i) hat
   have hx2 : ∀ W K, sem E (.idxp 1) [v1, .int .i64 (((i + 1) % ids.length : Nat) : Int)] W K = K (.cptr [.int .u16 (ids.getD ((i + 1) % ids.length) 0)]) W := fun W K => i1.idx (k := (i + 1) % ids.length) hat2
   have hx3 : ∀ W K, sem E (.idxp 1) [v2, .int .i64 (i : Int)] W K = K (.cptr [.int .u8 (ks.getD i 0)]) W := fun W K => i2.idx (k := i) hat3
   have hsl : ∀ W K, sem E (.slc 1 false true false) [v1, .int .i64 (i : Int)] W K = K (takeV v1 i) W := fun W K => i1.slc (by rw [hn1]; exact qi)
   have hrm : ∀ W K, sem E (.bin .rem) [.int .i64 ((i + 1 : Nat) : Int), .int .i64 (ids.length : Int)] W K = K (.int .i64 (((i + 1) % ids.length : Nat) : Int)) W := fun W K => remQ (by omega)
   simp (maxSteps:=9^9) (disch:=omega) only [BX, ↓reduceIte, nE, BM, BD, nA, c_cIs_0, q5, q60, q61, q62, clt, hp, dT, hx, hsl, ht.frz]
   refine pc (has16_c hP _ ht (by simp; omega) (ids.getD i 0)) ?_
   cases hc : (ids.take i).any (fun x => decide (ids.getD i 0 = x)) with
   | true =>
    have hA : isAt f ids ks i = false := by simp only [isAt, hc, Bool.not_true, Bool.false_and]
    simp (maxSteps:=9^9) (disch:=omega) only [BS, ↓reduceIte, ]
    repeat (rw [guard_if]; simp (maxSteps:=9^9) (disch:=omega) only [BX, ↓reduceIte, nE, BM, ])
    exact fin _ _ (by rw [hRg, isGo_no hA hp])
   | false =>
   simp (maxSteps:=9^9) (disch:=omega) only [BS, ↓reduceIte, ]
   repeat (rw [guard_if]; simp (maxSteps:=9^9) (disch:=omega) only [BS, BC, ↓reduceIte, nE, reduceCtorEq, BM, BD, nA, nL, q0, q5, q9, hx2, hx3, hrm, wadd1])
   have h1 := hi _ (getD_in hp)
   have h2' := hi _ (getD_in hj)
   have h3' := hk _ (getD_in (l := ks) (i := i) (by omega))
   rw [hgf]
   refine pc (hf _ ⟨ids.getD i 0, ids.getD ((i + 1) % ids.length) 0, ks.getD i 0⟩ ⟨h1, h2', h3'⟩) ?_
   cases hfe : f ⟨ids.getD i 0, ids.getD ((i + 1) % ids.length) 0, ks.getD i 0⟩ with
   | false =>
    have hA : isAt f ids ks i = false := by simp only [isAt, hfe, Bool.and_false]
    simp (maxSteps:=9^9) (disch:=omega) only [BS, ]
    repeat (rw [guard_if]; simp (maxSteps:=9^9) (disch:=omega) only [BX, ↓reduceIte, nE, BD, ])
    exact fin _ _ (by rw [hRg, isGo_no hA hp])
   | true =>
    have hA : isAt f ids ks i = true := by simp only [isAt, hfe, hc, Bool.and_true, Bool.not_false]
    simp (maxSteps:=9^9) (disch:=omega) only [BS, ]
    repeat (rw [guard_if]; simp (maxSteps:=9^9) (disch:=omega) only [BS, BC, cond_if, ↓reduceIte, nE, reduceCtorEq, BM, BD, nA, q0, q5, q9, q60, q61, q62, wadd1])
    exact ⟨i + 1, ⟨tt, tt, tt, tt, tt, tt, hp, by rw [isGo_succ, qg, hA]; rfl, tt⟩, by omega, by omega⟩
  ·obtain rfl : i = ids.length := by omega
   simp (maxSteps:=9^9) (disch:=omega) only [BX, ↓reduceIte, BM, BD, nA, c_cIs_0, q61, q62, clt, hp, dF]
   exact fin _ _ (by rw [hRg, qg])
end Go.AL.S
namespace Go.AL.S
open Go Go.AL Go.Proofs Go.Sort Go.Shelf Go.RowKit
variable {E : Env}
theorem cTextE_w (W : World) : Calls Tryz.prog 21 #[.agg #[.slice none 0 0, .slice none 0 0]] W fun e w' => e = .returned (.string ⟨#[]⟩) ∧ RowKit.Below W.heap.size W w' := by
 go_enter Tryz.func21, Tryz.ntmps21
 go_wp2
 go_ret
 exact ⟨rfl, (RowKit.Below.refl _ W).alloc (lr _) _⟩
theorem cTextO_w (a : Addr) (c : Nat) (W : World) : Calls Tryz.prog 21 #[.agg #[.slice (some a) 1 c, .slice none 0 0]] W fun e w' => e = .returned (.string ⟨#[]⟩) ∧ RowKit.Below W.heap.size W w' := by
 go_enter Tryz.func21, Tryz.ntmps21
 go_wp2
 go_ret
 exact ⟨rfl, (RowKit.Below.refl _ W).alloc (lr _) _⟩
theorem RelW.below' {γ : G} {w w' : World} {W : AW} (hd : E.w0.drawn = 0) (hW : RelW E γ w W) (bw : RowKit.Below w.heap.size w w') : RelW E γ w' W := by
 refine RelW.undrawn (n := max w.drawn w'.drawn) hd ?_
 exact hW.grow ⟨⟨bw.os, bw.tape, bw.output, bw.size, fun k hk => bw.block k (by have := hW.base; omega)⟩, Nat.le_max_left _ _⟩ (fun k hk => bw.block k hk) bw.size
theorem cTextE_c (hP : PE E) (hd : E.w0.drawn = 0) (W : AW) : ACalls E 21 [.agg [.nilsl, .nilsl]] W fun Y W' => Y = .str ⟨#[]⟩ ∧ W' = W := by
 refine ⟨⟨_, _, by rw [hP]; exact Tryz.func21, rfl, by decide⟩, fun _ γ w ws hW hr => ?_⟩
 obtain ⟨_, _, rfl, ⟨vs, rfl, _, _, rfl, rfl, _, _, rfl, rfl, rfl⟩, rfl⟩ := hr
 rw [hP]
 refine Calls.mono (cTextE_w w) ?_
 rintro en w' ⟨rfl, bw⟩
 exact ⟨_, γ, .str _, W, rfl, G.le.refl _ _, lr _, RelW.below' hd hW bw, rfl, rfl, rfl⟩
theorem cTextO_c (hP : PE E) (hd : E.w0.drawn = 0) (W : AW) {f : Bool} {x : V} (_ : ∀ γ l, RelE γ 1 [x] l → True) : ACalls E 21 [.agg [.sl 1 f [x], .nilsl]] W fun Y W' => Y = .str ⟨#[]⟩ ∧ W' = W := by
 refine ⟨⟨_, _, by rw [hP]; exact Tryz.func21, rfl, by decide⟩, fun _ γ w ws hW hr => ?_⟩
 obtain ⟨_, _, rfl, ⟨vs, rfl, _, _, rfl, ⟨b, pre, l, post, sz, cap, _, _, rfl, _⟩, _, _, rfl, rfl, rfl⟩, rfl⟩ := hr
 rw [hP]
 refine Calls.mono (cTextO_w _ _ w) ?_
 rintro en w' ⟨rfl, bw⟩
 exact ⟨_, γ, .str _, W, rfl, G.le.refl _ _, lr _, RelW.below' hd hW bw, rfl, rfl, rfl⟩
end Go.AL.S
namespace Go.AL.S
open Go Go.AL Go.AL.SE Go.Proofs
variable {E : Env}
theorem hasN_c (hP : PE E) (W : AW) (e : Ed) : ACalls E 52 [.nilptr, e.V] W fun Y W' => Y = .bool false ∧ W' = W := by
 refine ACalls.of hP Tryz.func52 ok_hasGe (by simp) fun _ hok => ?_
 refine awp_start hok ?_
 simp (maxSteps:=9^9) (disch:=omega) only [BZ, ↓reduceIte, reduceCtorEq, BM, BD, c_hasG, Ed.V]
 repeat (rw [guard_if]; simp (maxSteps:=9^9) (disch:=omega) only [BS, BC, ↓reduceIte, nE, BM, ])
 exact ⟨_, rfl, _, W, backX hok rfl, lr _, rfl, rfl⟩
theorem cshortN_c (hP : PE E) (W : AW) (k : Int) : ACalls E 12 [.nilptr, .int .u8 k] W fun Y W' => Y = .tuple [.agg [.nilsl, .nilsl], .bool false] ∧ W' = W := by
 refine ACalls.of hP Tryz.func12 ok_cShorte (by simp) fun _ hok => ?_
 refine awp_start hok ?_
 simp (maxSteps:=9^9) (disch:=omega) only [BZ, ↓reduceIte, nE, BM, BD, c_cShort]
 refine pc (cof_c hP _ k) ?_
 simp (maxSteps:=9^9) (disch:=omega) only [BZ, ↓reduceIte, nE, BM, BD, nA, nL, nT, ]
 repeat (rw [guard_if]; simp (maxSteps:=9^9) (disch:=omega) only [BX, ↓reduceIte, nE, reduceCtorEq, BM, BD, nA, nL, nT, ])
 cases ho : (ownR k).isSome with
 | false =>
  simp (maxSteps:=9^9) (disch:=omega) only [BC, ↓reduceIte, BD]
  repeat (rw [guard_if]; simp (maxSteps:=9^9) (disch:=omega) only [BX, ↓reduceIte, nE, reduceCtorEq, BM, BD, nA, nL, nT, Nat.reduceMul, msV_cells, msV_one, lsV_cells, lsV_one, msV_frz, lsV_frz, ho])
  exact ⟨_, rfl, _, W, .weak (weak_back hok rfl fun y hy => X_old hy), lr _, rfl, rfl⟩
 | true =>
  simp (maxSteps:=9^9) (disch:=omega) only [BC, ↓reduceIte, BD]
  repeat (rw [guard_if]; simp (maxSteps:=9^9) (disch:=omega) only [BX, ↓reduceIte, nE, reduceCtorEq, BM, BD, nA, nL, nT, Nat.reduceMul, msV_cells, msV_one, lsV_cells, lsV_one, msV_frz, lsV_frz, ho])
  exact ⟨_, rfl, _, W, .weak (weak_back hok rfl fun y hy => X_old hy), lr _, rfl, rfl⟩
def tQ : ByteArray := ⟨#[55, 32, 45, 63, 45, 62, 32, 55]⟩
theorem tQ_eq : textR (some ([7], [9])) = .str tQ := by kernel_rfl
theorem cText7 (hP : PE E) (hd : E.w0.drawn = 0) (W : AW) : ACalls E 21 [.agg [.sl 1 true [.int .u16 7], .sl 1 true [.int .u8 9]]] W fun Y W' => Y = .str tQ ∧ W' = W := by
 rw [← tQ_eq]
 exact Cy.text hP hd W ⟨rfl, by simp, by simp, by simp, by simp⟩ .mk .mk
def c_lawKn : AC := (.r [.v 0 (.bool false)] (.r [.p 8 (.call 16) [.c (.int .u8 1)],.p 9 (.call 17) [.c (.int .u8 0),.c (.int .u16 1)],.b 10 (.bslice 3 2 (.agg [.bool false,.int .u8 0,.int .u16 0]) [0, 1]) 8 9,.p 11 (.bslice 1 1 (.int .u16 0) [0]) [.c (.int .u16 2)],.u 12 (.bslice 1 1 (.nilsl) [0]) 11,.b 13 (.build [.nilsl,.nilsl,.int .u8 0] [(0, 1), (1, 1)]) 10 12,.p 14 (.call 16) [.c (.int .u8 0)],.p 15 (.call 17) [.c (.int .u8 1),.c (.int .u16 2)],.b 16 (.bslice 3 2 (.agg [.bool false,.int .u8 0,.int .u16 0]) [0, 1]) 14 15,.p 17 (.bslice 1 1 (.int .u16 0) [0]) [.c (.int .u16 1)],.u 18 (.bslice 1 1 (.nilsl) [0]) 17,.b 19 (.build [.nilsl,.nilsl,.int .u8 0] [(0, 1), (1, 1)]) 16 18,.b 20 (.bslice 3 2 (.agg [.nilsl,.nilsl,.int .u8 0]) [0, 1]) 13 19,.m 1 20] (.r [.p 21 (.call 16) [.c (.int .u8 1)],.p 22 (.call 17) [.c (.int .u8 0),.c (.int .u16 1)],.b 23 (.bslice 3 2 (.agg [.bool false,.int .u8 0,.int .u16 0]) [0, 1]) 21 22,.p 24 (.bslice 1 1 (.nilsl) [0]) [.c (.nilsl)],.b 25 (.build [.nilsl,.nilsl,.int .u8 0] [(0, 1), (1, 1)]) 23 24,.p 26 (.call 16) [.c (.int .u8 0)],.p 27 (.call 17) [.c (.int .u8 1),.c (.int .u16 2)],.b 28 (.bslice 3 2 (.agg [.bool false,.int .u8 0,.int .u16 0]) [0, 1]) 26 27,.p 29 (.bslice 1 1 (.nilsl) [0]) [.c (.nilsl)],.b 30 (.build [.nilsl,.nilsl,.int .u8 0] [(0, 1), (1, 1)]) 28 29,.p 31 (.call 16) [.c (.int .u8 0)],.p 32 (.call 16) [.c (.int .u8 1)],.b 33 (.bslice 3 2 (.agg [.bool false,.int .u8 0,.int .u16 0]) [0, 1]) 31 32,.p 34 (.bslice 1 1 (.int .u16 0) [0]) [.c (.int .u16 1)],.p 35 (.bslice 1 1 (.int .u16 0) [0]) [.c (.int .u16 2)],.b 36 (.bslice 1 2 (.nilsl) [0, 1]) 34 35,.b 37 (.build [.nilsl,.nilsl,.int .u8 0] [(0, 1), (1, 1)]) 33 36,.p 38 (.bslice 3 3 (.agg [.nilsl,.nilsl,.int .u8 0]) [0, 1, 2]) [.t 25,.t 30,.t 37],.m 2 38] (.seq (.r [.p 39 (.call 9) [],.u 40 (.un .not) 39,.m 41 40,.P 42 (.call 19) [] 41 false,.P 43 (.call 18) [.t 42,.c (.int .u8 8)] 41 false,.P 44 (.bin .neq) [.t 43,.c (.str ⟨#[110, 111, 110, 101]⟩)] 41 false,.p 45 .pick [.t 41,.T,.t 44],.m 46 45,.M 47 1 46 false,.P 48 (.call 18) [.t 47,.c (.int .u8 8)] 46 false,.P 49 (.bin .neq) [.t 48,.c (.str ⟨#[49, 32, 45, 119, 114, 45, 62, 32, 50, 32, 45, 119, 114, 45, 62, 32, 49]⟩)] 46 false,.p 50 .pick [.t 46,.T,.t 49],.m 51 50,.M 52 1 51 false,.P 53 (.call 18) [.t 52,.c (.int .u8 1)] 51 false,.P 54 (.bin .neq) [.t 53,.c (.str ⟨#[110, 111, 110, 101]⟩)] 51 false,.p 55 .pick [.t 51,.T,.t 54],.m 56 55,.M 57 2 56 false,.P 58 (.call 18) [.t 57,.c (.int .u8 16)] 56 false,.P 59 (.bin .neq) [.t 58,.c (.str ⟨#[49, 32, 45, 114, 119, 45, 62, 32, 50, 32, 45, 114, 119, 45, 62, 32, 49]⟩)] 56 false,.p 60 .pick [.t 56,.T,.t 59],.m 61 60,.M 62 2 61 false,.P 63 (.call 18) [.t 62,.c (.int .u8 8)] 61 false,.P 64 (.bin .neq) [.t 63,.c (.str ⟨#[110, 111, 110, 101]⟩)] 61 false,.p 65 .pick [.t 61,.T,.t 64],.m 66 65,.P 67 (.call 18) [.c (.nilsl),.c (.int .u8 16)] 66 false,.P 68 (.bin .neq) [.t 67,.c (.str ⟨#[110, 111, 110, 101]⟩)] 66 false,.p 69 .pick [.t 66,.T,.t 68],.m 70 69,.P 71 (.call 19) [] 70 false,.P 72 (.call 18) [.t 71,.c (.int .u8 2)] 70 false,.P 73 (.bin .neq) [.t 72,.c (.str ⟨#[110, 111, 110, 101]⟩)] 70 false,.p 74 .pick [.t 70,.T,.t 73]] (.cond (.t 74) (.r [.v 0 (.bool false)] .ret) .skip)) (.r [.p 76 (.call 12) [.c (.nilptr),.c (.int .u8 1)],.m 75 76,.u 77 (.ext 0) 75,.u 78 (.ext 1) 75,.p 3 (.alloc [.nilsl,.nilsl]) [],⟨none,.store 2, [.t 3,.t 77], none⟩,.m 4 78] (.r [.v 5 (.nilptr)] (.r [.p 79 (.bslice 1 2 (.int .u16 0) [0, 1]) [.c (.int .u16 1),.c (.int .u16 2)],.p 80 (.bslice 1 2 (.int .u8 0) [0, 1]) [.c (.int .u8 0),.c (.int .u8 0)],.b 81 (.build [.nilsl,.nilsl] [(0, 1), (1, 1)]) 79 80,.p 6 (.alloc [.nilsl,.nilsl]) [],⟨none,.store 2, [.t 6,.t 81], none⟩] (.r [.p 82 (.call 19) [],.u 83 (.call 10) 82,.m 7 83] (.r [.m 84 4,.u 85 (.un .not) 84,.m 86 85,.M 87 5 86 true,.U 88 (.load true 2) 6 86 true,.P 89 (.call 20) [.t 87,.c (.int .u8 1),.t 88] 86 true,.U 90 (.un .not) 89 86 true,.p 91 .pick [.t 86,.t 90,.F],.m 92 91,.M 93 7 92 true,.U 94 (.load true 2) 6 92 true,.P 95 (.call 20) [.t 93,.c (.int .u8 1),.t 94] 92 true,.p 96 .pick [.t 92,.t 95,.F],.m 97 96,.M 98 7 97 true,.U 99 (.load true 2) 6 97 true,.P 100 (.call 20) [.t 98,.c (.int .u8 16),.t 99] 97 true,.U 101 (.un .not) 100 97 true,.p 102 .pick [.t 97,.t 101,.F],.m 103 102,.M 104 7 103 true,.P 105 (.bslice 1 2 (.int .u16 0) [0, 1]) [.c (.int .u16 2),.c (.int .u16 1)] 103 true,.P 106 (.bslice 1 2 (.int .u8 0) [0, 1]) [.c (.int .u8 0),.c (.int .u8 0)] 103 true,.B 107 (.build [.nilsl,.nilsl] [(0, 1), (1, 1)]) 105 106 103 true,.P 108 (.call 20) [.t 104,.c (.int .u8 1),.t 107] 103 true,.U 109 (.un .not) 108 103 true,.p 110 .pick [.t 103,.t 109,.F],.m 111 110,.M 112 7 111 true,.P 113 (.bslice 1 1 (.int .u16 0) [0]) [.c (.int .u16 1)] 111 true,.P 114 (.bslice 1 1 (.int .u8 0) [0]) [.c (.int .u8 0)] 111 true,.B 115 (.build [.nilsl,.nilsl] [(0, 1), (1, 1)]) 113 114 111 true,.P 116 (.call 20) [.t 112,.c (.int .u8 1),.t 115] 111 true,.U 117 (.un .not) 116 111 true,.p 118 .pick [.t 111,.t 117,.F],.m 119 118,.M 120 7 119 true,.P 121 (.build [.nilsl,.nilsl] []) [] 119 true,.P 122 (.call 20) [.t 120,.c (.int .u8 1),.t 121] 119 true,.U 123 (.un .not) 122 119 true,.p 124 .pick [.t 119,.t 123,.F],.m 125 124,.P 126 (.build [.nilsl,.nilsl] []) [] 125 true,.U 127 (.call 21) 126 125 true,.P 128 (.bin .eql) [.t 127,.c (.str ⟨#[]⟩)] 125 true,.p 129 .pick [.t 125,.t 128,.F],.m 130 129,.P 131 (.bslice 1 1 (.int .u16 0) [0]) [.c (.int .u16 7)] 130 true,.P 132 (.bslice 1 1 (.int .u8 0) [0]) [.c (.int .u8 9)] 130 true,.B 133 (.build [.nilsl,.nilsl] [(0, 1), (1, 1)]) 131 132 130 true,.U 134 (.call 21) 133 130 true,.P 135 (.bin .eql) [.t 134,.c (.str ⟨#[55, 32, 45, 63, 45, 62, 32, 55]⟩)] 130 true,.p 136 .pick [.t 130,.t 135,.F],.m 137 136,.P 138 (.bslice 1 1 (.int .u16 0) [0]) [.c (.int .u16 7)] 137 true,.U 139 (.build [.nilsl,.nilsl] [(0, 1)]) 138 137 true,.U 140 (.call 21) 139 137 true,.P 141 (.bin .eql) [.t 140,.c (.str ⟨#[]⟩)] 137 true,.p 142 .pick [.t 137,.t 141,.F],.m 143 142,.P 144 (.call 9) [] 143 true,.p 145 .pick [.t 143,.t 144,.F],.m 0 145] .ret)))))))))
theorem ok_lawKne : compF Tryz.prog Tryz.f4 ⟨false, false, []⟩ = some (c_lawKn, [.tmp 0], 146) := by kernel_rfl
def readD : List De := [deR [⟨true, 1, 0⟩, ⟨false, 0, 1⟩] [some [2]], deR [⟨true, 0, 0⟩, ⟨false, 1, 2⟩] [some [1]]]
def skewD : List De := [deR [⟨true, 1, 0⟩, ⟨false, 0, 1⟩] [none], deR [⟨true, 0, 0⟩, ⟨false, 1, 2⟩] [none], deR [⟨true, 0, 0⟩, ⟨true, 1, 0⟩] [some [1], some [2]]]
theorem readD_ok : ∀ d ∈ readD, d.ok ∧ d.small := by
 unfold readD
 simp only [List.forall_mem_cons, List.not_mem_nil, false_implies, implies_true, and_true]
 exact ⟨deR_ok (by simp [Mi.ok]) (by decide) (by simp [nums]) (by decide), deR_ok (by simp [Mi.ok]) (by decide) (by simp [nums]) (by decide)⟩
theorem skewD_ok : ∀ d ∈ skewD, d.ok ∧ d.small := by
 unfold skewD
 simp only [List.forall_mem_cons, List.not_mem_nil, false_implies, implies_true, and_true]
 exact ⟨deR_ok (by simp [Mi.ok]) (by decide) (by simp [nums]) (by decide), deR_ok (by simp [Mi.ok]) (by decide) (by simp [nums]) (by decide), deR_ok (by simp [Mi.ok]) (by decide) (by simp [nums]) (by decide)⟩
theorem two8 : Cl5 twoD 8 none := cl5_of (e := 4) (n := [1, 2, 3]) (by kernel_rfl) (by decide) (by simp)
theorem two2 : Cl5 twoD 2 none := cl5_of (e := 4) (n := [1, 2, 3]) (by kernel_rfl) (by decide) (by simp)
theorem read8 : Cl5 readD 8 (some ([1, 2], [1, 1])) := cl5_of (e := 2) (n := [1, 2]) (by kernel_rfl) (by decide) (by simp)
theorem read1 : Cl5 readD 1 none := cl5_of (e := 2) (n := [1, 2]) (by kernel_rfl) (by decide) (by simp)
theorem skew16 : Cl5 skewD 16 (some ([1, 2], [2, 2])) := cl5_of (e := 4) (n := [1, 2, 3]) (by kernel_rfl) (by decide) (by simp)
theorem skew8 : Cl5 skewD 8 none := cl5_of (e := 4) (n := [1, 2, 3]) (by kernel_rfl) (by decide) (by simp)
theorem nil16 : Cl5 [] 16 none := cl5_of (e := 0) (n := []) (by kernel_rfl) (by decide) (by simp)
def tWR : ByteArray := ⟨#[49, 32, 45, 119, 114, 45, 62, 32, 50, 32, 45, 119, 114, 45, 62, 32, 49]⟩
def tRW : ByteArray := ⟨#[49, 32, 45, 114, 119, 45, 62, 32, 50, 32, 45, 114, 119, 45, 62, 32, 49]⟩
theorem tWR_eq : textR (some ([1, 2], [1, 1])) = .str tWR := by kernel_rfl
theorem tRW_eq : textR (some ([1, 2], [2, 2])) = .str tRW := by kernel_rfl
theorem nqSS {W : AW} {K : V → AW → Prop} {a b : ByteArray} (h : a = b) : sem E (.bin .neq) [.str a, .str b] W K = K (.bool false) W := by
 subst h
 simp [sem, rsem, tsem, binS]
theorem nqNo {W : AW} {K : V → AW → Prop} : sem E (.bin .neq) [.str tNo, .str ⟨#[110, 111, 110, 101]⟩] W K = K (.bool false) W := nqSS rfl
theorem nqWR {W : AW} {K : V → AW → Prop} : sem E (.bin .neq) [.str tWR, .str ⟨#[49, 32, 45, 119, 114, 45, 62, 32, 50, 32, 45, 119, 114, 45, 62, 32, 49]⟩] W K = K (.bool false) W := nqSS rfl
theorem nqRW {W : AW} {K : V → AW → Prop} : sem E (.bin .neq) [.str tRW, .str ⟨#[49, 32, 45, 114, 119, 45, 62, 32, 50, 32, 45, 114, 119, 45, 62, 32, 49]⟩] W K = K (.bool false) W := nqSS rfl
theorem bN1 {W : AW} {K : V → AW → Prop} : sem E (.bslice 1 1 .nilsl [0]) [.nilsl] W K = K (.sl 1 true [.nilsl]) W := id rfl
theorem bK1 {W : AW} {K : V → AW → Prop} {a : Int} : sem E (.bslice 1 1 (.int .u8 0) [0]) [.int .u8 a] W K = K (.sl 1 true [.int .u8 a]) W := id rfl
theorem eqE {W : AW} {K : V → AW → Prop} : sem E (.bin .eql) [.str ⟨#[]⟩, .str ⟨#[]⟩] W K = K (.bool true) W := eqSS rfl
theorem eqQ {W : AW} {K : V → AW → Prop} : sem E (.bin .eql) [.str tQ, .str ⟨#[55, 32, 45, 63, 45, 62, 32, 55]⟩] W K = K (.bool true) W := eqSS rfl
theorem lawKn_c (hP : PE E) (hd0 : E.w0.drawn = 0) (W : AW) : ACalls E 4 [] W fun Y _ => Y = .bool true := by
 refine ACalls.of hP Tryz.func4 ok_lawKne (by simp) fun _ hok => ?_
 refine awp_start hok ?_
 simp (maxSteps:=9^9) (disch:=omega) only [BZ, c_lawKn]
 refine pc (get30_c hP _ 1) ?_
 simp (maxSteps:=9^9) (disch:=omega) only [BS, BC, ]
 refine pc (put30_c hP _ 0 1) ?_
 simp (maxSteps:=9^9) (disch:=omega) only [BS, BC, ↓reduceIte, nE, BM, BD, nA, nL, bMi, bU1, bL1]
 refine pc (get30_c hP _ 0) ?_
 simp (maxSteps:=9^9) (disch:=omega) only [BS, BC, ]
 refine pc (put30_c hP _ 1 2) ?_
 simp (maxSteps:=9^9) (disch:=omega) only [BS, ↓reduceIte, nE, BM, BD, nA, nL, bMi, bU1, bL1]
 refine pc (get30_c hP _ 1) ?_
 simp (maxSteps:=9^9) (disch:=omega) only [BS, BC, ]
 refine pc (put30_c hP _ 0 1) ?_
 simp (maxSteps:=9^9) (disch:=omega) only [BS, BC, ↓reduceIte, nE, BM, BD, nA, nL, bMi, bN1]
 refine pc (get30_c hP _ 0) ?_
 simp (maxSteps:=9^9) (disch:=omega) only [BS, BC, ]
 refine pc (put30_c hP _ 1 2) ?_
 simp (maxSteps:=9^9) (disch:=omega) only [BS, BC, ↓reduceIte, nE, BM, BD, nA, nL, bMi, bN1]
 refine pc (get30_c hP _ 0) ?_
 simp (maxSteps:=9^9) (disch:=omega) only [BS, BC, ]
 refine pc (get30_c hP _ 1) ?_
 simp (maxSteps:=9^9) (disch:=omega) only [BS, ↓reduceIte, nE, BM, BD, nA, nL, bMi, bU1, bL2]
 refine pc (works_c hP hd0 _) ?_
 simp (maxSteps:=9^9) (disch:=omega) only [BS, ↓reduceIte, BD, ]
 repeat (rw [guard_if]; simp (maxSteps:=9^9) (disch:=omega) only [BS, BC, ↓reduceIte, ])
 refine pc (twoWW_c hP _) ?_
 repeat (rw [guard_if]; simp (maxSteps:=9^9) (disch:=omega) only [BX, ↓reduceIte, nE, reduceCtorEq, BM, BD, nA, nL, nT, Nat.reduceMul, msV_cells, msV_one, lsV_cells, lsV_one, msV_frz, lsV_frz, ])
 simp (maxSteps:=9^9) (disch:=omega) only [BS, ]
 repeat (rw [guard_if]; simp (maxSteps:=9^9) (disch:=omega) only [BS, BC, ↓reduceIte, nE, ])
 refine pc (text_k hP hd0 _ .mk twoD_ok (by decide) two8 (fun p h => by cases h) tNo_eq) ?_
 simp (maxSteps:=9^9) (disch:=omega) only [BS, ]
 repeat (rw [guard_if]; simp (maxSteps:=9^9) (disch:=omega) only [BS, BC, ↓reduceIte, nE, nqNo])
 refine pc (text_k hP hd0 _ (l := readD) .mk readD_ok (by decide) read8 (cy2 (by decide) (by decide) (by decide) (by decide)) tWR_eq) ?_
 simp (maxSteps:=9^9) (disch:=omega) only [BS, ]
 repeat (rw [guard_if]; simp (maxSteps:=9^9) (disch:=omega) only [BS, BC, ↓reduceIte, nE, nqWR])
 refine pc (text_k hP hd0 _ (l := readD) .mk readD_ok (by decide) read1 (fun p h => by cases h) tNo_eq) ?_
 simp (maxSteps:=9^9) (disch:=omega) only [BS, ]
 repeat (rw [guard_if]; simp (maxSteps:=9^9) (disch:=omega) only [BS, BC, ↓reduceIte, nE, nqNo])
 refine pc (text_k hP hd0 _ (l := skewD) .mk skewD_ok (by decide) skew16 (cy2 (by decide) (by decide) (by decide) (by decide)) tRW_eq) ?_
 simp (maxSteps:=9^9) (disch:=omega) only [BS, ]
 repeat (rw [guard_if]; simp (maxSteps:=9^9) (disch:=omega) only [BS, BC, ↓reduceIte, nE, nqRW])
 refine pc (text_k hP hd0 _ (l := skewD) .mk skewD_ok (by decide) skew8 (fun p h => by cases h) tNo_eq) ?_
 simp (maxSteps:=9^9) (disch:=omega) only [BS, ]
 repeat (rw [guard_if]; simp (maxSteps:=9^9) (disch:=omega) only [BS, BC, ↓reduceIte, nE, nqNo])
 refine pc (text_k hP hd0 _ (l := []) .nil (fun d h => absurd h (by simp)) (by decide) nil16 (fun p h => by cases h) tNo_eq) ?_
 simp (maxSteps:=9^9) (disch:=omega) only [BS, ]
 repeat (rw [guard_if]; simp (maxSteps:=9^9) (disch:=omega) only [BS, BC, ↓reduceIte, nE, nqNo])
 refine pc (twoWW_c hP _) ?_
 simp (maxSteps:=9^9) (disch:=omega) only [BS, ]
 repeat (rw [guard_if]; simp (maxSteps:=9^9) (disch:=omega) only [BS, BC, ↓reduceIte, nE, ])
 refine pc (text_k hP hd0 _ (l := twoD) .mk twoD_ok (by decide) two2 (fun p h => by cases h) tNo_eq) ?_
 simp (maxSteps:=9^9) (disch:=omega) only [BS, ]
 repeat (rw [guard_if]; simp (maxSteps:=9^9) (disch:=omega) only [BX, ↓reduceIte, nE, nqNo])
 refine pc (cshortN_c hP _ 1) ?_
 simp (maxSteps:=9^9) (disch:=omega) only [BZ, ↓reduceIte, nE, BM, BD, nA, nL, nT, bU2, bK2]
 refine pc (twoWW_c hP _) ?_
 simp (maxSteps:=9^9) (disch:=omega) only [BS, BC, ↓reduceIte, ]
 refine (told_c hP _ .mk twoD_ok (by decide)).mono ?_
 rintro _ W1 ⟨g, m, h, rfl, hG, _, hE⟩
 have g1 : W1.get (rf W.nx 1) = some (.row [.sl 1 true [.int .u16 1, .int .u16 2], .sl 1 true [.int .u8 0, .int .u8 0]]) := by
  rw [hE.get _ (by simp [X_nx, rf]), X_get]; rfl
 have lt1 : rf W.nx 1 < W1.nx := by have := hE.nx; simp [X_nx, rf] at this ⊢; omega
 have g1' : (X W1 W1.nx []).get (rf W.nx 1) = some (.row [.sl 1 true [.int .u16 1, .int .u16 2], .sl 1 true [.int .u8 0, .int .u8 0]]) := by rw [X_old lt1]; exact g1
 have hIsN : ACalls E 20 [.nilptr, .int .u8 1, .agg [.sl 1 true (intsV [1, 2]), .sl 1 true (u8s [0, 0])]] (X W1 W1.nx []) fun Y W' => Y = .bool false ∧ W' = X W1 W1.nx [] := by
  rw [← hE.cl.start]
  exact cIs_c hP W1 (fun _ => false) .mk .mk (by simp) (by simp) (by simp) (by simp) 1 rfl rfl (fun _ => rfl) fun l e _ => hasN_c hP _ e
 have hIs : ∀ (k : Int) (ids ks : List Int) (b : Bool), (∀ x ∈ ids, 0 ≤ x ∧ x < 65536) → (∀ x ∈ ks, 0 ≤ x ∧ x < 256) → ids.length < 2 ^ 20 → ks.length < 2 ^ 20 → ∀ v1 v2, isS 1 v1 (intsV ids) → isS 1 v2 (u8s ks) → isR (fun e => decide (ofEd e ∈ buildP (toldR twoD).1 (toldR twoD).2)) k ids ks = b → ACalls E 20 [.ptr g 0, .int .u8 k, .agg [v1, v2]] (X W1 W1.nx []) fun Y W' => Y = .bool b ∧ W' = X W1 W1.nx [] := fun k ids ks b a1 a2 a3 a4 v1 v2 j1 j2 hb => by
  rw [← hE.cl.start, ← hb]
  exact cIs_c hP W1 _ j1 j2 a1 a2 a3 a4 k rfl rfl (fun _ => rfl) fun l e he => hasG_x hP _ (by rw [X_old hG.lg]; exact hG.hg) (by rw [X_old hG.lm]; exact hG.hm) (by have := hG.lg; simp only [X_nx, rf]; omega) (by have := hG.lm; simp only [X_nx, rf]; omega) hG.pk e he
 rw [hE.cl.start]
 simp (maxSteps:=9^9) (disch:=omega) only [BS, e_seq, ↓reduceIte, nE, BD, ]
 repeat (rw [guard_if]; simp (maxSteps:=9^9) (disch:=omega) only [BS, BC, ↓reduceIte, nE, BM, BD, nA, nL, g1])
 refine pc hIsN ?_
 simp (maxSteps:=9^9) (disch:=omega) only [BS, ]
 repeat (rw [guard_if]; simp (maxSteps:=9^9) (disch:=omega) only [BS, BC, ↓reduceIte, nE, BM, BD, nA, nL, g1])
 refine pc (hIs 1 [1, 2] [0, 0] true (by simp) (by simp) (by simp) (by simp) _ _ .mk .mk (by kernel_rfl)) ?_
 simp (maxSteps:=9^9) (disch:=omega) only [BS, ↓reduceIte, nE, ]
 repeat (rw [guard_if]; simp (maxSteps:=9^9) (disch:=omega) only [BS, BC, ↓reduceIte, nE, BM, BD, nA, nL, g1])
 refine pc (hIs 16 [1, 2] [0, 0] false (by simp) (by simp) (by simp) (by simp) _ _ .mk .mk (by kernel_rfl)) ?_
 simp (maxSteps:=9^9) (disch:=omega) only [BS, ]
 repeat (rw [guard_if]; simp (maxSteps:=9^9) (disch:=omega) only [BS, BC, ↓reduceIte, nE, BM, BD, nA, nL, bU2, bK2])
 refine pc (hIs 1 [2, 1] [0, 0] false (by simp) (by simp) (by simp) (by simp) _ _ .mk .mk (by kernel_rfl)) ?_
 simp (maxSteps:=9^9) (disch:=omega) only [BS, ]
 repeat (rw [guard_if]; simp (maxSteps:=9^9) (disch:=omega) only [BS, BC, ↓reduceIte, nE, BM, BD, nA, nL, bU1, bK1])
 refine pc (hIs 1 [1] [0] false (by simp) (by simp) (by simp) (by simp) _ _ .mk .mk (by kernel_rfl)) ?_
 simp (maxSteps:=9^9) (disch:=omega) only [BS, ]
 repeat (rw [guard_if]; simp (maxSteps:=9^9) (disch:=omega) only [BS, BC, ↓reduceIte, nE, BM, BD])
 refine pc (hIs 1 [] [] false (by simp) (by simp) (by simp) (by simp) _ _ .nil .nil (by kernel_rfl)) ?_
 simp (maxSteps:=9^9) (disch:=omega) only [BS, ]
 repeat (rw [guard_if]; simp (maxSteps:=9^9) (disch:=omega) only [BS, BC, ↓reduceIte, nE, BM, BD])
 refine pc (cTextE_c hP hd0 _) ?_
 simp (maxSteps:=9^9) (disch:=omega) only [BS, ]
 repeat (rw [guard_if]; simp (maxSteps:=9^9) (disch:=omega) only [BS, BC, ↓reduceIte, nE, BM, BD, nA, nL, bU1, bK1, eqE])
 refine pc (cText7 hP hd0 _) ?_
 simp (maxSteps:=9^9) (disch:=omega) only [BS, ]
 repeat (rw [guard_if]; simp (maxSteps:=9^9) (disch:=omega) only [BS, BC, ↓reduceIte, nE, BM, BD, nA, nL, bU1, eqQ])
 refine pc (cTextO_c hP hd0 _ (fun _ _ _ => trivial)) ?_
 simp (maxSteps:=9^9) (disch:=omega) only [BS, ]
 repeat (rw [guard_if]; simp (maxSteps:=9^9) (disch:=omega) only [BS, BC, ↓reduceIte, nE, eqE])
 refine pc (works_c hP hd0 _) ?_
 simp (maxSteps:=9^9) (disch:=omega) only [BS, BC, ↓reduceIte, nE, ]
 repeat (rw [guard_if]; simp (maxSteps:=9^9) (disch:=omega) only [BX, ↓reduceIte, nE, reduceCtorEq, BM, BD, nA, nL, nT, Nat.reduceMul, msV_cells, msV_one, lsV_cells, lsV_one, msV_frz, lsV_frz, g1, g1', bU2, bK2, bCy, bU1, bK1, bC0, bC1, eqE, eqQ])
 have hnx := hE.nx
 simp only [X_nx, rf] at hnx
 exact ⟨_, rfl, _, W, .weak (weak_back hok rfl fun y hy => by rw [X_old (by omega), hE.get y (by simp only [X_nx, rf]; omega), X_old hy]), lr _, rfl⟩
end Go.AL.S
namespace Go.AL
open Go Go.AL Go.Proofs
variable {E : Env}
theorem calls_inp0 {P : Program} {f : FuncId} {W : World} {vs : List V} {ws : List Value} (hr : RelL (S.gIn W) vs ws) (h : ACalls (S.Env.inp P { W with drawn := 0 }) f vs AW.empty fun Y _ => Y = .bool true) :
  Calls P f ws.toArray W fun e w' => e = .returned (.bool true) ∧ RowKit.Below W.heap.size W w' := by
 have hW : RelW (S.Env.inp P { W with drawn := 0 }) (S.gIn W) W AW.empty := (S.Env.inp_rel P { W with drawn := 0 }).grow ⟨⟨rfl, rfl, rfl, lr _, fun _ _ => rfl⟩, Nat.zero_le _⟩ (fun _ _ => rfl) (lr _)
 refine (h.2 (S.Env.inp_sound P _) _ _ ws hW hr).mono ?_
 rintro e w' ⟨v, γ', Y, W', rfl, _, _, h4, h5, rfl⟩
 cases h5
 have hb := h4.below.row
 exact ⟨rfl, ⟨hb.os, hb.tape, hb.output, hb.size, hb.block⟩⟩
end Go.AL
namespace Go.AL.S
open Go Go.AL Go.RowKit
mutual
def Sh.tyB (P : Program) : Sh → TypeId → Bool
 | .bool, t => (match P.underlying t with | some .bool => true | _ => false) && decide (P.cellsOf t = 1)
 | .int k, t => (match P.underlying t with | some (.int k') => decide (k' = k) | _ => false) && decide (P.cellsOf t = 1)
 | .sl e, t => (match P.underlying t with | some (.slice te) => e.tyB P te && decide (0 < e.n) && decide (0 < P.bytesOf te) | _ => false) && decide (P.cellsOf t = 1)
 | .st l, t => (match P.underlying t with | some (.struct fs) => decide (P.cellsOf t = Sh.nL l) && Sh.tyLB P l 0 fs.toList | _ => false)
def Sh.tyLB (P : Program) : List Sh → Nat → List Field → Bool
 | [], _, [] => true
 | s :: l, off, f :: r => decide (f.offset = off) && s.tyB P f.type && Sh.tyLB P l (off + s.n) r
 | _, _, _ => false
end
mutual
theorem Sh.ty_of {P : Program} : ∀ {s : Sh} {t : TypeId}, s.tyB P t = true → s.Ty P t
 | .bool, t, h => by
  simp only [Sh.tyB, Bool.and_eq_true, decide_eq_true_eq] at h
  refine ⟨?_, h.2⟩
  have h1 := h.1
  split at h1
  ·assumption
  ·cases h1
 | .int k, t, h => by
  simp only [Sh.tyB, Bool.and_eq_true, decide_eq_true_eq] at h
  refine ⟨?_, h.2⟩
  have h1 := h.1
  split at h1
  ·rename_i k' hk; rw [decide_eq_true_eq] at h1; rw [hk, h1]
  ·cases h1
 | .sl e, t, h => by
  simp only [Sh.tyB, Bool.and_eq_true, decide_eq_true_eq] at h
  have h1 := h.1
  split at h1
  ·rename_i te hk
   simp only [Bool.and_eq_true, decide_eq_true_eq] at h1
   exact ⟨te, hk, Sh.ty_of h1.1.1, h1.1.2, h.2, h1.2⟩
  ·cases h1
 | .st l, t, h => by
  simp only [Sh.tyB] at h
  split at h
  ·rename_i fs hk
   simp only [Bool.and_eq_true, decide_eq_true_eq] at h
   exact .inl ⟨fs, hk, h.1, Sh.tyL_of h.2⟩
  ·cases h
theorem Sh.tyL_of {P : Program} : ∀ {l : List Sh} {off : Nat} {fs : List Field}, Sh.tyLB P l off fs = true → Sh.TyL P l off fs
 | [], _, [], _ => rfl
 | s :: l, off, f :: r, h => by
  simp only [Sh.tyLB, Bool.and_eq_true, decide_eq_true_eq] at h
  exact ⟨f, r, rfl, h.1.1, Sh.ty_of h.1.2, Sh.tyL_of h.2⟩
 | [], _, _ :: _, h => by simp [Sh.tyLB] at h
 | _ :: _, _, [], h => by simp [Sh.tyLB] at h
end
section
variable {H : Type} {enc : TypeId × Value → H} {P : Program} {W : World}
end
end Go.AL.S
