/- What the program's functions do, part 6. Conditions: none. -/
import Derived.Test.YtjkmnbdfpednfaaGreatDoorBe
open Nat renaming reduceEqDiff → nE, reduceLeDiff → nL, reduceAdd → nA, reduceLT → nT, le_refl → lr
open List renaming getElem?_eq_getElem → gEg, length_map → lmp, getElem_mem → gmm, length_append → lap, length_cons → lcs, mem_singleton → msg, append_nil → apn, mem_append → map', take_length → tkl, map_cons → mcs, map_append → mpp, mem_map → mmp, any_eq_true → aet, length_replicate → lrp, take_add_one → tao, length_take → ltk, mem_filter → mfl
set_option maxRecDepth 100000
set_option maxHeartbeats 4000000
namespace Go.AL.S
open Go Go.AL Go.AL.SE Go.Proofs
def c_listsL : AC := (.r [.v 2 (.nilsl)] (.r [.m 3 0,.m 2 3] .ret))
theorem R7 : compF Tryz.prog Tryz.f22 ⟨false, false, []⟩ = some (c_listsL, [.tmp 2], 4) := by kernel_rfl
def c_dead : AC := (.r [.v 0 (.nilsl)] (.r [.p 1 (.bslice 1 1 (.int .u16 0) [0]) [.c (.int .u16 9999)],.u 2 (.bslice 1 1 (.nilsl) [0]) 1,.u 3 (.call 22) 2,.m 0 3] .ret))
theorem Z5 : compF Tryz.prog Tryz.f29 ⟨false, false, []⟩ = some (c_dead, [.tmp 0], 4) := by kernel_rfl
def c_addA : AC := (.r [.p 4 (.alloc [.bool false,.int .u8 0,.int .u16 0]) []] (.r [.m 5 0,.m 6 1,.b 7 (.build [.bool false,.int .u8 0,.int .u16 0] [(1, 1), (2, 1)]) 5 6,⟨none,.store 3, [.t 4,.t 7], none⟩] .ret))
theorem Z9 : compF Tryz.prog Tryz.f20 ⟨false, false, []⟩ = some (c_addA, [.cell 4 true 3], 8) := by kernel_rfl
def c_readA : AC := (.r [.p 2 (.alloc [.bool false,.int .u8 0,.int .u16 0]) []] (.r [.m 3 0,.p 4 (.build [.bool false,.int .u8 0,.int .u16 0] [(0, 1), (1, 1)]) [.T,.t 3],⟨none,.store 3, [.t 2,.t 4], none⟩] .ret))
theorem Wn : compF Tryz.prog Tryz.f21 ⟨false, false, []⟩ = some (c_readA, [.cell 2 true 3], 5) := by kernel_rfl
def c_awake : AC := (.r [.v 0 (.bool false)] (.r [.p 3 (.call 20) [.c (.int .u8 0),.c (.int .u16 1)],.u 4 (.bslice 3 1 (.agg [.bool false,.int .u8 0,.int .u16 0]) [0]) 3,.p 5 (.build [.nilsl,.nilsl] [(0, 1), (1, 1)]) [.t 4,.c (.nilsl)],.p 1 (.alloc [.nilsl,.nilsl]) [],⟨none,.store 2, [.t 1,.t 5], none⟩] (.r [.p 6 (.call 21) [.c (.int .u8 0)],.u 7 (.bslice 3 1 (.agg [.bool false,.int .u8 0,.int .u16 0]) [0]) 6,.p 8 (.bslice 1 1 (.int .u16 0) [0]) [.c (.int .u16 1)],.u 9 (.bslice 1 1 (.nilsl) [0]) 8,.u 10 (.call 22) 9,.b 11 (.build [.nilsl,.nilsl] [(0, 1), (1, 1)]) 7 10,.p 2 (.alloc [.nilsl,.nilsl]) [],⟨none,.store 2, [.t 2,.t 11], none⟩] (.seq (.par (.step 0 (.u 12 (.load true 2) 1) (.step 1 (.u 13 (.load true 2) 2) (.step 2 (.b 14 (.bslice 2 2 (.agg [.nilsl,.nilsl]) [0, 1]) 12 13) (.step 3 (.u 15 (.pcall 23) 14) (.step 4 (.p 16 (.bin .eql) [.t 15,.c (.int .u8 0)]) (.step 5 (.m 17 16) (.step 6 (.P 18 (.pcall 20) [.c (.int .u8 0),.c (.int .u16 1)] 17 true) (.step 7 (.U 19 (.bslice 3 1 (.agg [.bool false,.int .u8 0,.int .u16 0]) [0]) 18 17 true) (.step 8 (.P 20 (.pcall 29) [] 17 true) (.step 9 (.B 21 (.build [.nilsl,.nilsl] [(0, 1), (1, 1)]) 19 20 17 true) (.step 10 (.U 22 (.load true 2) 2 17 true) (.step 11 (.B 23 (.bslice 2 2 (.agg [.nilsl,.nilsl]) [0, 1]) 21 22 17 true) (.step 12 (.U 24 (.pcall 23) 23 17 true) (.step 13 (.P 25 (.bin .eql) [.t 24,.c (.int .u8 2)] 17 true) (.step 14 (.p 26 .pick [.t 17,.t 25,.F]) (.step 15 (.m 27 26) (.step 19 (.P 31 (.bslice 1 1 (.int .u16 0) [0]) [.c (.int .u16 2)] 27 true) (.step 20 (.U 32 (.bslice 1 1 (.nilsl) [0]) 31 27 true) (.step 26 (.P 38 (.bslice 1 1 (.int .u16 0) [0]) [.c (.int .u16 1)] 27 true) (.step 27 (.U 39 (.bslice 1 1 (.nilsl) [0]) 38 27 true) (.step 16 (.P 28 (.pcall 20) [.c (.int .u8 0),.c (.int .u16 1)] 27 true) (.step 17 (.P 29 (.pcall 21) [.c (.int .u8 1)] 27 true) (.step 18 (.B 30 (.bslice 3 2 (.agg [.bool false,.int .u8 0,.int .u16 0]) [0, 1]) 28 29 27 true) (.step 21 (.U 33 (.pcall 22) 32 27 true) (.step 22 (.B 34 (.build [.nilsl,.nilsl] [(0, 1), (1, 1)]) 30 33 27 true) (.step 23 (.P 35 (.pcall 20) [.c (.int .u8 1),.c (.int .u16 2)] 27 true) (.step 24 (.P 36 (.pcall 21) [.c (.int .u8 0)] 27 true) (.step 25 (.B 37 (.bslice 3 2 (.agg [.bool false,.int .u8 0,.int .u16 0]) [0, 1]) 35 36 27 true) (.step 28 (.U 40 (.pcall 22) 39 27 true) (.step 29 (.B 41 (.build [.nilsl,.nilsl] [(0, 1), (1, 1)]) 37 40 27 true) (.step 30 (.B 42 (.bslice 2 2 (.agg [.nilsl,.nilsl]) [0, 1]) 34 41 27 true) (.step 31 (.U 43 (.pcall 23) 42 27 true) (.step 32 (.P 44 (.bin .eql) [.t 43,.c (.int .u8 8)] 27 true) (.step 33 (.p 45 .pick [.t 27,.t 44,.F]) (.step 34 (.m 0 45) .done)))))))))))))))))))))))))))))))))))) .ret))))
theorem Xb : compF Tryz.prog Tryz.f9 ⟨false, false, []⟩ = some (c_awake, [.tmp 0], 46) := by kernel_rfl
variable {E : Env}
def ofD (ds : List Dn) : Nat := ofN (runG (runG ([], os0) (begsA ds)) (endsA ds)).1 (runG (runG ([], os0) (begsA ds)) (endsA ds)).2
def okD (ds : List Dn) : Bool := okH ([], os0) (begsA ds) && okH (runG ([], os0) (begsA ds)) (endsA ds)
theorem N1 (hP : PE E) (W : AW) {v : V} {ds : List Dn} (hv : isS 2 v (ds.map Dn.V)) (hd : ∀ d ∈ ds, d.ok) (hl : ds.length ≤ 100) (hok : okD ds = true) : ACalls E 23 [v] W fun Y W' => Y = .int .u8 (ofD ds) ∧ W' = W := by
 refine ACalls.of hP Tryz.func23 Sa (by simp) fun _ hok' => ?_
 rw [okD, Bool.and_eq_true] at hok
 simp only [BZ, ↓reduceIte, reduceCtorEq, c_flagsL, hv.frz]
 refine (Xr hP W hv hd hl hok.1 hok.2).mono ?_
 rintro _ W1 ⟨p, ra, rw, q, rfl, hS⟩
 simp only [BX, ↓reduceIte, nE, BM, ]
 refine pc (of_c29 hP _ hS.nw.st hS.od) ?_
 simp only [BS, BC, ↓reduceIte, ]
 exact ⟨_, rfl, _, W, hS.nw.ex.back hok' rfl, lr _, rfl, rfl⟩
theorem H4 (hP : PE E) (W : AW) {xs : List V} (_ : V.belL W.nx xs = true) : ACalls E 22 [.sl 1 true xs] W fun Y W' => Y = .sl 1 true xs ∧ W' = W := by
 refine ACalls.of hP Tryz.func22 R7 (by simp) fun _ hok' => ?_
 simp only [BZ, ↓reduceIte, reduceCtorEq, c_listsL]
 exact ⟨_, rfl, _, _, .weak Ab, lr _, rfl, rfl⟩
theorem bsL1 {W : AW} {K : V → AW → Prop} {xs : List V} : sem E (.bslice 1 1 .nilsl [0]) [.sl 1 true xs] W K = K (.sl 1 true [.sl 1 true xs]) W := by
 simp [sem, rsem, tsem, fillE, V.cells]
theorem bsM1 {W : AW} {K : V → AW → Prop} {a : Bool} {b c : Int} : sem E (.bslice 3 1 (.agg [.bool false, .int .u8 0, .int .u16 0]) [0]) [.agg [.bool a, .int .u8 b, .int .u16 c]] W K = K (.sl 3 true [.agg [.bool a, .int .u8 b, .int .u16 c]]) W := by
 simp [sem, rsem, tsem, fillE, V.cells]
theorem bsM2 {W : AW} {K : V → AW → Prop} {a a' : Bool} {b c b' c' : Int} : sem E (.bslice 3 2 (.agg [.bool false, .int .u8 0, .int .u16 0]) [0, 1]) [.agg [.bool a, .int .u8 b, .int .u16 c], .agg [.bool a', .int .u8 b', .int .u16 c']] W K = K (.sl 3 true [.agg [.bool a, .int .u8 b, .int .u16 c], .agg [.bool a', .int .u8 b', .int .u16 c']]) W := by
 simp [sem, rsem, tsem, fillE, V.cells]
theorem bsD2 {W : AW} {K : V → AW → Prop} {a b c d : V} : sem E (.bslice 2 2 (.agg [.nilsl, .nilsl]) [0, 1]) [.agg [a, b], .agg [c, d]] W K = K (.sl 2 true [.agg [a, b], .agg [c, d]]) W := by
 simp [sem, rsem, tsem, fillE, V.cells]
theorem dead_c (hP : PE E) (W : AW) : ACalls E 29 [] W fun Y W' => Y = .sl 1 true [.sl 1 true [.int .u16 9999]] ∧ W' = W := by
 refine ACalls.of hP Tryz.func29 Z5 (by simp) fun _ hok' => ?_
 simp only [BZ, ↓reduceIte, c_dead, bsU, bsL1]
 refine pc (H4 hP W rfl) ?_
 simp only [BS, BC, ↓reduceIte, ]
 exact ⟨_, rfl, _, _, .weak Ab, lr _, rfl, rfl⟩
theorem Vt (hP : PE E) (W : AW) (k v : Int) : ACalls E 20 [.int .u8 k, .int .u16 v] W fun Y W' => Y = .agg [.bool false, .int .u8 k, .int .u16 v] ∧ W' = W := by
 refine ACalls.of hP Tryz.func20 Z9 (by simp) fun _ hok => ?_
 refine Af hok ?_
 simp only [BZ, ↓reduceIte, nE, reduceCtorEq, BM, BD, nA, nL, nT, c_addA]
 exact ⟨_, rfl, _, W, Ap hok rfl, lr _, rfl, rfl⟩
theorem Ru (hP : PE E) (W : AW) (k : Int) : ACalls E 21 [.int .u8 k] W fun Y W' => Y = .agg [.bool true, .int .u8 k, .int .u16 0] ∧ W' = W := by
 refine ACalls.of hP Tryz.func21 Wn (by simp) fun _ hok => ?_
 refine Af hok ?_
 simp only [BZ, ↓reduceIte, nE, reduceCtorEq, BM, BD, nA, nL, nT, c_readA]
 exact ⟨_, rfl, _, W, Ap hok rfl, lr _, rfl, rfl⟩
def dn0 (ml : List Mi) : Dn := ⟨.sl 3 true (ml.map Mi.V), ml, .nilsl, []⟩
def elI (o : Option (List Int)) : V := match o with
 | none => .nilsl
 | some l => .sl 1 true (intsV l)
def dn1 (ml : List Mi) (rl : List (Option (List Int))) : Dn := ⟨.sl 3 true (ml.map Mi.V), ml, .sl 1 true (rl.map elI), rl⟩
def miB (m : Mi) : Bool := decide (0 ≤ m.key ∧ m.key < 256 ∧ 0 ≤ m.v ∧ m.v < 65536)
def dnB (ml : List Mi) (rl : List (Option (List Int))) : Bool := ml.all miB && (decide (ml.length ≤ 20) && (decide (rl.length ≤ 20) && rl.all fun o => (nums o).all (fun n => decide (0 ≤ n ∧ n < 65536)) && decide ((nums o).length ≤ 40)))
theorem elI_el (o : Option (List Int)) : isEl (elI o) o := by
 cases o with
 | none => exact .inl ⟨rfl, rfl⟩
 | some l => exact .inr (.inr ⟨true, l, rfl, rfl⟩)
theorem dnB_of {ml : List Mi} {rl : List (Option (List Int))} (h : dnB ml rl = true) : (∀ m ∈ ml, m.ok) ∧ (∀ o ∈ rl, ∀ n ∈ nums o, 0 ≤ n ∧ n < 65536) ∧ ml.length ≤ 20 ∧ rl.length ≤ 20 ∧ ∀ o ∈ rl, (nums o).length ≤ 40 := by
 simp only [dnB, Bool.and_eq_true, decide_eq_true_eq, List.all_eq_true, miB] at h
 exact ⟨fun m hm => h.1 m hm, fun o ho n hn => (h.2.2.2 o ho).1 n hn, h.2.1, h.2.2.1, fun o ho => (h.2.2.2 o ho).2⟩
theorem dn0_ok {ml : List Mi} (h : dnB ml [] = true) : (dn0 ml).ok := by
 obtain ⟨h1, h2, h3, h4, h5⟩ := dnB_of h
 exact ⟨.inr (.inr ⟨true, rfl⟩), Ni, h1, fun o ho => (by cases ho), rfl, h3, h4, h5⟩
theorem K7 {ml : List Mi} {rl : List (Option (List Int))} (h : dnB ml rl = true) : (dn1 ml rl).ok := by
 obtain ⟨h1, h2, h3, h4, h5⟩ := dnB_of h
 refine ⟨.inr (.inr ⟨true, rfl⟩), ⟨rl.map elI, .inr (.inr ⟨true, rfl⟩), by simp [dn1], fun k h h' => ?_⟩, h1, h2, ?_, h3, h4, h5⟩
 ·rw [List.getElem_map]; exact elI_el _
 ·show V.belL 0 (rl.map elI) = true
  clear h h2 h4 h5
  induction rl with
  | nil => rfl
  | cons o l ih =>
   simp only [mcs, V.belL, Bool.and_eq_true]
   refine ⟨?_, ih⟩
   cases o with
   | none => rfl
   | some l => exact Dc l 0
def hA : List Dn := [dn0 [⟨false, 0, 1⟩], dn1 [⟨true, 0, 0⟩] [some [1]]]
def hB : List Dn := [dn1 [⟨false, 0, 1⟩] [some [9999]], dn1 [⟨true, 0, 0⟩] [some [1]]]
def hC : List Dn := [dn1 [⟨false, 0, 1⟩, ⟨true, 1, 0⟩] [some [2]], dn1 [⟨false, 1, 2⟩, ⟨true, 0, 0⟩] [some [1]]]
theorem hA_ok : okD hA = true ∧ ofD hA = 0 := by decide +kernel
theorem hB_ok : okD hB = true ∧ ofD hB = 2 := by decide +kernel
theorem hC_ok : okD hC = true ∧ ofD hC = 8 := by decide +kernel
theorem all2 {a b : Dn} (ha : a.ok) (hb : b.ok) : ∀ d ∈ [a, b], d.ok := fun d hd => by
 rcases List.mem_cons.1 hd with rfl | hd
 ·exact ha
 ·rw [List.mem_singleton.1 hd]; exact hb
theorem Om (hP : PE E) (W : AW) : ACalls E 9 [] W fun Y W' => Y = .bool true ∧ W' = W := by
 refine ACalls.of hP Tryz.func9 Xb (by simp) fun _ hok => ?_
 refine Af hok ?_
 have fA := fun W => N1 (E := E) hP W (v := .sl 2 true (hA.map Dn.V)) (ds := hA) .mk (all2 (dn0_ok (by decide)) (K7 (by decide))) (by decide) hA_ok.1
 have fB := fun W => N1 (E := E) hP W (v := .sl 2 true (hB.map Dn.V)) (ds := hB) .mk (all2 (K7 (by decide)) (K7 (by decide))) (by decide) hB_ok.1
 have fC := fun W => N1 (E := E) hP W (v := .sl 2 true (hC.map Dn.V)) (ds := hC) .mk (all2 (K7 (by decide)) (K7 (by decide))) (by decide) hC_ok.1
 rw [hA_ok.2] at fA
 rw [hB_ok.2] at fB
 rw [hC_ok.2] at fC
 have z0 : ((((0 : Nat) : Int)) == 0) = true := rfl
 have z2 : ((((2 : Nat) : Int)) == 2) = true := rfl
 have z8 : ((((8 : Nat) : Int)) == 8) = true := rfl
 simp only [BZ, c_awake]
 refine pc (Vt hP _ _ _) ?_
 simp only [BZ, ↓reduceIte, nE, BM, BD, nA, nL, nT, bsM1]
 refine pc (Ru hP _ _) ?_
 simp only [BS, BC, ↓reduceIte, bsM1, bsU, bsL1]
 refine pc (H4 hP _ rfl) ?_
 simp only [BZ, ↓reduceIte, nE, BM, BD, nA, nL, nT, bsD2]
 refine Ay rfl (fA _) ?_
 simp only [BS, ↓reduceIte, z0]
 repeat (rw [Aa]; simp only [BS, ↓reduceIte])
 refine Ay rfl (Vt hP _ _ _) ?_
 simp only [BS, ]
 repeat (rw [Aa]; simp only [BS, ↓reduceIte, nE, bsM1])
 refine Ay rfl (dead_c hP _) ?_
 simp only [BS, ]
 repeat (rw [Aa]; simp only [BS, BC, ↓reduceIte, nE, BM, BD, nA, nL, bsD2])
 refine Ay rfl (fB _) ?_
 simp only [BS]
 repeat (rw [Aa]; simp only [BS, ↓reduceIte, nE, z2, bsU, bsL1])
 refine Ay rfl (Vt hP _ _ _) ?_
 simp only [BS, ]
 repeat (rw [Aa]; simp only [BS, ↓reduceIte, nE])
 refine Ay rfl (Ru hP _ _) ?_
 simp only [BS, ]
 repeat (rw [Aa]; simp only [BS, ↓reduceIte, nE, bsM2])
 refine Ay rfl (H4 hP _ rfl) ?_
 simp only [BS, ]
 repeat (rw [Aa]; simp only [BS, ↓reduceIte, nE, BM, BD, nA, nL])
 refine Ay rfl (Vt hP _ _ _) ?_
 simp only [BS, ]
 repeat (rw [Aa]; simp only [BS, ↓reduceIte, nE])
 refine Ay rfl (Ru hP _ _) ?_
 simp only [BS, ]
 repeat (rw [Aa]; simp only [BS, ↓reduceIte, nE, bsM2])
 refine Ay rfl (H4 hP _ rfl) ?_
 simp only [BS, ]
 repeat (rw [Aa]; simp only [BS, ↓reduceIte, nE, BM, BD, nA, nL, bsD2])
 refine Ay rfl (fC _) ?_
 simp only [BS]
 repeat (rw [Aa]; simp only [BS, BC, ↓reduceIte, nE, z8])
 exact ⟨_, rfl, _, W, Ap hok rfl, lr _, rfl, rfl⟩
set_option maxHeartbeats 2000000
theorem ac_load {W : AW} {K : V → AW → Prop} {a : Ac} : sem E (.load true 5) [.cptr a.V.cells] W K = K a.V W := rfl
theorem ac_frz {W : AW} {a : Ac} : W.frz a.V = a.V := rfl
set_option maxHeartbeats 8000000
theorem ACalls.arg {f : FuncId} {vs vs' : List V} {W : AW} {Q : V → AW → Prop} (h : ∀ γ w ws, RelW E γ w W → RelL γ vs ws → RelL γ vs' ws) (hc : ACalls E f vs' W Q) : ACalls E f vs W Q :=
 ⟨hc.1, fun hs γ w ws hW hr => hc.2 hs γ w ws hW (h γ w ws hW hr)⟩
theorem Po {γ : G} {w : World} {W : AW} (hW : RelW E γ w W) {s : Nat} : ∀ {xs : List V} {l : List Value}, RelE γ s xs l → RelE γ s (xs.map W.frz) l
 | [], _, h => h
 | _ :: _, _, ⟨v, l', h1, h2, h3, h4⟩ => ⟨v, l', h1, h2, Gy hW h3, Po hW h4⟩
theorem sl_deep {γ : G} {w : World} {W : AW} (hW : RelW E γ w W) {s : Nat} {f : Bool} {xs : List V} {v : Value} (h : RelV γ (.sl s f xs) v) : RelV γ (.sl s f (xs.map W.frz)) v := by
 obtain ⟨b, pre, l, post, sz, cap, h1, h2, h3, h4, h5, h6⟩ := h
 exact ⟨b, pre, l, post, sz, cap, h1, Po hW h2, by rw [lmp]; exact h3, by rw [lmp]; exact h4, by rw [lmp]; exact h5, by rw [lmp]; exact h6⟩
theorem Wf {W : AW} {h : V} {es : List V} {lo : Nat} (hn : nowG W h es 1 lo) {γ : G} {w : World} (hW : RelW E γ w W) {v : Value} (hr : RelV γ h v) : RelV γ (nowGS 1 (es.map W.frz)) v := by
 have h1 := Gy hW hr
 rw [hn.frz] at h1
 unfold nowGS at h1 ⊢
 by_cases he : es = []
 ·subst he; simpa using h1
 ·rw [if_neg he] at h1
  rw [if_neg (by simpa using he)]
  exact sl_deep hW h1
def c_serialL_0 : AC := (.seq (.r [.m 19 7,.m 20 0,.u 21 (.len 1 0) 20,.b 22 (.bin .lss) 19 21,.m 23 22,.M 24 5 23 true,.p 25 .pick [.t 23,.t 24,.F]] (.w 25 0)) (.seq (.block 1 (.seq (.r [.m 28 0,.m 29 7,.b 30 (.idxp 2) 28 29,.u 31 (.fld 0) 30,.u 32 (.load false 1) 31,.u 33 (.len 1 0) 32,.a 34 (.bin .gtr) 33 20] (.cond (.t 34) (.r [.u 35 (.load true 4) 4,⟨none,.store 4, [.t 2,.t 35], none⟩,.v 3 (.bool false)] .ret) .skip)) (.par (.step 1 (.m 37 7) (.step 2 (.a 38 (.bin .rem) 37 16) (.step 3 (.u 39 (.conv .u8) 38) (.step 4 (.m 40 7) (.step 5 (.u 41 (.conv .u16) 40) (.step 6 (.m 42 0) (.step 7 (.m 43 7) (.step 0 (.u 36 (.load true 4) 4) (.step 8 (.b 44 (.idxp 2) 42 43) (.step 9 (.u 45 (.fld 0) 44) (.step 10 (.u 46 (.load false 1) 45) (.step 11 (.p 47 (.build [.int .u8 0,.int .u8 0,.int .u16 0,.nilsl,.nilsl] [(1, 1), (2, 1), (3, 1)]) [.t 39,.t 41,.t 46]) (.step 12 (.b 48 (.call 10) 36 47) (.step 13 (.a 49 (.bin .eql) 48 0) (.step 14 (.m 5 49) .done)))))))))))))))))) (.reg [.m 26 7,.a 27 (.bin .add) 26 1,.m 7 27])))
def c_serialL_2 : AC := (.seq (.r [.m 65 11,.m 66 0,.m 67 8,.b 68 (.idxp 2) 66 67,.u 69 (.fld 0) 68,.u 70 (.load false 1) 69,.u 71 (.len 1 0) 70,.b 72 (.bin .lss) 65 71] (.w 72 4)) (.seq (.block 5 (.r [.m 75 0,.m 76 8,.b 77 (.idxp 2) 75 76,.u 78 (.fld 0) 77,.u 79 (.load false 1) 78,.m 80 11,.b 81 (.idxp 3) 79 80,.u 82 (.load true 3) 81,.p 12 (.alloc [.bool false,.int .u8 0,.int .u16 0]) [],⟨none,.store 3, [.t 12,.t 82], none⟩] (.r [.u 83 (.fld 0) 12,.u 84 (.load false 1) 83] (.cond (.t 84) (.r [.v 13 (.nilsl)] (.r [.m 85 13,.u 86 (.fld 1) 12,.u 87 (.load false 1) 86,.b 88 (.idxa 8 1) 6 87,.u 89 (.load false 1) 88,.b 90 (.append 1 2) 85 89,.m 13 90] (.reg [.m 91 9,.m 92 13,.u 93 (.bslice 1 1 (.nilsl) [0]) 92,.b 94 (.append 1 24) 91 93,.m 9 94]))) (.r [.m 95 10,.p 96 (.bin .neq) [.t 95,.c (.int .u8 3)],.m 97 96,.M 98 10 97 true,.P 99 (.bin .neq) [.t 98,.c (.int .u8 5)] 97 true,.p 100 .pick [.t 97,.t 99,.F]] (.cond (.t 100) (.par (.step 0 (.u 101 (.fld 1) 12) (.step 2 (.u 103 (.fld 1) 12) (.step 6 (.u 107 (.fld 2) 12) (.step 3 (.u 104 (.load false 1) 103) (.step 4 (.b 105 (.idxa 8 1) 6 104) (.step 5 (.u 106 (.load false 1) 105) (.step 7 (.u 108 (.load false 1) 107) (.step 8 (.u 109 (.bslice 1 1 (.int .u16 0) [0]) 108) (.alt (.step 1 (.u 102 (.load false 1) 101) (.step 9 (.b 110 (.append 1 2) 106 109) (.step 10 (.b 111 (.idxa 8 1) 6 102) (.step 11 ⟨none,.store 1, [.t 111,.t 110], none⟩ .done)))) (.step 9 (.b 110 (.append 1 2) 106 109) (.step 1 (.u 102 (.load false 1) 101) (.step 10 (.b 111 (.idxa 8 1) 6 102) (.step 11 ⟨none,.store 1, [.t 111,.t 110], none⟩ .done)))))))))))))) .skip)))))) (.reg [.m 73 11,.a 74 (.bin .add) 73 1,.m 11 74])))
def c_serialL_1 : AC := (.seq (.r [.m 50 8,.m 51 0,.u 52 (.len 1 0) 51,.b 53 (.bin .lss) 50 52,.m 54 53,.M 55 5 54 true,.p 56 .pick [.t 54,.t 55,.F]] (.w 56 2)) (.seq (.block 3 (.r [.v 9 (.nilsl)] (.r [.m 59 0,.m 60 8,.b 61 (.idxp 2) 59 60,.u 62 (.fld 1) 61,.u 63 (.load false 1) 62,.p 64 (.bin .rem) [.t 63,.c (.int .u8 6)],.m 10 64] (.seq (.r [.v 11 (.int .i64 0)] (.block 4 (.loop c_serialL_2))) (.r [.v 14 (.int .u8 2)] (.seq (.r [.m 112 10,.p 113 (.bin .gtr) [.t 112,.c (.int .u8 2)]] (.cond (.t 113) (.reg [.m 114 10,.p 115 (.bin .add) [.t 114,.c (.int .u8 1)],.m 14 115]) .skip)) (.seq (.r [.m 116 10,.p 117 (.bin .eql) [.t 116,.c (.int .u8 5)]] (.cond (.t 117) (.reg [.v 14 (.int .u8 5)]) .skip)) (.reg [.u 118 (.load true 4) 4,.m 119 14,.m 120 8,.u 121 (.conv .u16) 120,.m 122 9,.p 123 (.build [.int .u8 0,.int .u8 0,.int .u16 0,.nilsl,.nilsl] [(0, 1), (2, 1), (4, 1)]) [.t 119,.t 121,.t 122],.b 124 (.call 10) 118 123,.a 125 (.bin .eql) 124 0,.m 5 125])))))))) (.reg [.m 57 8,.a 58 (.bin .add) 57 1,.m 8 58])))
def c_serialL : AC := (.r [.p 2 (.alloc [.nilptr,.nilptr,.nilptr,.nilptr]) [],.v 3 (.bool false)] (.r [.p 16 (.call 7) [],.m 15 16,.u 17 (.ext 0) 15,.u 18 (.ext 1) 15,.p 4 (.alloc [.nilptr,.nilptr,.nilptr,.nilptr]) [],⟨none,.store 4, [.t 4,.t 17], none⟩,.m 5 18] (.r [.p 6 (.alloc [.nilsl,.nilsl,.nilsl,.nilsl,.nilsl,.nilsl,.nilsl,.nilsl]) []] (.seq (.r [.v 7 (.int .i64 0)] (.block 0 (.loop c_serialL_0))) (.seq (.r [.v 8 (.int .i64 0)] (.block 2 (.loop c_serialL_1))) (.r [.u 126 (.load true 4) 4,.m 127 5,⟨none,.store 4, [.t 2,.t 126], none⟩,.m 3 127] .ret))))))
theorem Px : compF Tryz.prog Tryz.f15 ⟨false, false, []⟩ = some (c_serialL, [.cell 2 true 4, .tmp 3], 128) := by kernel_rfl
structure Sr where
 lv : V
 ml : List Mi
 en : Int
def Sr.V (x : Sr) : V := .agg [x.lv, .int .u8 x.en]
structure Sr.ok (x : Sr) : Prop where
 ms : isMs x.lv x.ml
 mi : ∀ m ∈ x.ml, m.ok
 e : 0 ≤ x.en ∧ x.en < 256
theorem O5 {W : AW} {K : V → AW → Prop} {x : Sr} : sem E (.fld 0) [.cptr x.V.cells] W K = K (.cptr [x.lv, .int .u8 x.en]) W := by
 simp [Sr.V, V.cells, sem, rsem, tsem]
theorem srF1 {W : AW} {K : V → AW → Prop} {x : Sr} : sem E (.fld 1) [.cptr x.V.cells] W K = K (.cptr [.int .u8 x.en]) W := by
 simp [Sr.V, V.cells, sem, rsem, tsem]
def begS (x : Sr) (i : Nat) : Ac := ⟨0, ((i % 16 : Nat) : Int), (i : Int), x.lv, x.ml, .nilsl, []⟩
theorem begS_ok {x : Sr} (h : x.ok) {i : Nat} (hi : i < 65536) : (begS x i).ok where
 wh := ⟨Int.le_refl 0, by show (0 : Int) < 256; decide⟩
 cl := ⟨by simp [begS]; omega, by simp [begS]; omega⟩
 id := ⟨by simp [begS], by simp [begS]; omega⟩
 tx := h.ms
 rd := Ni
 ms := h.mi
 ns := fun o ho => by cases ho
 bel := rfl
theorem rem16 {W : AW} {K : V → AW → Prop} {k : Nat} : sem E (.bin .rem) [.int .i64 (k : Int), .int .i64 16] W K = K (.int .i64 ((k % 16 : Nat) : Int)) W := by
 have e : Int.tmod (k : Int) 16 = ((k % 16 : Nat) : Int) := by
  have := Int.tmod_eq_emod_of_nonneg (a := (k : Int)) (b := 16) (by omega)
  rw [this]; omega
 simp [sem, rsem, tsem, binI, e]
theorem begS_act {s : Str} {x : Sr} {k : Nat} : actG s os0 (begS x k) = ((beginR s ((k % 16 : Nat) : Int) (k : Int) x.ml).1, os0, (beginR s ((k % 16 : Nat) : Int) (k : Int) x.ml).2, true) := by
 have h0 : w6 (begS x k) = 0 := rfl
 unfold actG
 rw [if_neg (by omega), if_neg (by omega), if_neg (by omega)]
 rfl
theorem BtX.putB {Xs : Nat → Prop} {Wb W : AW} {F p ra rw q N x : Nat} {s : Str} {o : Ods} {r : List V} (B : BtX Xs Wb F p ra rw q W s o N) (h1 : x < Wb.nx) (hr : W.get x = some (.row r)) (ob : AObj) : BtX Xs (Wb.put x ob) F p ra rw q (W.put x ob) s o N := by
 obtain ⟨l1, l2, l3, l4, l5⟩ := B.lt
 obtain ⟨h, l, L, cs, es, hR, hO, hA⟩ := B.doc
 have n1 := B.sx.nw.hp
 have n2 := B.sx.nw.ha
 have n3 := B.sx.nw.hw
 have n4 := B.sx.hq
 have n5 := B.sx.nw.ex.nx
 have hF : FrO W x (W.put x ob) := ⟨B.cl.put (by omega), by rw [Ae]; exact lr _, fun y _ hy => put_ne hy⟩
 have hS := B.sx.nw.st.by hF.nx (put_ne (by omega)) (put_ne (by omega)) (put_ne (by omega))
 have hOd := B.sx.od.by hF.nx (put_ne (by omega))
 have hE : Ex (Wb.put x ob) (W.put x ob) := ⟨hF.cl, by rw [Ae, Ae]; exact n5, fun y hy => by
  rw [Ae] at hy
  by_cases e : y = x
  ·rw [e, put_at, put_at]
  ·rw [put_ne e, put_ne e]; exact B.sx.nw.ex.get y hy⟩
 exact ⟨⟨⟨hS, hE, by rw [Ae]; exact n1, by rw [Ae]; exact n2, by rw [Ae]; exact n3⟩, hOd, by rw [Ae]; exact n4, B.sx.ne⟩, ⟨l1, l2, l3, l4, by rw [Ae]; exact l5⟩, by rw [Ae]; exact B.nx, ⟨h, l, L, cs, es, hR.fo hF hr (by omega), hO.to hF.nx (put_ne (by omega)) fun y _ _ ⟨ys, hy⟩ => put_ne (by rintro rfl; rw [hr] at hy; cases hy), hA⟩, fun r hr => by rw [Ae]; exact B.xl r hr⟩
def begT (xs : List Sr) : Str := xs.mapIdx fun k x => ⟨(k : Int), ((k % 16 : Nat) : Int), x.ml, [], 0⟩
theorem X4 {xs : List Sr} {k : Nat} (h : k < xs.length) : begT (xs.take (k + 1)) = begT (xs.take k) ++ [⟨(k : Int), ((k % 16 : Nat) : Int), xs[k].ml, [], 0⟩] := by
 unfold begT
 rw [tao, gEg h, Option.toList_some, List.mapIdx_append]
 simp [Nat.min_eq_left (Nat.le_of_lt h)]
theorem serB_go (hP : PE E) {W Wb : AW} {F p ra rw q b2 b4 b6 : Nat} {v : V} {xs : List Sr} (hv : isS 2 v (xs.map Sr.V)) (hx : ∀ x ∈ xs, x.ok) (hl : xs.length ≤ 50) (B : Bt Wb F p ra rw q W [] os0 0)
  (h2 : b2 < Wb.nx) (g2 : W.get b2 = some (.row [.nilptr, .nilptr, .nilptr, .nilptr])) (h4 : F + 2 ≤ b4 ∧ b4 < W.nx) (g4 : W.get b4 = some (.row [.ptr p 0, .ptr q 0, .ptr F 0, .ptr (F + 1) 0])) {r6 : List V} (h6 : F + 2 ≤ b6 ∧ b6 < W.nx) (g6 : W.get b6 = some (.row r6)) {A : AFr} {Q : Exit → AFr → AW → Prop}
  (a0 : A 0 = some v) (a2 : A 2 = some (.ptr b2 0)) (a4 : A 4 = some (.ptr b4 0)) (a5 : A 5 = some (.bool true)) (a6 : A 6 = some (.ptr b6 0)) (a7 : A 7 = some (.int .i64 0))
  (hret : ∀ A' W' s N, A' 2 = some (.ptr b2 0) → A' 3 = some (.bool false) → W'.get b2 = some (.row [.ptr p 0, .ptr q 0, .ptr F 0, .ptr (F + 1) 0]) → Bt (Wb.put b2 (.row [.ptr p 0, .ptr q 0, .ptr F 0, .ptr (F + 1) 0])) F p ra rw q W' s os0 N → Q .ret A' W')
  (hex : ∀ A' W' b, A' 0 = some v → A' 2 = some (.ptr b2 0) → A' 4 = some (.ptr b4 0) → A' 5 = some (.bool b) → A' 6 = some (.ptr b6 0) → W'.get b2 = some (.row [.nilptr, .nilptr, .nilptr, .nilptr]) → W'.get b4 = some (.row [.ptr p 0, .ptr q 0, .ptr F 0, .ptr (F + 1) 0]) → W'.get b6 = some (.row r6) → W.nx ≤ W'.nx → (∃ s N, Bt Wb F p ra rw q W' s os0 N ∧ (b = true → SB s os0 nw0 0 ∧ N = 8 * xs.length ∧ s = begT xs)) → Q (.exit 0) A' W') : awp E (.loop c_serialL_0) Q A W := by
 obtain ⟨l1, l2, l3, l4, l5⟩ := B.lt
 have hxw := B.sx.nw
 have hp := hxw.hp
 have ha := hxw.ha
 have hw := hxw.hw
 have hq := B.sx.hq
 have hBx := hxw.ex.nx
 have keep : ∀ {Wa Wc : AW} {x : Nat} {r : List V}, FrB Wa Wc F p ra rw q → (x < Wb.nx ∨ F + 2 ≤ x) → x < Wa.nx → Wa.get x = some (.row r) → Wc.get x = some (.row r) := fun hF hx hx' hg => by
  rw [hF.get _ hx' (by omega) (by omega) (by omega) (by omega) (by omega) (by omega) (fun cs => by rw [hg]; simp)]; exact hg
 have keepE : ∀ {Wa Wc : AW} {x : Nat} {r : List V}, Ex Wa Wc → x < Wa.nx → Wa.get x = some (.row r) → Wc.get x = some (.row r) := fun hE hx hg => (hE.get _ hx).trans hg
 rw [Ai]
 refine alp (fun (σ : Nat × Bool × Str × Nat) A1 W1 => A1 0 = some v ∧ A1 2 = some (.ptr b2 0) ∧ A1 4 = some (.ptr b4 0) ∧ A1 5 = some (.bool σ.2.1) ∧ A1 6 = some (.ptr b6 0) ∧ A1 7 = some (.int .i64 (σ.1 : Nat)) ∧ σ.1 ≤ xs.length ∧ W1.get b2 = some (.row [.nilptr, .nilptr, .nilptr, .nilptr]) ∧ W1.get b4 = some (.row [.ptr p 0, .ptr q 0, .ptr F 0, .ptr (F + 1) 0]) ∧ W1.get b6 = some (.row r6) ∧ W.nx ≤ W1.nx ∧ Bt Wb F p ra rw q W1 σ.2.2.1 os0 σ.2.2.2 ∧ σ.2.2.2 ≤ 8 * σ.1 ∧ (σ.2.1 = true → SB σ.2.2.1 os0 nw0 0 ∧ σ.2.2.2 = 8 * σ.1 ∧ σ.2.2.1 = begT (xs.take σ.1))) (fun σ => xs.length - σ.1) (0, true, [], 0)
  ⟨a0, a2, a4, a5, a6, a7, Nat.zero_le _, g2, g4, g6, lr _, B, lr _, fun _ => ⟨SB.zero, rfl, rfl⟩⟩ ?_
 rintro ⟨k, b, s, N⟩ A1 W1 ⟨q0, q2, q4, q5, q6, q7, qk, k2, k4, k6, kn, kB, kN, kS⟩ _
 simp only at q5 q7 qk kB kN kS
 by_cases hk : k < xs.length
 ·cases b with
  | false =>
   simp (disch:=omega) only [BS, Am, ↓reduceIte, nE, reduceCtorEq, c_serialL_0, q0, q7, hv.len, lmp, clt, hk, dT]
   repeat (rw [Aa]; simp (disch:=omega) only [BS, BC, Ad, ↓reduceIte, nE, q5])
   exact hex _ _ false q0 q2 q4 q5 q6 k2 k4 k6 kn ⟨s, N, kB, fun h => by cases h⟩
  | true =>
   obtain ⟨kS1, rfl, rfl⟩ := kS rfl
   have hat : (xs.map Sr.V)[k]? = some (xs[k]).V := by simp [hk]
   have hxk := hx _ (gmm hk)
   have hsn := X4 hk
   generalize xs[k] = x at hat hxk hsn
   have hms : isS 3 x.lv (x.ml.map Mi.V) := hxk.ms
   by_cases h20 : x.ml.length > 20
   ·have h20' : decide (((x.ml.length : Nat) : Int) > 20) = true := by simp; omega
    simp (disch:=omega) only [BS, Am, ↓reduceIte, nE, reduceCtorEq, c_serialL_0, q0, q7, hv.len, lmp, clt, hk, dT]
    repeat (rw [Aa]; simp (disch:=omega) only [BS, Am, Ad, ↓reduceIte, nE, reduceCtorEq, q5])
    simp (disch:=omega) only [BS, Am, Ad, ↓reduceIte, nE, BM, BD, nA, nL, q0, q2, q4, q7, hv.idx hat, O5, hms.len, lmp, h20', k2, k4]
    exact hret _ _ _ _ q2 rfl put_at (kB.putB h2 k2 _)
   ·have h20' : decide (((x.ml.length : Nat) : Int) > 20) = false := by simp; omega
    simp (disch:=omega) only [BS, Am, ↓reduceIte, nE, reduceCtorEq, c_serialL_0, q0, q7, hv.len, lmp, clt, hk, dT]
    repeat (rw [Aa]; simp (disch:=omega) only [BS, Am, Ad, ↓reduceIte, nE, reduceCtorEq, q5])
    simp (disch:=omega) only [BS, BC, Ad, ↓reduceIte, nE, BM, q0, q7, hv.idx hat, O5, hms.len, lmp, h20']
    have c8 : IntKind.u8.wrap ((k % 16 : Nat) : Int) = ((k % 16 : Nat) : Int) := IntWalk.u8_in _ (by omega)
    have c16 : IntKind.u16.wrap ((k : Nat) : Int) = ((k : Nat) : Int) := IntWalk.u16_in _ (by omega)
    have hact := Vu (E := E) hP W1 kB (by omega) (begS_ok hxk (i := k) (by omega)) ⟨by show x.ml.length ≤ 20; omega, by simp [begS], fun o ho => by cases ho⟩
    rw [begS_act] at hact
    simp only [begS, Ac.V] at hact
    simp (disch:=omega) only [BS, BC, ↓reduceIte, nE, reduceCtorEq, BM, BD, nA, nL, rem16, c8, c16, q0, q4, q7, hv.idx hat, O5, hms.cells, k4]
    refine hact.mono ?_
    rintro _ W3 ⟨rfl, b1, b3⟩
    have hnb := b3.nx
    have m2 := keep b3 (.inl h2) (by omega) k2
    have m4 := keep b3 (.inr h4.1) (by omega) k4
    have m6 := keep b3 (.inr h6.1) (by omega) k6
    by_cases he : (beginR (begT (xs.take k)) ((k % 16 : Nat) : Int) (k : Int) x.ml).2 = 0
    ·have e0 : ((beginR (begT (xs.take k)) ((k % 16 : Nat) : Int) (k : Int) x.ml).2 == 0) = true := by rw [he]; rfl
     simp (disch:=omega) only [BS, ↓reduceIte, nE, reduceCtorEq, q7, Ah, e0]
     refine ⟨(k + 1, true, _, _), ⟨q0, q2, q4, tt, q6, tt, hk, m2, m4, m6, by omega, b1, by show 8 * k + 8 ≤ 8 * (k + 1); omega, fun _ => ⟨SB.begin kB.sx.nw.st.ok kS1 he, by show 8 * k + 8 = 8 * (k + 1); omega, ?_⟩⟩, by show xs.length - (k + 1) < xs.length - k; omega, by omega⟩
     show (beginR (begT (xs.take k)) ((k % 16 : Nat) : Int) (k : Int) x.ml).1 = begT (xs.take (k + 1))
     rw [hsn]
     rcases Ol (begT (xs.take k)) ((k % 16 : Nat) : Int) (k : Int) x.ml with ⟨c1, _⟩ | ⟨_, c2⟩
     ·exact absurd he c1
     ·exact c2
    ·have e0 : ((beginR (begT (xs.take k)) ((k % 16 : Nat) : Int) (k : Int) x.ml).2 == 0) = false := beq_eq_false_iff_ne.2 he
     simp (disch:=omega) only [BS, ↓reduceIte, nE, reduceCtorEq, q7, Ah, e0]
     refine ⟨(k + 1, false, _, _), ⟨q0, q2, q4, tt, q6, tt, hk, m2, m4, m6, by omega, b1, by show 8 * k + 8 ≤ 8 * (k + 1); omega, fun h => by cases h⟩, by show xs.length - (k + 1) < xs.length - k; omega, by omega⟩
 ·obtain rfl : k = xs.length := by omega
  rw [tkl] at kS
  simp (disch:=omega) only [BS, Am, ↓reduceIte, nE, reduceCtorEq, c_serialL_0, q0, q7, hv.len, lmp, clt, hk, dF]
  repeat (rw [Aa]; simp (disch:=omega) only [BS, BC, Ad, ↓reduceIte, nE, BM])
  exact hex _ _ b q0 q2 q4 q5 q6 k2 k4 k6 kn ⟨s, N, kB, fun h => kS h⟩
theorem app_gr {W : AW} {K : V → AW → Prop} {c : V} {l : List Int} {lo lo' : Nat} (h : nowG W c (intsV l) 1 lo) (hl : l.length < 2 ^ 40) (hC : Cl W) (hlo : lo' ≤ W.nx) (hk : ∀ o W', nowG W' o (intsV l) 1 lo' → Ex W W' → K o W') : sem E (.append 1 2) [.nilsl, c] W K := by
 have he : elemsV 1 W c = some (intsV l) := by
  rcases h with ⟨rfl, h⟩ | ⟨r, _, _, rfl, _, hg⟩
  ·rw [h]; rfl
  ·simp [elemsV, hg]
 have hL := Ak l
 cases l with
 | nil =>
  simp only [sem, he]
  exact ⟨by decide, by decide, hk _ _ (.inl ⟨rfl, rfl⟩) (Ex.refl hC)⟩
 | cons a l =>
  have hem : (intsV (a :: l)).isEmpty = false := rfl
  simp only [sem, he, hem]
  refine ⟨by decide, by rw [hL]; omega, ?_⟩
  rw [if_neg (by decide)]
  exact hk _ _ (.inr ⟨W.nx, hlo, by rw [Ag]; omega, rfl, List.cons_ne_nil _ _, Ca⟩) (Ex.alloc hC)
theorem nowG.keep {W W' : AW} {h : V} {xs : List V} {s lo : Nat} (hn : nowG W h xs s lo) (hx : W.nx ≤ W'.nx) (hg : ∀ r, h = .buf true r s xs.length → r < W.nx → W'.get r = W.get r) : nowG W' h xs s lo := by
 rcases hn with ⟨rfl, rfl⟩ | ⟨r, h1, h2, h3, h4, h5⟩
 ·exact .inl ⟨rfl, rfl⟩
 ·exact .inr ⟨r, h1, by omega, h3, h4, by rw [hg r h3 h2]; exact h5⟩
structure Rd8 (W : AW) (b6 : Nat) (nw : Nl) (h : V) (rs : List (List Int)) (lo : Nat) (cs es : List V) : Prop where
 hp : W.get b6 = some (.row cs)
 lp : b6 < W.nx
 c8 : cs.length = 8
 gu : ∀ i (hi : i < cs.length), nowG W cs[i] (intsV ((nw (i : Int)).map (·.2))) 1 lo
 ne : ∀ i j (h : i < cs.length) (h' : j < cs.length), i ≠ j → ∀ r n m, cs[i] = .buf true r 1 n → cs[j] ≠ .buf true r 1 m
 now : nowG W h es 1 lo
 len : es.length = rs.length
 el : ∀ j (h1 : j < es.length) (h2 : j < rs.length), nowG W es[j] (intsV rs[j]) 1 lo
 d1 : ∀ i (hi : i < cs.length) r n m, cs[i] = .buf true r 1 n → h ≠ .buf true r 1 m
 d2 : ∀ i (hi : i < cs.length) j (hj : j < es.length) r n m, cs[i] = .buf true r 1 n → es[j] ≠ .buf true r 1 m
 d3 : ∀ j (hj : j < es.length) r n m, es[j] = .buf true r 1 n → h ≠ .buf true r 1 m
theorem Rd8.read {W W1 W2 : AW} {b6 lo r : Nat} {nw : Nl} {h o : V} {rs : List (List Int)} {cs es : List V} {l : List Int} (R : Rd8 W b6 nw h rs lo cs es) (hlo : lo ≤ W.nx) (hE : Ex W W1) (ho : nowG W1 o (intsV l) 1 W.nx)
  (hn : nowG W2 (.buf true r 1 (es.length + 1)) (es ++ [o]) 1 lo) (hx : W1.nx ≤ W2.nx) (hr : r = W1.nx ∨ h = .buf true r 1 es.length) (hg : ∀ y, y < W1.nx → y ≠ r → W2.get y = W1.get y) : Rd8 W2 b6 nw (.buf true r 1 (es.length + 1)) (rs ++ [l]) lo cs (es ++ [o]) := by
 have n1 := hE.nx
 -- what r is not
 have rc : ∀ i (hi : i < cs.length) n, cs[i] ≠ .buf true r 1 n := fun i hi n e => by
  rcases hr with rfl | hr
  ·have := ((R.gu i hi).ref e).1; omega
  ·exact R.d1 i hi r n _ e hr
 have re : ∀ j (hj : j < es.length) n, es[j] ≠ .buf true r 1 n := fun j hj n e => by
  rcases hr with rfl | hr
  ·have := ((R.el j hj (by rw [← R.len]; exact hj)).ref e).1; omega
  ·exact R.d3 j hj r n _ e hr
 have ro : ∀ n, o ≠ .buf true r 1 n := fun n e => by
  have h1 := ho.ref e
  rcases hr with rfl | hr
  ·omega
  ·have := (R.now.ref hr).1; omega
 have rb : b6 ≠ r := fun e => by
  rcases hr with e2 | hr
  ·have := R.lp; omega
  ·rcases R.now with ⟨e1, _⟩ | ⟨r', _, _, e3, _, e4⟩
   ·rw [e1] at hr; cases hr
   ·rw [hr] at e3; cases e3
    have := R.hp
    rw [e, e4] at this; cases this
 have old : ∀ y, y < W.nx → y ≠ r → W2.get y = W.get y := fun y hy hne => by rw [hg y (by omega) hne]; exact hE.get y hy
 refine ⟨by rw [old _ R.lp rb]; exact R.hp, by have := R.lp; omega, R.c8, fun i hi => (R.gu i hi).keep (by omega) fun y e hy => old y hy fun e2 => rc i hi _ (e2 ▸ e), R.ne, hn, by simp [R.len], fun j h1 h2 => ?_, fun i hi r' n m e1 e2 => ?_, fun i hi j hj r' n m e1 e2 => ?_, fun j hj r' n m e1 e2 => ?_⟩
 ·by_cases hj : j < es.length
  ·have hj' : j < rs.length := by rw [← R.len]; exact hj
   rw [List.getElem_append_left hj, List.getElem_append_left hj']
   exact (R.el j hj hj').keep (by omega) fun y e hy => old y hy fun e2 => re j hj _ (e2 ▸ e)
  ·have e : j = es.length := by simp at h1; omega
   subst e
   rw [List.getElem_append_right (lr _), List.getElem_append_right (by rw [R.len]; exact lr _)]
   simp only [R.len, Nat.sub_self, List.getElem_singleton]
   exact (ho.keep hx fun y e hy => hg y hy fun e2 => ro _ (e2 ▸ e)).low hlo
 ·cases e2; exact rc i hi _ e1
 ·by_cases hj' : j < es.length
  ·rw [List.getElem_append_left hj'] at e2; exact R.d2 i hi j hj' r' n m e1 e2
  ·have e : j = es.length := by simp at hj; omega
   subst e
   rw [List.getElem_append_right (lr _)] at e2
   simp only [Nat.sub_self, List.getElem_singleton] at e2
   have h1 := ((R.gu i hi).ref e1).1
   have h2 := (ho.ref e2).2.1
   omega
 ·cases e2
  by_cases hj' : j < es.length
  ·rw [List.getElem_append_left hj'] at e1; exact re j hj' _ e1
  ·have e : j = es.length := by simp at hj; omega
   subst e
   rw [List.getElem_append_right (lr _)] at e1
   simp only [Nat.sub_self, List.getElem_singleton] at e1
   exact ro _ e1
theorem Rd8.app {W W2 : AW} {b6 lo r f : Nat} {nw : Nl} {h : V} {rs : List (List Int)} {cs es : List V} {i x : Int} (R : Rd8 W b6 nw h rs lo cs es) (hf : f < cs.length)
  (hn : nowG W2 (.buf true r 1 ((intsV ((nw (f : Int)).map (·.2))).length + 1)) (intsV ((nw (f : Int)).map (·.2)) ++ [.int .u16 x]) 1 lo) (hx : W.nx ≤ W2.nx) (hr : r = W.nx ∨ cs[f] = .buf true r 1 (intsV ((nw (f : Int)).map (·.2))).length) (hg : ∀ y, y < W.nx → y ≠ r → W2.get y = W.get y) :
  Rd8 (W2.put b6 (.row (cs.set f (.buf true r 1 ((intsV ((nw (f : Int)).map (·.2))).length + 1))))) b6 (addN nw f (i, x)) h rs lo (cs.set f (.buf true r 1 ((intsV ((nw (f : Int)).map (·.2))).length + 1))) es := by
 have rc : ∀ j (hj : j < cs.length), j ≠ f → ∀ n, cs[j] ≠ .buf true r 1 n := fun j hj hjf n e => by
  rcases hr with rfl | hr
  ·have := ((R.gu j hj).ref e).1; omega
  ·exact R.ne f j hf hj (fun e => hjf e.symm) r _ n hr e
 have re : ∀ j (hj : j < es.length) n, es[j] ≠ .buf true r 1 n := fun j hj n e => by
  rcases hr with rfl | hr
  ·have := ((R.el j hj (by rw [← R.len]; exact hj)).ref e).1; omega
  ·exact R.d2 f hf j hj r _ n hr e
 have rh : ∀ n, h ≠ .buf true r 1 n := fun n e => by
  rcases hr with rfl | hr
  ·have := (R.now.ref e).1; omega
  ·exact R.d1 f hf r _ n hr e
 have rb : b6 ≠ r := fun e => by
  rcases hr with e2 | hr
  ·have := R.lp; omega
  ·rcases R.gu f hf with ⟨e1, _⟩ | ⟨r', _, _, e3, _, e4⟩
   ·rw [e1] at hr; cases hr
   ·rw [hr] at e3; cases e3
    have := R.hp
    rw [e, e4] at this; cases this
 -- what is a list is not the row
 have nb : ∀ {h : V} {xs : List V} {n : Nat}, nowG W h xs 1 lo → h = .buf true b6 1 n → False := fun {h xs n} hN e => by
  rcases hN with ⟨rfl, _⟩ | ⟨r', _, _, e3, _, e4⟩
  ·cases e
  ·rw [e] at e3; cases e3
   rw [R.hp] at e4; cases e4
 have old : ∀ y, y < W.nx → y ≠ r → y ≠ b6 → (W2.put b6 (.row (cs.set f (.buf true r 1 ((intsV ((nw (f : Int)).map (·.2))).length + 1))))).get y = W.get y := fun y hy h1 h2 => by rw [put_ne h2]; exact hg y hy h1
 refine ⟨put_at, by rw [Ae]; have := R.lp; omega, by rw [List.length_set]; exact R.c8, fun j hj => ?_, fun j k hj hk hjk r' n m e1 e2 => ?_, R.now.keep (by rw [Ae]; exact hx) fun y e hy => old y hy (fun e2 => rh _ (e2 ▸ e)) fun e2 => nb R.now (e2 ▸ e), R.len, fun j h1 h2 => (R.el j h1 h2).keep (by rw [Ae]; exact hx) fun y e hy => old y hy (fun e2 => re j h1 _ (e2 ▸ e)) fun e2 => nb (R.el j h1 h2) (e2 ▸ e), fun j hj r' n m e1 e2 => ?_, fun j hj k hk r' n m e1 e2 => ?_, R.d3⟩
 ·have hj' : j < cs.length := by simpa using hj
  by_cases e : j = f
  ·subst e
   rw [List.getElem_set_self, addN, if_pos rfl, mpp, show intsV ((nw (j : Int)).map (·.2) ++ [(i, x)].map (·.2)) = intsV ((nw (j : Int)).map (·.2)) ++ [.int .u16 x] by simp [intsV]]
   have h3 := hn.keep (W' := W2.put b6 (.row (cs.set j (.buf true r 1 ((intsV ((nw (j : Int)).map (·.2))).length + 1))))) (by rw [Ae]; exact lr _) fun y e hy => put_ne (by
    have e' := e
    simp only [V.buf.injEq, true_and] at e'
    have : r = y := e'.1
    rw [← this]; exact fun e => rb e.symm)
   exact h3
  ·have hne : ((j : Int)) ≠ (f : Int) := by omega
   rw [List.getElem_set_ne (fun e2 => e e2.symm), addN, if_neg hne]
   exact (R.gu j hj').keep (by rw [Ae]; exact hx) fun y e3 hy => old y hy (fun e2 => rc j hj' e _ (e2 ▸ e3)) fun e2 => nb (R.gu j hj') (e2 ▸ e3)
 ·have hj' : j < cs.length := by simpa using hj
  have hk' : k < cs.length := by simpa using hk
  by_cases ej : j = f
  ·subst ej
   rw [List.getElem_set_self] at e1
   rw [List.getElem_set_ne hjk] at e2
   cases e1
   exact rc k hk' (fun e => hjk e.symm) _ e2
  ·rw [List.getElem_set_ne (fun e => ej e.symm)] at e1
   by_cases ek : k = f
   ·subst ek
    rw [List.getElem_set_self] at e2
    cases e2
    exact rc j hj' ej _ e1
   ·rw [List.getElem_set_ne (fun e => ek e.symm)] at e2
    exact R.ne j k hj' hk' hjk r' n m e1 e2
 ·have hj' : j < cs.length := by simpa using hj
  by_cases ej : j = f
  ·subst ej
   rw [List.getElem_set_self] at e1
   cases e1
   exact rh _ e2
  ·rw [List.getElem_set_ne (fun e => ej e.symm)] at e1
   exact R.d1 j hj' r' n m e1 e2
 ·have hj' : j < cs.length := by simpa using hj
  by_cases ej : j = f
  ·subst ej
   rw [List.getElem_set_self] at e1
   cases e1
   exact re k hk _ e2
  ·rw [List.getElem_set_ne (fun e => ej e.symm)] at e1
   exact R.d2 j hj' k hk r' n m e1 e2
def apB (e : Int) : Bool := decide (e ≠ 3) && decide (e ≠ 5)
structure Mf (W W1 : AW) (b6 : Nat) (h : V) (cs0 cs : List V) : Prop where
 cl : Cl W1
 nx : W.nx ≤ W1.nx
 fr : ∀ y, y < W.nx → y ≠ b6 → (∀ i (hi : i < cs0.length) n, cs0[i] ≠ .buf true y 1 n) → W1.get y = W.get y
 cr : ∀ i (hi : i < cs.length) (h0 : i < cs0.length) r n, cs[i] = .buf true r 1 n → W.nx ≤ r ∨ ∃ m, cs0[i] = .buf true r 1 m
 hr : ∀ r n, h = .buf true r 1 n → W.nx ≤ r
theorem Rd8.ex {W W' : AW} {b6 lo : Nat} {nw : Nl} {h : V} {rs : List (List Int)} {cs es : List V} (R : Rd8 W b6 nw h rs lo cs es) (hE : Ex W W') : Rd8 W' b6 nw h rs lo cs es :=
 ⟨(hE.get _ R.lp).trans R.hp, by have := R.lp; have := hE.nx; omega, R.c8, fun i hi => (R.gu i hi).keep hE.nx fun y _ hy => hE.get y hy, R.ne, R.now.keep hE.nx fun y _ hy => hE.get y hy, R.len, fun j h1 h2 => (R.el j h1 h2).keep hE.nx fun y _ hy => hE.get y hy, R.d1, R.d2, R.d3⟩
theorem Mf.ex {W W1 W2 : AW} {b6 : Nat} {h : V} {cs0 cs : List V} (M : Mf W W1 b6 h cs0 cs) (hE : Ex W1 W2) : Mf W W2 b6 h cs0 cs :=
 ⟨hE.cl, Nat.le_trans M.nx hE.nx, fun y hy h1 h2 => by rw [hE.get y (by have := M.nx; omega)]; exact M.fr y hy h1 h2, M.cr, M.hr⟩
theorem mic_go (_ : E.P = Tryz.prog) {W : AW} {b2 b4 b6 lo k : Nat} {v : V} {xs : List Sr} (hv : isS 2 v (xs.map Sr.V)) (hk : k < xs.length) (hx : xs[k].ok) (h20 : xs[k].ml.length ≤ 20) (hk8 : ∀ m ∈ xs[k].ml, m.key < 8) {e6 : Int} (_ : 0 ≤ e6 ∧ e6 < 6) {nw : Nl} {cs0 : List V} (R : Rd8 W b6 nw .nilsl [] lo cs0 []) (hlo : lo ≤ W.nx) (hC : Cl W) (hlen : ∀ j : Int, ((nw j).map (·.2)).length ≤ 2 ^ 20) {b : Bool} {A : AFr} {Q : Exit → AFr → AW → Prop}
  (a0 : A 0 = some v) (a2 : A 2 = some (.ptr b2 0)) (a4 : A 4 = some (.ptr b4 0)) (a5 : A 5 = some (.bool b)) (a6 : A 6 = some (.ptr b6 0)) (a8 : A 8 = some (.int .i64 k)) (a9 : A 9 = some .nilsl) (a10 : A 10 = some (.int .u8 e6)) (a11 : A 11 = some (.int .i64 0))
  (hQ : ∀ A' W' h cs es, A' 0 = some v → A' 2 = some (.ptr b2 0) → A' 4 = some (.ptr b4 0) → A' 5 = some (.bool b) → A' 6 = some (.ptr b6 0) → A' 8 = some (.int .i64 k) → A' 9 = some h → A' 10 = some (.int .u8 e6) → Rd8 W' b6 (micN (apB e6) k nw xs[k].ml).1 h (micN (apB e6) k nw xs[k].ml).2 lo cs es → Mf W W' b6 h cs0 cs → Q (.exit 4) A' W') : awp E (.loop c_serialL_2) Q A W := by
 have hat : (xs.map Sr.V)[k]? = some (xs[k]).V := by simp [hk]
 generalize xs[k] = x at hat hx h20 hk8 hQ
 have hms : isS 3 x.lv (x.ml.map Mi.V) := hx.ms
 rw [Ai]
 refine alp (fun (σ : Nat × Nl × List (List Int) × V × List V × List V) A1 W1 => A1 0 = some v ∧ A1 2 = some (.ptr b2 0) ∧ A1 4 = some (.ptr b4 0) ∧ A1 5 = some (.bool b) ∧ A1 6 = some (.ptr b6 0) ∧ A1 8 = some (.int .i64 k) ∧ A1 9 = some σ.2.2.2.1 ∧ A1 10 = some (.int .u8 e6) ∧ A1 11 = some (.int .i64 (σ.1 : Nat)) ∧ σ.1 ≤ x.ml.length ∧ Rd8 W1 b6 σ.2.1 σ.2.2.2.1 σ.2.2.1 lo σ.2.2.2.2.1 σ.2.2.2.2.2 ∧ Mf W W1 b6 σ.2.2.2.1 cs0 σ.2.2.2.2.1 ∧ (micN (apB e6) k σ.2.1 (x.ml.drop σ.1)).1 = (micN (apB e6) k nw x.ml).1 ∧ σ.2.2.1 ++ (micN (apB e6) k σ.2.1 (x.ml.drop σ.1)).2 = (micN (apB e6) k nw x.ml).2 ∧ (∀ j : Int, ((σ.2.1 j).map (·.2)).length ≤ 2 ^ 20 + σ.1) ∧ σ.2.2.1.length ≤ σ.1) (fun σ => x.ml.length - σ.1) (0, nw, [], .nilsl, cs0, [])
  ⟨a0, a2, a4, a5, a6, a8, a9, a10, a11, Nat.zero_le _, R, ⟨hC, lr _, fun _ _ _ _ => rfl, fun i hi h0 r n e => .inr ⟨n, e⟩, fun r n e => by cases e⟩, rfl, rfl, hlen, lr _⟩ ?_
 rintro ⟨j, nj, rj, h, cs, es⟩ A1 W1 ⟨q0, q2, q4, q5, q6, q8, q9, q10, q11, qj, qR, qM, qn, qr, ql, qc⟩ _
 simp only at q9 q11 qj qR qM qn qr ql qc
 by_cases hj : j < x.ml.length
 ·have hmt : (x.ml.map Mi.V)[j]? = some (x.ml[j]).V := by simp [hj]
  have hdr : x.ml.drop j = x.ml[j] :: x.ml.drop (j + 1) := List.drop_eq_getElem_cons hj
  have hm8 := hk8 _ (gmm hj)
  have hmo := hx.mi _ (gmm hj)
  rw [hdr, micN] at qn qr
  generalize x.ml[j] = m at hmt hm8 hmo qn qr
  refine Au qM.cl ?_
  by_cases hm : m.read = true
  ·simp (disch:=omega) only [BX, ↓reduceIte, nE, reduceCtorEq, BM, BD, nA, nL, nT, c_serialL_2, q0, q6, q8, q10, q11, hv.idx hat, O5, hms.len, lmp, clt, hj, dT, hms.idx hmt, Mi.V, hm]
   obtain ⟨f, hf8, hfe⟩ : ∃ f : Nat, f < 8 ∧ m.key = (f : Int) := ⟨m.key.toNat, by have := hmo.1; omega, by have := hmo.1; omega⟩
   have hfc : f < cs.length := by rw [qR.c8]; exact hf8
   have hcf := qR.gu f hfc
   have hb6 : (X W1 W1.nx [.row [.bool true, .int .u8 m.key, .int .u16 m.v]]).get b6 = some (.row cs) := by rw [Aj qR.lp]; exact qR.hp
   rw [Hh, if_pos ⟨hmo.1, by omega⟩, show 0 + m.key.toNat * 1 = f by omega]
   have hld : ∀ K, sem E (.load false 1) [.ptr b6 f] (X W1 W1.nx [.row [.bool true, .int .u8 m.key, .int .u16 m.v]]) K = K cs[f] (X W1 W1.nx [.row [.bool true, .int .u8 m.key, .int .u16 m.v]]) := fun K => Ch hb6 (by rw [Dq, gEg hfc])
   simp (disch:=omega) only [BS, ↓reduceIte, nE, hld]
   have hE : Ex W1 (X W1 W1.nx [.row [.bool true, .int .u8 m.key, .int .u16 m.v]]) := (Ex.refl qM.cl).X
   refine app_gr (lo' := W1.nx) (hcf.keep hE.nx fun y _ hy => hE.get y hy) (by have := ql (f : Int); omega) Cl.X hE.nx ?_
   intro o W2 ho hE2
   obtain ⟨oc, oo⟩ := ho.cellsX
   have hbs : ∀ W K, sem E (.bslice 1 1 .nilsl [0]) [o] W K = K (.sl 1 true [o]) W := fun W K => by
    have hz : V.nilsl.cells = [.nilsl] := rfl
    simp [sem, rsem, tsem, fillE, oc, hz]
   simp (disch:=omega) only [BS, ↓reduceIte, nE, q9, hbs]
   have hE12 := hE.trans hE2
   have hn12 := hE12.nx
   have hrl := qR.len
   have hn1 := qM.nx
   refine Fj (qR.now.keep hE12.nx fun y _ hy => hE12.get y hy) hE2.cl (by omega) (by decide) (by rw [oc]; simp [oo]) (by omega) ?_
   intro r W3 hn3 hC3 hx3 hr3 hg3
   simp (disch:=omega) only [BS, ↓reduceIte, nE, reduceCtorEq, q0, q2, q4, q5, q6, q8, q10, q11, Ah]
   have hR' := qR.read (by omega) hE12 ho hn3 hx3 hr3 hg3
   have hrw : W.nx ≤ r := by
    rcases hr3 with rfl | e
    ·omega
    ·exact qM.hr r _ e
   rw [if_pos hm] at qn qr
   refine ⟨(j + 1, nj, rj ++ [(nj (f : Int)).map (·.2)], .buf true r 1 (es.length + 1), cs, es ++ [o]), ⟨tt, tt, tt, tt, tt, tt, tt, tt, tt, hj, hR', ⟨hC3, by omega, fun y hy h1 h2 => ?_, qM.cr, fun r' n e => ?_⟩, qn, ?_, fun j' => by have := ql j'; rw [lmp] at this; show (nj j').length ≤ 2 ^ 20 + (j + 1); omega, by rw [lap]; show rj.length + 1 ≤ j + 1; omega⟩, by show x.ml.length - (j + 1) < x.ml.length - j; omega, by omega⟩
   ·rw [hg3 y (by omega) (by omega), hE12.get y (by omega)]
    exact qM.fr y hy h1 h2
   ·cases e; exact hrw
   ·rw [← qr, hfe, List.append_assoc]; rfl
  ·have hm' : m.read = false := by simpa using hm
   rw [if_neg hm] at qn qr
   obtain ⟨f, hf8, hfe⟩ : ∃ f : Nat, f < 8 ∧ m.key = (f : Int) := ⟨m.key.toNat, by have := hmo.1; omega, by have := hmo.1; omega⟩
   have hE : Ex W1 (X W1 W1.nx [.row [.bool false, .int .u8 m.key, .int .u16 m.v]]) := (Ex.refl qM.cl).X
   have hn1 := qM.nx
   by_cases hap : apB e6 = true
   ·have h3 : (e6 != 3) = true := by simp [apB] at hap; simp [hap.1]
    have h5 : (e6 != 5) = true := by simp [apB] at hap; simp [hap.2]
    simp (disch:=omega) only [BX, ↓reduceIte, nE, reduceCtorEq, BM, BD, nA, nL, nT, c_serialL_2, q0, q6, q8, q10, q11, hv.idx hat, O5, hms.len, lmp, clt, hj, dT, hms.idx hmt, Mi.V, hm', h3]
    repeat (rw [Aa]; simp (disch:=omega) only [BS, BC, Ad, ↓reduceIte, nE, BM, BD, q6, q10, h5])
    have hfc : f < cs.length := by rw [qR.c8]; exact hf8
    have hcf := qR.gu f hfc
    have hb6 : (X W1 W1.nx [.row [.bool false, .int .u8 m.key, .int .u16 m.v]]).get b6 = some (.row cs) := by rw [Aj qR.lp]; exact qR.hp
    have hix : ∀ W K, sem E (.idxa 8 1) [.ptr b6 0, .int .u8 m.key] W K = K (.ptr b6 f) W := fun W K => by
     rw [Hh, if_pos ⟨hmo.1, by omega⟩, show 0 + m.key.toNat * 1 = f by omega]
    have hld : ∀ K, sem E (.load false 1) [.ptr b6 f] (X W1 W1.nx [.row [.bool false, .int .u8 m.key, .int .u16 m.v]]) K = K cs[f] (X W1 W1.nx [.row [.bool false, .int .u8 m.key, .int .u16 m.v]]) := fun K => Ch hb6 (by rw [Dq, gEg hfc])
    have hbs : ∀ W K, sem E (.bslice 1 1 (.int .u16 0) [0]) [.int .u16 m.v] W K = K (.sl 1 true [.int .u16 m.v]) W := fun W K => rfl
    rw [if_pos hap] at qn qr
    have hE2 := hE.nx
    have hlp := qR.lp
    have fin : ∀ r W2, nowG W2 (.buf true r 1 ((intsV ((nj (f : Int)).map (·.2))).length + 1)) (intsV ((nj (f : Int)).map (·.2)) ++ [.int .u16 m.v]) 1 lo → Cl W2 → (X W1 W1.nx [.row [.bool false, .int .u8 m.key, .int .u16 m.v]]).nx ≤ W2.nx → (r = (X W1 W1.nx [.row [.bool false, .int .u8 m.key, .int .u16 m.v]]).nx ∨ cs[f] = .buf true r 1 (intsV ((nj (f : Int)).map (·.2))).length) → (∀ y, y < (X W1 W1.nx [.row [.bool false, .int .u8 m.key, .int .u16 m.v]]).nx → y ≠ r → W2.get y = (X W1 W1.nx [.row [.bool false, .int .u8 m.key, .int .u16 m.v]]).get y) →
      W2.get b6 = some (.row cs) ∧ W2.get (rf W1.nx 0) = some (.row [.bool false, .int .u8 m.key, .int .u16 m.v]) ∧ Rd8 (W2.put b6 (.row (cs.set f (.buf true r 1 ((intsV ((nj (f : Int)).map (·.2))).length + 1))))) b6 (addN nj m.key (k, m.v)) h rj lo (cs.set f (.buf true r 1 ((intsV ((nj (f : Int)).map (·.2))).length + 1))) es ∧ Mf W (W2.put b6 (.row (cs.set f (.buf true r 1 ((intsV ((nj (f : Int)).map (·.2))).length + 1))))) b6 h cs0 (cs.set f (.buf true r 1 ((intsV ((nj (f : Int)).map (·.2))).length + 1))) := fun r W2 hn hC2 hx2 hr hg => by
     have hrb : ∀ y, y < (X W1 W1.nx [.row [.bool false, .int .u8 m.key, .int .u16 m.v]]).nx → (∃ c, (X W1 W1.nx [.row [.bool false, .int .u8 m.key, .int .u16 m.v]]).get y = some (.row c)) → y ≠ r := fun y hy ⟨c, hc⟩ e => by
      rcases hr with h | h
      ·omega
      ·rw [e, hE.get r (hcf.ref h).1] at hc
       rcases hcf with ⟨e1, _⟩ | ⟨r', _, _, e1, _, e2⟩
       ·rw [e1] at h; cases h
       ·rw [h] at e1; cases e1; rw [e2] at hc; cases hc
     have u6 := (hg b6 (by omega) (hrb b6 (by omega) ⟨_, hb6⟩)).trans hb6
     have h12 : (X W1 W1.nx [.row [.bool false, .int .u8 m.key, .int .u16 m.v]]).get (rf W1.nx 0) = some (.row [.bool false, .int .u8 m.key, .int .u16 m.v]) := Ao
     refine ⟨u6, (hg _ (by simp only [rf, Ci, lcs, List.length_nil]; omega) (hrb _ (by simp only [rf, Ci, lcs, List.length_nil]; omega) ⟨_, h12⟩)).trans h12, by rw [hfe]; exact (qR.ex hE).app hfc hn hx2 hr hg, ⟨hC2.put (by omega), by rw [Ae]; omega, fun y hy h1 h2 => ?_, fun i hi h0 r' n e => ?_, qM.hr⟩⟩
     ·rw [put_ne h1, hg y (by omega) (fun e => ?_), hE.get y (by omega)]
      ·exact qM.fr y hy h1 h2
      ·rcases hr with h | h
       ·omega
       ·have h0 : f < cs0.length := by rw [R.c8]; exact hf8
        rcases qM.cr f hfc h0 r _ h with h | ⟨m', h⟩
        ·omega
        ·rw [← e] at h; exact h2 f h0 _ h
     ·have hi' : i < cs.length := by simpa using hi
      by_cases ei : i = f
      ·subst ei
       rw [List.getElem_set_self] at e
       cases e
       rcases hr with h | h
       ·exact .inl (by omega)
       ·exact qM.cr i hi' h0 r _ h
      ·rw [List.getElem_set_ne (fun e => ei e.symm)] at e
       exact qM.cr i hi' h0 r' n e
    have hset : ∀ u : V, cs.take f ++ [u] ++ cs.drop (f + 1) = cs.set f u := fun u => by
     rw [List.set_eq_take_append_cons_drop, if_pos (by omega)]; simp
    have hfl : f + 1 ≤ cs.length := hfc
    have ilen := Ak ((nj (f : Int)).map (·.2))
    have hq1 : ∀ j' : Int, ((addN nj m.key (k, m.v)) j').length ≤ 2 ^ 20 + (j + 1) := fun j' => by
     have := ql j'
     rw [lmp] at this
     unfold addN
     split
     ·rw [lap]; simp only [lcs, List.length_nil]; omega
     ·omega
    have hq2 : rj.length ≤ j + 1 := by omega
    simp (disch:=omega) only [BS, BC, ↓reduceIte, nE, BM, hix, hld, hbs]
    constructor
    ·refine Fj (hcf.keep hE.nx fun y _ hy => hE.get y hy) Cl.X (by omega) (by decide) rfl (by have := ql (f : Int); omega) ?_
     intro r W2 hn hC2 hx2 hr hg
     obtain ⟨f1, f2, f3, f4⟩ := fin r W2 hn hC2 hx2 hr hg
     simp (disch:=omega) only [BS, ↓reduceIte, nE, BM, BD, q6, hix, f1, I1, Ng]
     rw [if_pos hfl, hset]
     simp (disch:=omega) only [BS, ↓reduceIte, nE, reduceCtorEq, q0, q2, q4, q5, q8, q9, q10, q11, Ah]
     refine ⟨(j + 1, addN nj m.key (k, m.v), rj, h, cs.set f (.buf true r 1 ((intsV ((nj (f : Int)).map (·.2))).length + 1)), es), ⟨tt, tt, tt, tt, tt, tt, tt, tt, tt, hj, f3, f4, qn, qr, hq1, hq2⟩, by show x.ml.length - (j + 1) < x.ml.length - j; omega, by rw [Ae]; omega⟩
    ·refine Fj (hcf.keep hE.nx fun y _ hy => hE.get y hy) Cl.X (by omega) (by decide) rfl (by have := ql (f : Int); omega) ?_
     intro r W2 hn hC2 hx2 hr hg
     obtain ⟨f1, f2, f3, f4⟩ := fin r W2 hn hC2 hx2 hr hg
     have hb13 : ∀ K, sem E (.load false 1) [.ptr (rf W1.nx 0) 1] W2 K = K (.int .u8 m.key) W2 := fun K => Ch f2 rfl
     simp (disch:=omega) only [BS, ↓reduceIte, nE, BM, BD, q6, hix, hb13, f1, I1, Ng]
     rw [if_pos hfl, hset]
     simp (disch:=omega) only [BS, ↓reduceIte, nE, reduceCtorEq, q0, q2, q4, q5, q8, q9, q10, q11, Ah]
     refine ⟨(j + 1, addN nj m.key (k, m.v), rj, h, cs.set f (.buf true r 1 ((intsV ((nj (f : Int)).map (·.2))).length + 1)), es), ⟨tt, tt, tt, tt, tt, tt, tt, tt, tt, hj, f3, f4, qn, qr, hq1, hq2⟩, by show x.ml.length - (j + 1) < x.ml.length - j; omega, by rw [Ae]; omega⟩
   ·have hnap : apB e6 = false := by simpa using hap
    rw [if_neg hap] at qn qr
    by_cases h3e : e6 = 3
    ·have h3 : (e6 != 3) = false := by simp [h3e]
     simp (disch:=omega) only [BX, ↓reduceIte, nE, reduceCtorEq, BM, BD, nA, nL, nT, c_serialL_2, q0, q6, q8, q10, q11, hv.idx hat, O5, hms.len, lmp, clt, hj, dT, hms.idx hmt, Mi.V, hm', h3]
     repeat (rw [Aa]; simp (disch:=omega) only [BS, BC, Ad, ↓reduceIte, nE, reduceCtorEq, BM, BD, q10, q0, q2, q4, q5, q6, q8, q9, q11, Ah])
     exact ⟨(j + 1, nj, rj, h, cs, es), ⟨tt, tt, tt, tt, tt, tt, tt, tt, tt, hj, qR.ex hE, qM.ex hE, qn, qr, fun j' => by have := ql j'; rw [lmp] at this; show (nj j').length ≤ 2 ^ 20 + (j + 1); omega, by show rj.length ≤ j + 1; omega⟩, by show x.ml.length - (j + 1) < x.ml.length - j; omega, by simp only [rf]; omega⟩
    ·have h5e : e6 = 5 := by simp [apB, h3e] at hnap; exact hnap
     have h3 : (e6 != 3) = true := by simp [h3e]
     have h5 : (e6 != 5) = false := by simp [h5e]
     simp (disch:=omega) only [BX, ↓reduceIte, nE, reduceCtorEq, BM, BD, nA, nL, nT, c_serialL_2, q0, q6, q8, q10, q11, hv.idx hat, O5, hms.len, lmp, clt, hj, dT, hms.idx hmt, Mi.V, hm', h3]
     repeat (rw [Aa]; simp (disch:=omega) only [BS, BC, Ad, ↓reduceIte, nE, reduceCtorEq, BM, BD, q10, h5, q0, q2, q4, q5, q6, q8, q9, q11, Ah])
     exact ⟨(j + 1, nj, rj, h, cs, es), ⟨tt, tt, tt, tt, tt, tt, tt, tt, tt, hj, qR.ex hE, qM.ex hE, qn, qr, fun j' => by have := ql j'; rw [lmp] at this; show (nj j').length ≤ 2 ^ 20 + (j + 1); omega, by show rj.length ≤ j + 1; omega⟩, by show x.ml.length - (j + 1) < x.ml.length - j; omega, by simp only [rf]; omega⟩
 ·obtain rfl : j = x.ml.length := by omega
  rw [List.drop_length] at qn qr
  simp (disch:=omega) only [BX, ↓reduceIte, nE, reduceCtorEq, BM, c_serialL_2, q0, q8, q11, hv.idx hat, O5, hms.len, lmp, clt, hj, dF]
  simp only [micN, apn] at qn qr
  refine hQ _ _ h cs es q0 q2 q4 q5 q6 q8 q9 q10 ?_ qM
  rw [← qn, ← qr]; exact qR
theorem nowG.at {W : AW} {h : V} {xs : List V} {s lo r n : Nat} (hn : nowG W h xs s lo) (e : h = .buf true r s n) : W.get r = some (.buf true s xs) := by
 rcases hn with ⟨rfl, _⟩ | ⟨r', _, _, h3, _, h5⟩
 ·cases e
 ·rw [e] at h3; cases h3; exact h5
theorem BtX.wr {Xs Ys : Nat → Prop} {Wb W W1 : AW} {F p ra rw q N : Nat} {s : Str} {o : Ods} (B : BtX Xs Wb F p ra rw q W s o N) (hC : Cl W1) (hn : W.nx ≤ W1.nx) (hY : ∀ r, Ys r → r < W1.nx ∧ (Xs r ∨ W.nx ≤ r)) (hg : ∀ y, y < W.nx → W1.get y = W.get y ∨ (F + 2 ≤ y ∧ ((∃ r, W.get y = some (.row r)) ∨ (Xs y ∧ ∃ ys, W.get y = some (.buf true 1 ys))))) : BtX Ys Wb F p ra rw q W1 s o N := by
 obtain ⟨l1, l2, l3, l4, l5⟩ := B.lt
 obtain ⟨h, l, L, cs, es, hR, hO, hA⟩ := B.doc
 have low : ∀ y, y < W.nx → y < F + 2 → W1.get y = W.get y := fun y h1 h2 => by
  rcases hg y h1 with h | ⟨h, _⟩
  ·exact h
  ·omega
 -- a list of the document's
 have keep : ∀ {h : V} {xs : List V}, nowG W h xs 1 (F + 2) → (∀ r m, Xs r → h ≠ .buf true r 1 m) → nowG W1 h xs 1 (F + 2) := fun {h xs} hN hx => hN.keep hn fun r e hr => by
  rcases hg r hr with h | ⟨_, ⟨c, hc⟩ | ⟨h, _⟩⟩
  ·exact h
  ·rw [hN.at e] at hc; cases hc
  ·exact absurd e (hx r _ h)
 refine ⟨B.sx.same hC hn fun x hx hc => low x hx (by omega), B.lt, by have := B.nx; omega, ⟨h, l, L, cs, es, ⟨(low F hR.lp (by omega)).trans hR.hp, by have := hR.lp; omega, ?_, hR.ok, hR.so⟩, ⟨(low _ hO.lp (by omega)).trans hO.hp, by have := hO.lp; omega, hO.c8, hO.l8, hO.e8, fun k a b c => ?_, hO.rg⟩, fun r hr => ?_⟩, fun r hr => (hY r hr).1⟩
 ·rcases hR.el with h | ⟨r, h1, h2, h3, h4, h5⟩
  ·exact .inl h
  ·refine .inr ⟨r, h1, by omega, h3, h4, ?_⟩
   rcases hg r h2 with h | ⟨_, ⟨c, hc⟩ | ⟨_, ys, hc⟩⟩
   ·rw [h]; exact h5
   ·rw [h5] at hc; cases hc
   ·rw [h5] at hc; cases hc
 ·have hl := hO.ls k a b c
  exact ⟨keep hl.now fun r m hr e => (hA r hr).1 m (e ▸ gmm _), hl.len, fun j x y => keep (hl.el j x y) fun r m hr e => (hA r hr).2 _ (gmm c) m (e ▸ gmm _)⟩
 ·rcases (hY r hr).2 with h | h
  ·exact hA r h
  ·have h8 := hO.c8
   have h9 := hO.l8
   have h7 := hO.e8
   refine ⟨fun m hm => ?_, fun e he m hm => ?_⟩
   ·obtain ⟨i, hi, e⟩ := List.getElem_of_mem hm
    have := ((hO.ls i hi (by omega) (by omega)).now.ref e).1
    omega
   ·obtain ⟨i, hi, rfl⟩ := List.getElem_of_mem he
    have hl := hO.ls i (by omega) (by omega) hi
    obtain ⟨j, hj, e⟩ := List.getElem_of_mem hm
    have := ((hl.el j hj (by have := hl.len; omega)).ref e).1
    omega
def Xc (cs : List V) : Nat → Prop := fun r => ∃ (i : Nat) (h : i < cs.length) (n : Nat), cs[i] = .buf true r 1 n
def imS (s : Str) : List (Int × List Mi) := s.map fun t => (t.id, t.ms)
def whE (e : Int) : Int := if e > 2 then (if e = 5 then 5 else e + 1) else 2
def elO (l : List Int) : Option (List Int) := if l = [] then none else some l
theorem K3 (l : List Int) : nums (elO l) = l := by
 unfold elO nums
 split
 ·rename_i h; rw [h]; rfl
 ·rfl
def endS (e : Int) (k : Nat) (es : List (List Int)) : Ac := ⟨whE e, 0, k, .nilsl, [], nowGS 1 (es.map fun l => nowGS 1 (intsV l)), es.map elO⟩
theorem L4 {s n : Nat} {xs : List V} (h : V.belL n xs = true) : (nowGS s xs).bel n = true := by
 unfold nowGS
 split
 ·rfl
 ·exact h
theorem Mc (n : Nat) : ∀ l : List Int, V.belL n (intsV l) = true
 | [] => rfl
 | _ :: l => by
  have := Mc n l
  simp only [intsV] at this
  simp [intsV, V.belL, V.bel, this]
theorem endS_ok {e : Int} (he : 0 ≤ e ∧ e < 6) {k : Nat} (hk : k < 65536) {es : List (List Int)} (hn : ∀ l ∈ es, ∀ n ∈ l, 0 ≤ n ∧ n < 65536) : (endS e k es).ok where
 wh := by
  show 0 ≤ whE e ∧ whE e < 256
  unfold whE
  split
  ·split <;> omega
  ·decide
 cl := ⟨Int.le_refl _, by show (0 : Int) < 256; decide⟩
 id := ⟨by simp [endS], by simp [endS]; omega⟩
 tx := isS.nil
 rd := by
  refine ⟨_, Cr _ _, by simp [endS], fun k h h' => ?_⟩
  simp only [endS, List.getElem_map]
  unfold elO nowGS
  by_cases hx : es[k]'(by simpa using h) = []
  ·rw [hx]; exact .inl ⟨by simp [intsV], by simp⟩
  ·refine .inr (.inr ⟨false, _, if_neg hx, if_neg ?_⟩)
   simpa [intsV] using hx
 ms := fun m hm => by cases hm
 ns := fun o ho n hn' => by
  obtain ⟨l, hl, rfl⟩ := List.mem_map.1 ho
  rw [K3] at hn'
  exact hn l hl n hn'
 bel := by
  refine L4 ?_
  induction es with
  | nil => rfl
  | cons a es ih =>
   have h1 := ih fun l hl => hn l (List.mem_cons_of_mem _ hl)
   simp only [mcs, V.belL, L4 (Mc 0 a), h1, Bool.and_self]
theorem Yg {e : Int} (he : 0 ≤ e ∧ e < 6) {k : Nat} {es : List (List Int)} : w6 (endS e k es) = whE e := by
 show (whE e).tmod 6 = whE e
 unfold whE
 split
 ·split
  ·decide
  ·have : e = 3 ∨ e = 4 := by omega
   rcases this with rfl | rfl <;> decide
 ·decide
theorem endS_end {e : Int} (he : 0 ≤ e ∧ e < 6) {k : Nat} {es : List (List Int)} : isEnd (endS e k es) := by
 unfold isEnd
 rw [Yg he]
 unfold whE
 split
 ·split
  ·exact .inr (.inr (.inr rfl))
  ·omega
 ·exact .inl rfl
theorem gT_ms (a : Ac) (t : Tx) : (gT a t).ms = t.ms := by
 unfold gT
 split
 ·exact Vm _ _
 ·split <;> exact Ve _ _
theorem Nu {s : Str} {i : Int} {f : Tx → Tx} (h1 : ∀ t, (f t).id = t.id) (h2 : ∀ t, (f t).ms = t.ms) : imS (mapId s i f) = imS s := by
 unfold imS mapId
 rw [List.map_map]
 refine List.map_congr_left fun t _ => ?_
 simp only [Function.comp_apply]
 split
 ·rw [h1, h2]
 ·rfl
theorem SB.act {s : Str} {o : Ods} {nw : Nl} {k : Nat} {t0 : Tx} {e : Int} {es : List (List Int)} (he : 0 ≤ e ∧ e < 6) (hs : SOk s) (h : SB s o nw k) (ht0 : find s k = some t0) (hl : es = (micN (apB e) k nw t0.ms).2) (h0 : (actG s o (endS e k es)).2.2.1 = 0) (hs' : SOk (actG s o (endS e k es)).1) : SB (actG s o (endS e k es)).1 (actG s o (endS e k es)).2.1 (micN (apB e) k nw t0.ms).1 (k + 1) := by
 have hw := Yg he (k := k) (es := es)
 have hop := h.op t0 (E6 ht0).1 (by rw [(E6 ht0).2]; exact Int.le_refl _)
 by_cases h2 : e > 2
 ·by_cases h5 : e = 5
  ·subst h5
   have e1 : w6 (endS 5 k es) = 5 := hw
   unfold actG
   simp only [e1]
   exact SB.ends (st := 3) hs h ht0 (by decide) (fun _ => by decide) hop
  ·by_cases h4 : e = 4
   ·subst h4
    have e1 : w6 (endS 4 k es) = 5 := hw
    unfold actG
    simp only [e1]
    exact SB.ends (st := 3) hs h ht0 (by decide) (fun _ => by decide) hop
   ·obtain rfl : e = 3 := by omega
    have e1 : w6 (endS 3 k es) = 4 := hw
    unfold actG
    simp only [e1]
    exact SB.ends (st := 2) hs h ht0 (by decide) (fun h => by cases h) hop
 ·have e1 : w6 (endS e k es) = 2 := by rw [hw]; unfold whE; rw [if_neg h2]
  have e2 : apB e = true := by unfold apB; simp; omega
  rw [e2] at hl ⊢
  exact SB.commit hs h (.inl e1) rfl ht0 (by
   show (es.map elO).map nums = _
   rw [← hl, List.map_map]
   exact (List.map_congr_left fun l _ => K3 l).trans (List.map_id' es)) h0 hs'
theorem im_find {s : Str} {xs : List Sr} (hs : SOk s) (h : imS s = imS (begT xs)) {k : Nat} (hk : k < xs.length) : ∃ t0, find s k = some t0 ∧ t0.ms = xs[k].ml ∧ t0 ∈ s := by
 have h1 : ((k : Int), xs[k].ml) ∈ imS (begT xs) := by
  unfold imS begT
  refine List.mem_map.2 ⟨⟨(k : Int), ((k % 16 : Nat) : Int), xs[k].ml, [], 0⟩, ?_, rfl⟩
  rw [List.mem_iff_getElem]
  exact ⟨k, by simpa using hk, by simp⟩
 rw [← h] at h1
 obtain ⟨t, ht, e⟩ := List.mem_map.1 h1
 have e1 : t.id = (k : Int) := congrArg Prod.fst e
 exact ⟨t, Ep hs.lt ht e1, congrArg Prod.snd e, ht⟩
theorem mic_len {ap : Bool} {i : Int} {ms : List Mi} {nw : Nl} {j : Int} : ((micN ap i nw ms).1 j).length ≤ (nw j).length + ms.length := by
 rw [Gj, lap, ownN]
 have := Lb ms j
 split <;> simp <;> omega
theorem mic_bd {ap : Bool} {i : Int} {ms : List Mi} {nw : Nl} (hm : ∀ m ∈ ms, m.ok) (h : ∀ j, ∀ x ∈ nw j, 0 ≤ x.2 ∧ x.2 < 65536) : ∀ j, ∀ x ∈ (micN ap i nw ms).1 j, 0 ≤ x.2 ∧ x.2 < 65536 := fun j x hx => by
 rw [Gj] at hx
 rcases List.mem_append.1 hx with hx | hx
 ·exact h j x hx
 ·obtain ⟨_, h2, _⟩ := Gh hx
  obtain ⟨m, m1, m2, _⟩ := appR_mem h2
  have := hm m m1
  rw [← m2]
  exact ⟨this.2.2.1, this.2.2.2⟩
theorem mic_rds {ap : Bool} {i : Int} {ms : List Mi} {nw : Nl} : ∀ l ∈ (micN ap i nw ms).2, ∃ k, l <+: ((micN ap i nw ms).1 k).map (·.2) := fun l hl => by
 obtain ⟨j, hj, rfl⟩ := List.getElem_of_mem hl
 have hj' : j < (rkeys ms).length := by rw [← Kr ap i ms nw]; exact hj
 obtain ⟨c, d, h1, h2, _⟩ := Nk ap i ms nw ((rkeys ms)[j], (micN ap i nw ms).2[j]) (by
  rw [List.mem_iff_getElem]
  exact ⟨j, by rw [List.length_zip]; omega, by simp⟩)
 exact ⟨(rkeys ms)[j], by
  have h2' : (micN ap i nw ms).2[j] = _ := h2
  rw [h1, h2', mpp (l₁ := _ ++ c)]; exact List.prefix_append _ _⟩
theorem mic_rlen {ap : Bool} {i : Int} {ms : List Mi} {nw : Nl} : (micN ap i nw ms).2.length ≤ ms.length := by
 rw [Kr]
 unfold rkeys
 rw [lmp]
 exact List.length_filter_le _ _
theorem act_arg {W : AW} {h : V} {es : List V} {rs : List (List Int)} {lo : Nat} {a b c : Int} {X : V} (hn : nowG W h es 1 lo) (hl : es.length = rs.length) (he : ∀ j (h1 : j < es.length) (h2 : j < rs.length), nowG W es[j] (intsV rs[j]) 1 lo) {γ : G} {w : World} {ws : List Value} (hW : RelW E γ w W)
  (hr : RelL γ [X, .agg [.int .u8 a, .int .u8 b, .int .u16 c, .nilsl, h]] ws) : RelL γ [X, .agg [.int .u8 a, .int .u8 b, .int .u16 c, .nilsl, nowGS 1 (rs.map fun l => nowGS 1 (intsV l))]] ws := by
 have e : es.map W.frz = rs.map fun l => nowGS 1 (intsV l) := by
  refine List.ext_getElem (by simp [hl]) fun j h1 h2 => ?_
  rw [List.getElem_map, List.getElem_map]
  exact (he j (by simpa using h1) (by simpa using h2)).frz
 rw [← e]
 obtain ⟨v1, l1, rfl, x1, v2, l2, rfl, x2, x3⟩ := hr
 refine ⟨v1, _, rfl, x1, v2, _, rfl, ?_, x3⟩
 obtain ⟨vs, rfl, y1, z1, rfl, w1, y2, z2, rfl, w2, y3, z3, rfl, w3, y4, z4, rfl, w4, y5, z5, rfl, w5, w6⟩ := x2
 exact ⟨_, rfl, y1, _, rfl, w1, y2, _, rfl, w2, y3, _, rfl, w3, y4, _, rfl, w4, y5, _, rfl, Wf hn hW w5, w6⟩
theorem rep8 {i : Nat} (h : i < (List.replicate 8 V.nilsl).length) : (List.replicate 8 V.nilsl)[i] = V.nilsl := List.getElem_replicate ..
theorem Xc_rep {r : Nat} (h : Xc (List.replicate 8 .nilsl) r) : False := by
 obtain ⟨i, h, n, e⟩ := h
 rw [rep8] at e; cases e
theorem Rd8.start {W : AW} {b6 lo : Nat} (hp : W.get b6 = some (.row (List.replicate 8 .nilsl))) (lp : b6 < W.nx) : Rd8 W b6 nw0 .nilsl [] lo (List.replicate 8 .nilsl) [] where
 hp := hp
 lp := lp
 c8 := lrp ..
 gu := fun i hi => .inl ⟨rep8 hi, rfl⟩
 ne := fun i j h h' _ r n m e => by rw [rep8] at e; cases e
 now := .inl ⟨rfl, rfl⟩
 len := rfl
 el := fun j h => by cases h
 d1 := fun i hi r n m e => by rw [rep8] at e; cases e
 d2 := fun i hi j hj => by cases hj
 d3 := fun j hj => by cases hj
theorem serE_go (hP : PE E) {W Wb : AW} {F p ra rw q b2 b4 b6 N0 : Nat} {v : V} {xs : List Sr} {s0 : Str} {b0 : Bool} (hv : isS 2 v (xs.map Sr.V)) (hx : ∀ x ∈ xs, x.ok) (hl : xs.length ≤ 50) (B : Bt Wb F p ra rw q W s0 os0 N0) (hb0 : b0 = true → SB s0 os0 nw0 0 ∧ N0 = 8 * xs.length ∧ s0 = begT xs)
  (h4 : F + 2 ≤ b4 ∧ b4 < W.nx) (g4 : W.get b4 = some (.row [.ptr p 0, .ptr q 0, .ptr F 0, .ptr (F + 1) 0])) (h6 : F + 2 ≤ b6 ∧ b6 < W.nx) (g6 : W.get b6 = some (.row (List.replicate 8 .nilsl))) (h46 : b4 ≠ b6) {A : AFr} {Q : Exit → AFr → AW → Prop}
  (a0 : A 0 = some v) (a2 : A 2 = some (.ptr b2 0)) (a4 : A 4 = some (.ptr b4 0)) (a5 : A 5 = some (.bool b0)) (a6 : A 6 = some (.ptr b6 0)) (a8 : A 8 = some (.int .i64 0))
  (hQ : ∀ A' W' b, A' 2 = some (.ptr b2 0) → A' 4 = some (.ptr b4 0) → A' 5 = some (.bool b) → W'.get b4 = some (.row [.ptr p 0, .ptr q 0, .ptr F 0, .ptr (F + 1) 0]) → W.nx ≤ W'.nx → (∃ Xs s o N, BtX Xs Wb F p ra rw q W' s o N ∧ (b = true → ∃ nw, SB s o nw xs.length)) → Q (.exit 2) A' W') : awp E (.loop c_serialL_1) Q A W := by
 obtain ⟨l1, l2, l3, l4, l5⟩ := B.lt
 rw [Ai]
 refine alp (fun (σ : Nat × Bool × List V × Nl) A1 W1 => A1 0 = some v ∧ A1 2 = some (.ptr b2 0) ∧ A1 4 = some (.ptr b4 0) ∧ A1 5 = some (.bool σ.2.1) ∧ A1 6 = some (.ptr b6 0) ∧ A1 8 = some (.int .i64 (σ.1 : Nat)) ∧ σ.1 ≤ xs.length ∧ W1.get b4 = some (.row [.ptr p 0, .ptr q 0, .ptr F 0, .ptr (F + 1) 0]) ∧ W.nx ≤ W1.nx ∧ ∃ Xs s o N, BtX Xs Wb F p ra rw q W1 s o N ∧ (σ.2.1 = true → Xs = Xc σ.2.2.1 ∧ N = 8 * xs.length + 8 * σ.1 ∧ Rd8 W1 b6 σ.2.2.2 .nilsl [] (F + 2) σ.2.2.1 [] ∧ SB s o σ.2.2.2 σ.1 ∧ imS s = imS (begT xs) ∧ (∀ j, (σ.2.2.2 j).length ≤ 20 * σ.1) ∧ ∀ j, ∀ x ∈ σ.2.2.2 j, 0 ≤ x.2 ∧ x.2 < 65536)) (fun σ => xs.length - σ.1) (0, b0, List.replicate 8 .nilsl, nw0)
  ⟨a0, a2, a4, a5, a6, a8, Nat.zero_le _, g4, lr _, Xc (List.replicate 8 .nilsl), s0, os0, N0, B.wr B.cl (lr _) (fun r h => (Xc_rep h).elim) (fun y _ => .inl rfl), fun hb => ?_⟩ ?_
 ·obtain ⟨q1, q2, q3⟩ := hb0 hb
  refine ⟨rfl, by rw [q2]; rfl, Rd8.start g6 h6.2, q1, by rw [q3], fun j => by simp [nw0], fun j x hx => by simp [nw0] at hx⟩
 rintro ⟨k, b, cs, nw⟩ A1 W1 ⟨q0, q2, q4, q5, q6, q8, qk, k4, kn, Xs, s, o, N, kB, kS⟩ _
 simp only at q5 q8 qk kS
 by_cases hk : k < xs.length
 ·cases b with
  | false =>
   simp (disch:=omega) only [BS, Am, ↓reduceIte, nE, reduceCtorEq, c_serialL_1, q0, q8, hv.len, lmp, clt, hk, dT]
   repeat (rw [Aa]; simp (disch:=omega) only [BS, BC, Ad, ↓reduceIte, nE, q5])
   exact hQ _ _ false q2 q4 q5 k4 kn ⟨Xs, s, o, N, kB, fun h => by cases h⟩
  | true =>
   obtain ⟨rfl, rfl, kR, kSB, kI, kl, kb⟩ := kS rfl
   have hat : (xs.map Sr.V)[k]? = some (xs[k]).V := by simp [hk]
   have hxk := hx _ (gmm hk)
   have hsok := kB.sx.nw.st.ok
   obtain ⟨t0, t1, t2, t3⟩ := im_find hsok kI hk
   have h8 : xs[k].ml.length ≤ 8 := by rw [← t2]; exact (hsok.ok t0 t3).msl
   have hky : ∀ m ∈ xs[k].ml, m.key < 8 := by rw [← t2]; exact kSB.ky t0 t3
   have hmo := hxk.mi
   have he6 : 0 ≤ xs[k].en.tmod 6 ∧ xs[k].en.tmod 6 < 6 := by
    have := hxk.e
    rw [Int.tmod_eq_emod_of_nonneg this.1]; omega
   have mgo := @mic_go E hP W1 b2 b4 b6 (F + 2) k v xs hv hk hxk (by omega) hky _ he6 nw cs kR (by omega) kB.cl (fun j => by rw [lmp]; have := kl j; omega) true
   generalize xs[k] = x at hat hxk h8 hky hmo he6 t2 mgo
   simp (disch:=omega) only [BS, Am, ↓reduceIte, nE, reduceCtorEq, c_serialL_1, q0, q8, hv.len, lmp, clt, hk, dT]
   repeat (rw [Aa]; simp (disch:=omega) only [BS, Am, Ad, ↓reduceIte, nE, reduceCtorEq, q5])
   simp (disch:=omega) only [BS, Am, ↓reduceIte, nE, BM, q0, q8, hv.idx hat, srF1, m_rem6]
   refine mgo tt tt tt tt tt tt tt tt tt ?_
   intro A2 W2 h cs' es r0 r2 r4 r5 r6 r8 r9 r10 rR rM
   have n2 := rM.nx
   have hlt6 := kR.lp
   have nb4 : ∀ i (hi : i < cs.length) n, cs[i] ≠ .buf true b4 1 n := fun i hi n e => by
    have := (kR.gu i hi).at e
    rw [k4] at this; cases this
   have k4' : W2.get b4 = some (.row [.ptr p 0, .ptr q 0, .ptr F 0, .ptr (F + 1) 0]) := by rw [rM.fr b4 (by omega) h46 nb4]; exact k4
   have B2 : BtX (Xc cs') Wb F p ra rw q W2 s o (8 * xs.length + 8 * k) := kB.wr rM.cl n2 (fun r ⟨i, hi, n, e⟩ => ⟨((rR.gu i hi).ref e).1, by
    have h0 : i < cs.length := by rw [kR.c8, ← rR.c8]; exact hi
    rcases rM.cr i hi h0 r n e with h | ⟨m, h⟩
    ·exact .inr h
    ·exact .inl ⟨i, h0, m, h⟩⟩) fun y hy => by
     by_cases e6 : y = b6
     ·exact .inr ⟨by omega, .inl ⟨_, by rw [e6]; exact kR.hp⟩⟩
     ·by_cases hc : Xc cs y
      ·obtain ⟨i, hi, n, e⟩ := hc
       exact .inr ⟨((kR.gu i hi).ref e).2.1, .inr ⟨⟨i, hi, n, e⟩, _, (kR.gu i hi).at e⟩⟩
      ·exact .inl (rM.fr y hy e6 fun i hi n e => hc ⟨i, hi, n, e⟩)
   have hbd := mic_bd (ap := apB (x.en.tmod 6)) (i := (k : Int)) hmo kb
   have hln : ∀ j, ((micN (apB (x.en.tmod 6)) k nw x.ml).1 j).length ≤ 20 * (k + 1) := fun j => by
    have := mic_len (ap := apB (x.en.tmod 6)) (i := (k : Int)) (ms := x.ml) (nw := nw) (j := j)
    have := kl j
    omega
   have hrd := mic_rds (ap := apB (x.en.tmod 6)) (i := (k : Int)) (ms := x.ml) (nw := nw)
   have hrl := mic_rlen (ap := apB (x.en.tmod 6)) (i := (k : Int)) (ms := x.ml) (nw := nw)
   have hact0 := SB.act (e := x.en.tmod 6) (es := (micN (apB (x.en.tmod 6)) k nw x.ml).2) he6 hsok kSB t1 (by rw [t2])
   rw [t2] at hact0
   generalize hm : micN (apB (x.en.tmod 6)) k nw x.ml = mm at rR hbd hln hrd hrl hact0
   obtain ⟨nw', rs⟩ := mm
   simp only at rR hbd hln hrd hrl hact0
   have hok := endS_ok he6 (k := k) (es := rs) (by omega) fun l hl n hn => by
    obtain ⟨j, hp⟩ := hrd l hl
    obtain ⟨y, hy, rfl⟩ := List.mem_map.1 (hp.subset hn)
    exact hbd j y hy
   have hact := (Vu (E := E) hP W2 B2 (by omega) hok ⟨by simp [endS], by simp [endS]; omega, fun o' ho => by
    obtain ⟨l, hl, rfl⟩ := List.mem_map.1 ho
    rw [K3]
    obtain ⟨j, hp⟩ := hrd l hl
    have := hp.length_le
    rw [lmp] at this
    have := hln j
    omega⟩)
   have hact : ACalls E 10 [.agg [.ptr p 0, .ptr q 0, .ptr F 0, .ptr (F + 1) 0], .agg [.int .u8 (whE (x.en.tmod 6)), .int .u8 0, .int .u16 k, .nilsl, h]] W2 _ := ACalls.arg (fun γ w ws hW hr => act_arg (h := h) rR.now rR.len rR.el hW hr) hact
   obtain ⟨hc1, hc2⟩ := rR.now.cellsX
   have c16 : IntKind.u16.wrap ((k : Nat) : Int) = ((k : Nat) : Int) := IntWalk.u16_in _ (by omega)
   have hR8 : ∀ W3, FrB W2 W3 F p ra rw q → Rd8 W3 b6 nw' .nilsl [] (F + 2) cs' [] ∧ W3.get b4 = some (.row [.ptr p 0, .ptr q 0, .ptr F 0, .ptr (F + 1) 0]) := fun W3 hF => by
    have hk : ∀ y, F + 2 ≤ y → y < W2.nx → (∀ c, W2.get y ≠ some (.vec 5 c)) → W3.get y = W2.get y := fun y h1 h2 h3 => hF.get y h2 (by omega) (by omega) (by omega) (by omega) (by omega) (by omega) h3
    refine ⟨⟨(hk b6 (by omega) rR.lp fun c hc => (by rw [rR.hp] at hc; cases hc)).trans rR.hp, by have := rR.lp; have := hF.nx; omega, rR.c8, fun i hi => (rR.gu i hi).keep hF.nx fun y e hy => hk y ((rR.gu i hi).ref e).2.1 hy fun c hc => (by rw [(rR.gu i hi).at e] at hc; cases hc), rR.ne, .inl ⟨rfl, rfl⟩, rfl, fun j h => (by cases h), fun i hi r n m e1 e2 => (by cases e2), fun i hi j hj => (by cases hj), fun j hj => (by cases hj)⟩, (hk b4 (by omega) (by omega) fun c hc => (by rw [k4'] at hc; cases hc)).trans k4'⟩
   have hend := actG_end hsok.lt o (a := endS (x.en.tmod 6) k rs) (endS_end he6)
   by_cases h2 : x.en.tmod 6 > 2
   ·have h2' : decide (x.en.tmod 6 > 2) = true := by simpa using h2
    have c8 : IntKind.u8.wrap (x.en.tmod 6 + 1) = x.en.tmod 6 + 1 := IntWalk.u8_in _ (by omega)
    by_cases h5 : x.en.tmod 6 = 5
    ·have h5' : (x.en.tmod 6 == 5) = true := by simp [h5]
     have hw : whE (x.en.tmod 6) = 5 := by unfold whE; rw [if_pos h2, if_pos h5]
     rw [hw] at hact
     simp (disch:=omega) only [BX, ↓reduceIte, nE, BM, BD, nA, nL, r4, r8, r9, r10, h2', h5', k4', c16, c8, hc1]
     refine hact.mono ?_
     rintro _ W3 ⟨rfl, b1, b3⟩
     obtain ⟨u1, u2⟩ := hR8 W3 b3
     have n3 := b3.nx
     simp (disch:=omega) only [BS, ↓reduceIte, nE, reduceCtorEq, r0, r2, r4, r6, r8, Ah]
     refine ⟨(k + 1, (actG s o (endS (x.en.tmod 6) k rs)).2.2.1 == 0, cs', nw'), ⟨tt, tt, tt, tt, tt, tt, hk, u2, by omega, Xc cs', _, _, _, b1, fun hb => ⟨rfl, by show _ = 8 * xs.length + 8 * (k + 1); omega, u1, hact0 (by simpa using hb) b1.sx.nw.st.ok, by rw [hend.1, Nu (gT_id _) (gT_ms _)]; exact kI, hln, hbd⟩⟩, by show xs.length - (k + 1) < xs.length - k; omega, by omega⟩
    ·have h5' : (x.en.tmod 6 == 5) = false := by simp; exact h5
     have hw : whE (x.en.tmod 6) = x.en.tmod 6 + 1 := by unfold whE; rw [if_pos h2, if_neg h5]
     rw [hw] at hact
     simp (disch:=omega) only [BX, ↓reduceIte, nE, BM, BD, nA, nL, r4, r8, r9, r10, h2', h5', k4', c16, c8, hc1]
     refine hact.mono ?_
     rintro _ W3 ⟨rfl, b1, b3⟩
     obtain ⟨u1, u2⟩ := hR8 W3 b3
     have n3 := b3.nx
     simp (disch:=omega) only [BS, ↓reduceIte, nE, reduceCtorEq, r0, r2, r4, r6, r8, Ah]
     refine ⟨(k + 1, (actG s o (endS (x.en.tmod 6) k rs)).2.2.1 == 0, cs', nw'), ⟨tt, tt, tt, tt, tt, tt, hk, u2, by omega, Xc cs', _, _, _, b1, fun hb => ⟨rfl, by show _ = 8 * xs.length + 8 * (k + 1); omega, u1, hact0 (by simpa using hb) b1.sx.nw.st.ok, by rw [hend.1, Nu (gT_id _) (gT_ms _)]; exact kI, hln, hbd⟩⟩, by show xs.length - (k + 1) < xs.length - k; omega, by omega⟩
   ·have h2' : decide (x.en.tmod 6 > 2) = false := by simpa using h2
    have h5' : (x.en.tmod 6 == 5) = false := by simp; omega
    have hw : whE (x.en.tmod 6) = 2 := if_neg h2
    rw [hw] at hact
    simp (disch:=omega) only [BX, ↓reduceIte, nE, BM, BD, nA, nL, r4, r8, r9, r10, h2', h5', k4', c16, hc1]
    refine hact.mono ?_
    rintro _ W3 ⟨rfl, b1, b3⟩
    obtain ⟨u1, u2⟩ := hR8 W3 b3
    have n3 := b3.nx
    simp (disch:=omega) only [BS, ↓reduceIte, nE, reduceCtorEq, r0, r2, r4, r6, r8, Ah]
    refine ⟨(k + 1, (actG s o (endS (x.en.tmod 6) k rs)).2.2.1 == 0, cs', nw'), ⟨tt, tt, tt, tt, tt, tt, hk, u2, by omega, Xc cs', _, _, _, b1, fun hb => ⟨rfl, by show _ = 8 * xs.length + 8 * (k + 1); omega, u1, hact0 (by simpa using hb) b1.sx.nw.st.ok, by rw [hend.1, Nu (gT_id _) (gT_ms _)]; exact kI, hln, hbd⟩⟩, by show xs.length - (k + 1) < xs.length - k; omega, by omega⟩
 ·obtain rfl : k = xs.length := by omega
  simp (disch:=omega) only [BS, Am, ↓reduceIte, nE, reduceCtorEq, c_serialL_1, q0, q8, hv.len, lmp, clt, hk, dF]
  repeat (rw [Aa]; simp (disch:=omega) only [BS, BC, Ad, ↓reduceIte, nE, BM])
  exact hQ _ _ b q2 q4 q5 k4 kn ⟨Xs, s, o, N, kB, fun h => ⟨nw, (kS h).2.2.2.1⟩⟩
theorem BtX.base {Xs : Nat → Prop} {Wb Wc W : AW} {F p ra rw q N : Nat} {s : Str} {o : Ods} (B : BtX Xs Wb F p ra rw q W s o N) (h : Wc.nx ≤ Wb.nx) (hg : ∀ x, x < Wc.nx → Wb.get x = Wc.get x) : BtX Xs Wc F p ra rw q W s o N := by
 obtain ⟨l1, l2, l3, l4, l5⟩ := B.lt
 have n1 := B.sx.nw.hp
 have n2 := B.sx.nw.ha
 have n3 := B.sx.nw.hw
 have n4 := B.sx.hq
 have n5 := B.sx.nw.ex.nx
 exact ⟨⟨⟨B.sx.nw.st, ⟨B.cl, by omega, fun x hx => (B.sx.nw.ex.get x (by omega)).trans (hg x hx)⟩, by omega, by omega, by omega⟩, B.sx.od, by omega, B.sx.ne⟩, ⟨l1, l2, l3, l4, by omega⟩, B.nx, B.doc, B.xl⟩
theorem Yv (hP : PE E) (W : AW) {v : V} {xs : List Sr} (hv : isS 2 v (xs.map Sr.V)) (hx : ∀ x ∈ xs, x.ok) (hl : xs.length ≤ 50) :
  ACalls E 15 [v] W fun Y W' => ∃ Xs F p ra rw q b s o N, Y = .tuple [.agg [.ptr p 0, .ptr q 0, .ptr F 0, .ptr (F + 1) 0], .bool b] ∧ BtX Xs W F p ra rw q W' s o N ∧ (b = true → ∃ nw, SB s o nw xs.length) := by
 refine ACalls.of hP Tryz.func15 Px (by simp) fun _ hok => ?_
 refine Af hok ?_
 simp only [BZ, BM, BD, c_serialL]
 refine (U4 hP _).mono ?_
 rintro _ W1 ⟨F, p, ra, rw, q, rfl, hB⟩
 rw [hB.cl.start]
 simp only [BZ, ↓reduceIte, nE, BM, BD, nA, nL, nT, ]
 have hEx := hB.sx.nw.ex
 have hn1 := hEx.nx
 have hnF := hB.nx
 have h2 : rf W.nx 0 < (X W W.nx [.row [.nilptr, .nilptr, .nilptr, .nilptr]]).nx := by simp only [Ci, rf, lcs, List.length_nil]; omega
 have g2 : (X W W.nx [.row [.nilptr, .nilptr, .nilptr, .nilptr]]).get (rf W.nx 0) = some (.row [.nilptr, .nilptr, .nilptr, .nilptr]) := by rw [Ao]; rfl
 have hbase : ∀ ob, ((X W W.nx [.row [.nilptr, .nilptr, .nilptr, .nilptr]]).put (rf W.nx 0) ob).nx = W.nx + 1 ∧ ∀ x, x < W.nx → ((X W W.nx [.row [.nilptr, .nilptr, .nilptr, .nilptr]]).put (rf W.nx 0) ob).get x = W.get x := fun ob => ⟨by rw [Ae]; rfl, fun x hx => by rw [put_ne (by simp only [rf]; omega), Aj hx]⟩
 obtain ⟨W2, hW2⟩ : ∃ W2, W2 = X W1 W1.nx [.row [.ptr p 0, .ptr q 0, .ptr F 0, .ptr (F + 1) 0], .row [.nilsl, .nilsl, .nilsl, .nilsl, .nilsl, .nilsl, .nilsl, .nilsl]] := ⟨_, rfl⟩
 have hE : Ex W1 W2 := by rw [hW2]; exact .x0
 have g4 : W2.get (rf W1.nx 0) = some (.row [.ptr p 0, .ptr q 0, .ptr F 0, .ptr (F + 1) 0]) := by rw [hW2, Ao]; rfl
 have g6 : W2.get (rf W1.nx 1) = some (.row (List.replicate 8 .nilsl)) := by rw [hW2, Ao]; rfl
 have hn2 : W2.nx = W1.nx + 2 := by rw [hW2]; rfl
 rw [← hW2]
 clear hW2
 have B2 := hB.ex hE
 have r4 : rf W1.nx 0 = W1.nx := rfl
 have r6 : rf W1.nx 1 = W1.nx + 1 := rfl
 generalize hWb : X W W.nx [.row [.nilptr, .nilptr, .nilptr, .nilptr]] = Wb at *
 have hWn : W.nx ≤ Wb.nx := by rw [← hWb]; simp only [Ci, rf, lcs, List.length_nil]; omega
 clear hWb
 refine serB_go hP (W := W2) (b4 := rf W1.nx 0) (b6 := rf W1.nx 1) hv hx hl B2 h2 ((B2.sx.nw.ex.get _ h2).trans g2) ⟨by omega, by omega⟩ g4 ⟨by omega, by omega⟩ g6 tt tt tt tt tt tt ?_ ?_
 ·intro A' W' s N x2 x3 g B'
  simp only [BS, BC, ↓reduceIte, BM, BD, nA, nL, x2, x3, g]
  obtain ⟨e1, e2⟩ := hbase (.row [.ptr p 0, .ptr q 0, .ptr F 0, .ptr (F + 1) 0])
  exact ⟨_, rfl, _, _, .weak Ab, by have := B'.sx.nw.ex.nx; omega, _, F, p, ra, rw, q, false, s, os0, N, rfl, B'.base (by omega) e2, fun h => by cases h⟩
 ·intro A' W' b x0 x2 x4 x5 x6 w2 w4 w6 wn ⟨s, N, hBt, hS⟩
  simp only [BS, Am, ↓reduceIte]
  refine serE_go hP (W := W') (b4 := rf W1.nx 0) (b6 := rf W1.nx 1) hv hx hl hBt ?_ ⟨by omega, by omega⟩ w4 ⟨by omega, by omega⟩ w6 (by omega) tt tt tt tt tt tt ?_
  ·exact hS
  ·intro A'' W'' b' y2 y4 y5 z4 zn ⟨Xs, s', o', N', hX, hSB⟩
   have z2 := (hX.sx.nw.ex.get _ h2).trans g2
   simp only [BZ, ↓reduceIte, nE, BM, BD, nA, nL, y2, y4, y5, z4, z2, put_at]
   obtain ⟨e1, e2⟩ := hbase (.row [.ptr p 0, .ptr q 0, .ptr F 0, .ptr (F + 1) 0])
   have hX2 := (hX.putB h2 z2 (.row [.ptr p 0, .ptr q 0, .ptr F 0, .ptr (F + 1) 0])).base (Wc := W) (by omega) e2
   exact ⟨_, rfl, _, _, .weak Ab, by have := hX2.sx.nw.ex.nx; omega, _, F, p, ra, rw, q, b', s', o', N', rfl, hX2, hSB⟩
def c_lawS : AC := (.r [.v 2 (.bool false)] (.seq (.r [.m 5 0,.u 6 (.len 1 0) 5,.a 7 (.bin .gtr) 6 50] (.cond (.t 7) (.r [.p 8 (.call 9) [],.m 2 8] .ret) .skip)) (.r [.m 10 0,.u 11 (.call 15) 10,.m 9 11,.u 12 (.ext 0) 9,.u 13 (.ext 1) 9,.p 3 (.alloc [.nilptr,.nilptr,.nilptr,.nilptr]) [],⟨none,.store 4, [.t 3,.t 12], none⟩,.m 4 13] (.seq (.r [.m 14 4,.u 15 (.un .not) 14] (.cond (.t 15) (.r [.p 16 (.call 9) [],.m 2 16] .ret) .skip)) (.r [.u 17 (.fld 0) 3,.u 18 (.load false 1) 17,.u 19 (.fld 1) 3,.u 20 (.load false 1) 19,.b 21 (.call 16) 18 20,.p 22 (.bin .eql) [.t 21,.c (.int .u8 0)],.m 23 22,.U 24 (.fld 0) 3 23 true,.U 25 (.load false 1) 24 23 true,.U 26 (.fld 1) 3 23 true,.U 27 (.load false 1) 26 23 true,.B 28 (.call 17) 25 27 23 true,.U 29 (.len 1 0) 28 23 true,.P 30 (.bin .eql) [.t 29,.i 0] 23 true,.p 31 .pick [.t 23,.t 30,.F],.m 32 31,.P 33 (.call 9) [] 32 true,.p 34 .pick [.t 32,.t 33,.F],.m 2 34] .ret)))))
theorem Zz : compF Tryz.prog Tryz.f4 ⟨false, false, []⟩ = some (c_lawS, [.tmp 2], 35) := by kernel_rfl
theorem lawS_c (hP : PE E) (W : AW) {v : V} {xs : List Sr} (hv : isS 2 v (xs.map Sr.V)) (hx : ∀ x ∈ xs, x.ok) :
  ACalls E 4 [v] W fun Y _ => Y = .bool true := by
 refine ACalls.of hP Tryz.func4 Zz (by simp) fun _ hok => ?_
 refine Af hok ?_
 by_cases hl : xs.length > 50
 ·simp only [BX, ↓reduceIte, reduceCtorEq, c_lawS, hv.len, lmp, show decide (((xs.length : Nat) : Int) > 50) = true by simp; omega]
  refine pc (Om hP _) ?_
  simp only [BS, BC, ↓reduceIte, ]
  exact ⟨_, rfl, _, _, .weak Ab, lr _, rfl⟩
 ·simp only [BX, ↓reduceIte, reduceCtorEq, c_lawS, hv.len, lmp, show decide (((xs.length : Nat) : Int) > 50) = false by simp; omega, hv.frz]
  refine (Yv hP _ hv hx (by omega)).mono ?_
  rintro _ W1 ⟨Xs, F, p, ra, rw, q, b, s, o, N, rfl, hB, hS⟩
  have hst := Oq hok
  rw [← hst] at hB
  rw [hB.cl.start]
  simp only [BX, ↓reduceIte, nE, BM, BD, nA, nL, nT, ]
  have hE : ∀ l, Ex W1 (X W1 W1.nx l) := fun l => (Ex.refl hB.cl).X
  cases b with
  | false =>
   simp only [↓reduceIte, BD, ]
   refine pc (Om hP _) ?_
   simp only [BS, BC, ↓reduceIte, ]
   exact ⟨_, rfl, _, W, .weak (An hok rfl fun x hx => (hB.ex (hE _)).sx.nw.ex.get x hx), lr _, rfl⟩
  | true =>
   obtain ⟨nw, hSB⟩ := hS rfl
   have hso := hB.sx.nw.st.ok
   have h0 := hSB.si.none hso
   have hf := hSB.si.clean
   have B1 := hB.ex (hE [.row [.ptr p 0, .ptr q 0, .ptr F 0, .ptr (F + 1) 0]])
   simp only [BC, ↓reduceIte, BD, ]
   refine pc (of_c29 hP _ B1.sx.nw.st B1.sx.od) ?_
   rw [h0]
   have e00 : ((((0 : Nat) : Int)) == 0) = true := rfl
   have e01 : ((0 : Int) == 0) = true := rfl
   simp only [BS, ↓reduceIte, e00]
   repeat (rw [Aa]; simp only [BS, BC, ↓reduceIte, nE, BM, BD])
   refine pc (Qm hP _ B1.sx.nw.st B1.sx.od) ?_
   rw [hf]
   have hn : nowGS 4 (([] : List Flt).map Flt.V) = .nilsl := rfl
   rw [hn]
   simp only [BS]
   repeat (rw [Aa]; simp only [BS, BC, ↓reduceIte, nE, e01])
   refine pc (Om hP _) ?_
   simp only [BS, BC, ↓reduceIte, nE]
   exact ⟨_, rfl, _, W, .weak (An hok rfl fun x hx => B1.sx.nw.ex.get x hx), lr _, rfl⟩
end Go.AL.S
namespace Go.AL.S
open Go Go.AL
def shMi : Sh := .st [.bool, .int .u8, .int .u16]
def shSr : Sh := .st [.sl shMi, .int .u8]
theorem wf_u8 {n : Int} (h : (Lit.int .u8 n).wf = true) : 0 ≤ n ∧ n < 256 := by
 simp [Lit.wf, IntKind.min, IntKind.max, IntKind.signed, IntKind.bits] at h; omega
theorem wf_u16 {n : Int} (h : (Lit.int .u16 n).wf = true) : 0 ≤ n ∧ n < 65536 := by
 simp [Lit.wf, IntKind.min, IntKind.max, IntKind.signed, IntKind.bits] at h; omega
theorem Ns {α : Type} {f : α → V} {p : α → Prop} : ∀ {xs : List V}, (∀ x ∈ xs, ∃ a, x = f a ∧ p a) → ∃ l : List α, xs = l.map f ∧ ∀ a ∈ l, p a
 | [], _ => ⟨[], rfl, by simp⟩
 | x :: xs, h => by
  obtain ⟨a, rfl, ha⟩ := h x (by simp)
  obtain ⟨l, rfl, hl⟩ := Ns (xs := xs) fun y hy => h y (by simp [hy])
  refine ⟨a :: l, rfl, fun b hb => ?_⟩
  rcases List.mem_cons.1 hb with rfl | hb
  ·exact ha
  ·exact hl b hb
theorem mi_of {ws : List V} (h : shMi.Is ws) : ∃ m : Mi, shMi.val ws = m.V ∧ m.ok := by
 obtain ⟨_, _, rfl, ⟨b, rfl⟩, _, _, rfl, ⟨k, rfl, hk⟩, _, _, rfl, ⟨n, rfl, hn⟩, rfl⟩ := h
 have h1 := wf_u8 hk
 have h2 := wf_u16 hn
 exact ⟨⟨b, k, n⟩, rfl, h1.1, h1.2, h2.1, h2.2⟩
theorem mis_of {ws : List V} (h : (Sh.sl shMi).Is ws) : ∃ v l, ws = [v] ∧ isMs v l ∧ ∀ m ∈ l, m.ok := by
 obtain ⟨v, xs, rfl, hs, _, hx⟩ := h
 obtain ⟨l, rfl, hl⟩ := Ns (f := Mi.V) (p := Mi.ok) fun x hxm => by
  obtain ⟨ws, h1, rfl⟩ := hx x hxm
  obtain ⟨m, h2, h3⟩ := mi_of h1
  exact ⟨m, h2, h3⟩
 exact ⟨v, l, rfl, hs, hl⟩
theorem sr_of {ws : List V} (h : shSr.Is ws) : ∃ x : Sr, shSr.val ws = x.V ∧ x.ok := by
 obtain ⟨ws3, _, rfl, h3, _, _, rfl, ⟨e, rfl, he⟩, rfl⟩ := h
 obtain ⟨t, l, rfl, t1, t2⟩ := mis_of h3
 exact ⟨⟨t, l, e⟩, rfl, t1, t2, wf_u8 he⟩
theorem srs_of {ws : List V} (h : (Sh.sl shSr).Is ws) : ∃ v, ∃ l : List Sr, ws = [v] ∧ isS 2 v (l.map Sr.V) ∧ (∀ a ∈ l, a.ok) ∧ l.length < 2 ^ 48 := by
 obtain ⟨v, xs, rfl, hs, hl, hx⟩ := h
 obtain ⟨l, rfl, hl'⟩ := Ns (f := Sr.V) (p := Sr.ok) fun x hxm => by
  obtain ⟨ws, h1, rfl⟩ := hx x hxm
  obtain ⟨a, h2, h3⟩ := sr_of h1
  exact ⟨a, h2, h3⟩
 exact ⟨v, l, rfl, hs, hl', by simpa using hl⟩
end Go.AL.S
