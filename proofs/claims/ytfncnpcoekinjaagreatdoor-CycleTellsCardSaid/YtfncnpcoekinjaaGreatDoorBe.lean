/- What the program's functions do, part 5. Conditions: none. -/
import Derived.Test.YtfncnpcoekinjaaGreatDoorBd
open Nat renaming reduceEqDiff → nE, reduceLeDiff → nL, reduceAdd → nA, reduceLT → nT, le_refl → lr
open List renaming getElem?_eq_getElem → gEg, length_map → lmp, getElem_mem → gmm, length_append → lap, length_cons → lcs, mem_singleton → msg, append_nil → apn, mem_append → map', take_length → tkl, map_cons → mcs, map_append → mpp, mem_map → mmp, any_eq_true → aet, length_replicate → lrp, take_add_one → tao, length_take → ltk, mem_filter → mfl
set_option maxRecDepth 100000
set_option maxHeartbeats 8000000
namespace Go.AL.S
open Go Go.AL Go.Proofs Go.Sort Go.Shelf Go.RowKit
variable {E : Env}
def zipM (ids ks : List Int) : List (Nat × Nat) := (ids.map Int.toNat).zip (ks.map Int.toNat)
def txtR (ids ks : List Int) : ByteArray := if ids.length = 0 ∨ ids.length ≠ ks.length then ⟨#[]⟩ else ⟨(bitsR (zipM ids ks) ++ Lib.decDigits (((zipM ids ks).head?.getD (0, 0)).1)).toArray⟩
theorem zipM_len {ids ks : List Int} (h : ids.length = ks.length) : (zipM ids ks).length = ids.length := by
 simp [zipM, h]
theorem zipM_at {ids ks : List Int} {i : Nat} {p : Nat × Nat} (hi : ∀ x ∈ ids, 0 ≤ x ∧ x < 65536) (hk : ∀ x ∈ ks, 0 ≤ x ∧ x < 256) (h : (zipM ids ks)[i]? = some p) : ids[i]? = some (p.1 : Int) ∧ ks[i]? = some (p.2 : Int) ∧ p.1 < 65536 ∧ p.2 < 256 := by
 unfold zipM at h
 rw [List.getElem?_zip_eq_some, List.getElem?_map, List.getElem?_map] at h
 obtain ⟨h1, h2⟩ := h
 cases ha : ids[i]? with
 | none => rw [ha] at h1; cases h1
 | some a =>
  cases hb : ks[i]? with
  | none => rw [hb] at h2; cases h2
  | some b =>
   rw [ha] at h1
   rw [hb] at h2
   have e1 : a.toNat = p.1 := by simpa using h1
   have e2 : b.toNat = p.2 := by simpa using h2
   have b1 := hi a (List.mem_of_getElem? ha)
   have b2 := hk b (List.mem_of_getElem? hb)
   refine ⟨congrArg some (by omega), congrArg some (by omega), by omega, by omega⟩
theorem slice_of {γ : G} {s : Nat} {v : V} {u : Value} {xs : List V} (h : isS s v xs) (hu : RelV γ v u) : ∃ a c, u = .slice a xs.length c := by
 rcases h with ⟨rfl, rfl⟩ | ⟨rfl, rfl⟩ | ⟨f, rfl⟩
 ·exact ⟨none, 0, hu⟩
 ·obtain ⟨a, rfl⟩ := hu
  exact ⟨some a, 0, rfl⟩
 ·obtain ⟨b, pre, c, post, sz, cap, _, _, rfl, _⟩ := hu
  exact ⟨_, cap, rfl⟩
theorem cTextN_w (a1 a2 : Option Addr) (n1 c1 n2 c2 : Nat) (h : n1 = 0 ∨ n1 ≠ n2) (W : World) : Calls Tryz.prog 21 #[.agg #[.slice a1 n1 c1, .slice a2 n2 c2]] W fun e w' => e = .returned (.string ⟨#[]⟩) ∧ RowKit.Below W.heap.size W w' := by
 by_cases h0 : n1 = 0
 ·subst h0
  go_enter Tryz.func21, Tryz.ntmps21
  go_wp2
  all_goals go_ret
  all_goals exact ⟨rfl, (RowKit.Below.refl _ W).alloc (lr _) _⟩
 ·have hz : ((n1 : Int) == 0) = false := by simp; omega
  have hz2 : ((n1 : Int) != (n2 : Int)) = true := by simp; omega
  go_enter Tryz.func21, Tryz.ntmps21
  go_wp2
  all_goals go_ret
  all_goals exact ⟨rfl, (RowKit.Below.refl _ W).alloc (lr _) _⟩
theorem text_lift (hd : E.w0.drawn = 0) {f : FuncId} (hb : hasBody E.P f)
  (hN : ∀ (a1 a2 : Option Addr) (n1 c1 n2 c2 : Nat), n1 = 0 ∨ n1 ≠ n2 → ∀ W : World, Calls E.P f #[.agg #[.slice a1 n1 c1, .slice a2 n2 c2]] W fun e w' => e = .returned (.string ⟨#[]⟩) ∧ RowKit.Below W.heap.size W w')
  (hM : ∀ (ab ao bb bo ca cb : Nat) (l : List (Nat × Nat)) (W : World), AL.Below E.B E.w0 W → 0 < l.length → l.length < 2 ^ 20 → (∀ p ∈ l, p.1 < 65536) → (∀ p ∈ l, p.2 < 256) →
   (∀ i : Nat, ∀ p, l[i]? = some p → W.cell? ⟨ab, ao + i, none⟩ = some (.int .u16 (p.1 : Nat))) → (∀ i : Nat, ∀ p, l[i]? = some p → W.cell? ⟨bb, bo + i, none⟩ = some (.int .u8 (p.2 : Nat))) → ab < W.heap.size → bb < W.heap.size → E.B ≤ W.heap.size →
   Calls E.P f #[.agg #[.slice (some ⟨ab, ao, none⟩) l.length ca, .slice (some ⟨bb, bo, none⟩) l.length cb]] W fun e w' => e = .returned (.string ⟨(bitsR l ++ Lib.decDigits ((l.head?.getD (0, 0)).1)).toArray⟩) ∧ RowKit.Below W.heap.size W w')
  (W : AW) {v1 v2 : V} {ids ks : List Int} (i1 : isS 1 v1 (intsV ids)) (i2 : isS 1 v2 (u8s ks)) (hi : ∀ x ∈ ids, 0 ≤ x ∧ x < 65536) (hk : ∀ x ∈ ks, 0 ≤ x ∧ x < 256) (hl : ids.length < 2 ^ 20) :
  ACalls E f [.agg [v1, v2]] W fun Y W' => Y = .str (txtR ids ks) ∧ W' = W := by
 refine ⟨hb, fun _ γ w ws hW hr => ?_⟩
 obtain ⟨_, _, rfl, ⟨vs, rfl, u1, _, rfl, r1, u2, _, rfl, r2, rfl⟩, rfl⟩ := hr
 have fin : ∀ (b : ByteArray), b = txtR ids ks → ∀ e w', e = Ending.returned (.string b) ∧ RowKit.Below w.heap.size w w' → ∃ v γ' X W', e = .returned v ∧ G.le W.nx γ γ' ∧ W.nx ≤ W'.nx ∧ RelW E γ' w' W' ∧ RelV γ' X v ∧ (X = V.str (txtR ids ks) ∧ W' = W) := by
  rintro b rfl e w' ⟨rfl, bw⟩
  exact ⟨_, γ, .str _, W, rfl, G.le.refl _ _, lr _, RelW.below' hd hW bw, rfl, rfl, rfl⟩
 by_cases hc : ids.length = 0 ∨ ids.length ≠ ks.length
 ·obtain ⟨a1, c1, rfl⟩ := slice_of i1 r1
  obtain ⟨a2, c2, rfl⟩ := slice_of i2 r2
  rw [ints_len, u8s_len]
  exact (hN a1 a2 _ c1 _ c2 hc w).mono (fin _ (by unfold txtR; rw [if_pos hc]))
 ·have h0 : 0 < ids.length := Nat.pos_of_ne_zero fun h => hc (.inl h)
  have he : ids.length = ks.length := Decidable.not_not.1 fun h => hc (.inr h)
  obtain ⟨b1, o1, c1, rfl, hb1, k1⟩ := isS_cells hW (κ := .u16) i1 h0 r1
  obtain ⟨b2, o2, c2, rfl, hb2, k2⟩ := isS_cells hW (κ := .u8) i2 (by omega) r2
  have hzl := zipM_len he
  have e1 : (Value.slice (some ⟨b1, o1, none⟩) ids.length c1) = .slice (some ⟨b1, o1, none⟩) (zipM ids ks).length c1 := by rw [hzl]
  have e2 : (Value.slice (some ⟨b2, o2, none⟩) ks.length c2) = .slice (some ⟨b2, o2, none⟩) (zipM ids ks).length c2 := by rw [hzl, he]
  rw [e1, e2]
  have hin : ∀ p ∈ zipM ids ks, p.1 < 65536 ∧ p.2 < 256 := fun p hp => by
   obtain ⟨i, h⟩ := List.mem_iff_getElem?.1 hp
   exact (zipM_at hi hk h).2.2
  refine (hM b1 o1 b2 o2 c1 c2 (zipM ids ks) w hW.below (by omega) (by omega) (fun p hp => (hin p hp).1) (fun p hp => (hin p hp).2) (fun i p hp => k1 i _ (zipM_at hi hk hp).1) (fun i p hp => k2 i _ (zipM_at hi hk hp).2.1) hb1 hb2 hW.base).mono (fin _ ?_)
  unfold txtR
  rw [if_neg hc]
theorem cText2_c (hP : PE E) (hd : E.w0.drawn = 0) (ht : TabP E.w0) (hB : 0 < E.B) (W : AW) {v1 v2 : V} {ids ks : List Int} (i1 : isS 1 v1 (intsV ids)) (i2 : isS 1 v2 (u8s ks)) (hi : ∀ x ∈ ids, 0 ≤ x ∧ x < 65536) (hk : ∀ x ∈ ks, 0 ≤ x ∧ x < 256) (hl : ids.length < 2 ^ 20) :
  ACalls E 21 [.agg [v1, v2]] W fun Y W' => Y = .str (txtR ids ks) ∧ W' = W :=
 text_lift hd ⟨_, _, by rw [hP]; exact Tryz.func21, rfl, by decide⟩ (fun a1 a2 n1 c1 n2 c2 h W => by rw [hP]; exact cTextN_w a1 a2 n1 c1 n2 c2 h W)
  (fun ab ao bb bo ca cb l W hbe h0 hl h1 h2 h3 h4 h5 h6 h7 => by rw [hP]; exact cText2_w ab ao bb bo ca cb l W h0 hl h1 h2 h3 h4 h5 h6 (ht.below hB hbe.row) (by omega)) W i1 i2 hi hk hl
theorem rText2_c (hP : PE E) (hd : E.w0.drawn = 0) (W : AW) {v1 v2 : V} {ids ks : List Int} (i1 : isS 1 v1 (intsV ids)) (i2 : isS 1 v2 (u8s ks)) (hi : ∀ x ∈ ids, 0 ≤ x ∧ x < 65536) (hk : ∀ x ∈ ks, 0 ≤ x ∧ x < 256) (hl : ids.length < 2 ^ 20) :
  ACalls E 25 [.agg [v1, v2]] W fun Y W' => Y = .str (txtR ids ks) ∧ W' = W :=
 text_lift hd ⟨_, _, by rw [hP]; exact Tryz.func25, rfl, by decide⟩ (fun a1 a2 n1 c1 n2 c2 h W => by rw [hP]; exact rTextN_w a1 a2 n1 c1 n2 c2 h W)
  (fun ab ao bb bo ca cb l W _ h0 hl h1 h2 h3 h4 h5 h6 _ => by rw [hP]; exact rText_w ab ao bb bo ca cb l W h0 hl h1 h2 h3 h4 h5 h6) W i1 i2 hi hk hl
end Go.AL.S
set_option maxHeartbeats 8000000
namespace Go.AL.S
open Go Go.AL Go.Proofs
variable {E : Env}
theorem new_n (hP : PE E) (W : AW) : ACalls E 29 [] W fun Y W' => ∃ p ra rw, Y = .ptr p 0 ∧ Nw W W' p ra rw [] := by
 refine ACalls.of hP Tryz.func29 ok7e (by simp) fun _ hok => ?_
 refine awp_start hok ?_
 simp only [c7, BZ, ↓reduceIte, nE, BM, BD, nA, nL]
 refine ⟨_, rfl, _, _, .weak weak_id, ?_, rf W.nx 2, rf W.nx 0, rf W.nx 1, rfl, ⟨?_, ?_, ⟨[], 0, ?_, ⟨(fun _ h => by cases h), fun _ _ => rfl⟩⟩, ?_, ?_, ?_, ?_, ⟨by simp, List.Pairwise.nil⟩⟩, Ex.x0, ?_, ?_, ?_⟩
 ·simp [X_nx, rf]
 ·simp only [BC, BM]; rfl
 ·simp only [BC, BM, BD]; rfl
 ·simp only [BC, BM]
 all_goals simp [rf, X_nx]
structure Sx (W W' : AW) (p ra rw q : Nat) (s : Str) (os : Ods) : Prop where
 nw : Nw W W' p ra rw s
 od : Od W' q os
 hq : W.nx ≤ q
 ne : q ≠ p ∧ q ≠ ra ∧ q ≠ rw
def os0 : Ods := [[], [], [], [], [], [], [], []]
theorem m_rem6 {W : AW} {K : V → AW → Prop} {k : IntKind} {a : Int} : sem E (.bin .rem) [.int k a, .int k 6] W K = K (.int k (a.tmod 6)) W := by
 simp [sem, rsem, tsem, binI]
theorem takes_snoc (o : Ods) {l : List Rd} {k : Nat} (hk : k < l.length) : takesR o (l.take (k + 1)) = ((takeR (takesR o (l.take k)).1 (l[k]).1 (nums (l[k]).2)).1, (takesR o (l.take k)).2 && ((takeR (takesR o (l.take k)).1 (l[k]).1 (nums (l[k]).2)).2.1 && decide ((takeR (takesR o (l.take k)).1 (l[k]).1 (nums (l[k]).2)).2.2 = 0))) := by
 rw [tao, gEg hk, Option.toList_some, takesR_app]
 simp only [takesR, Bool.and_true]
set_option maxHeartbeats 8000000
open Go Go.AL Go.AL.SE Go.Proofs
def c_told30_1 : AC := (.seq (.r [.m 67 10,.m 68 9,.u 69 (.len 1 0) 68,.b 70 (.bin .lss) 67 69] (.w 70 3)) (.seq (.block 4 (.par (.step 0 (.m 73 4) (.step 1 (.m 74 9) (.step 2 (.m 75 10) (.step 6 (.m 79 9) (.step 7 (.m 80 10) (.step 3 (.b 76 (.idxp 2) 74 75) (.step 4 (.u 77 (.fld 0) 76) (.step 5 (.u 78 (.load false 1) 77) (.step 8 (.b 81 (.idxp 2) 79 80) (.step 9 (.u 82 (.fld 1) 81) (.step 10 (.u 83 (.load false 1) 82) (.step 11 (.p 84 (.call 37) [.t 73,.t 78,.t 83]) .done)))))))))))))) (.reg [.m 71 10,.a 72 (.bin .add) 71 1,.m 10 72])))
def c_told30_0 : AC := (.seq (.r [.m 13 5,.m 14 0,.u 15 (.len 1 0) 14,.b 16 (.bin .lss) 13 15] (.w 16 0)) (.seq (.block 1 (.r [.m 19 5,.a 20 (.bin .add) 19 1,.u 21 (.conv .u16) 20,.m 6 21] (.seq (.r [.m 22 3,.m 23 6,.m 24 0,.m 25 5,.b 26 (.idxp 3) 24 25,.u 27 (.fld 0) 26,.u 28 (.load false 1) 27,.p 29 (.call 31) [.t 22,.c (.int .u8 0),.t 23,.t 28],.a 30 (.bin .neq) 29 0] (.cond (.t 30) (.exit 1) .skip)) (.seq (.r [.m 31 0,.m 32 5,.b 33 (.idxp 3) 31 32,.u 34 (.fld 2) 33,.u 35 (.load false 1) 34,.p 36 (.bin .rem) [.t 35,.c (.int .u8 6)]] (.block 2 (.seq (.r [.p 38 (.bin .eql) [.t 36,.c (.int .u8 0)],.m 37 38] (.cond (.t 37) .skip (.r [.p 39 (.bin .eql) [.t 36,.c (.int .u8 1)],.m 37 39] (.cond (.t 37) .skip (.reg [.p 40 (.bin .eql) [.t 36,.c (.int .u8 2)],.m 37 40]))))) (.cond (.t 37) (.reg [.m 41 3,.m 42 6,.m 43 0,.m 44 5,.b 45 (.idxp 3) 43 44,.u 46 (.fld 1) 45,.u 47 (.load false 1) 46,.p 48 (.call 32) [.t 41,.t 42,.t 47]]) (.r [.p 50 (.bin .eql) [.t 36,.c (.int .u8 3)],.m 49 50] (.cond (.t 49) (.reg [.m 51 3,.m 52 6,.b 53 (.call 33) 51 52]) (.r [.p 55 (.bin .eql) [.t 36,.c (.int .u8 4)],.m 54 55] (.cond (.t 54) (.reg [.m 56 3,.m 57 6,.b 58 (.call 34) 56 57]) .skip)))))))) (.r [.m 60 3,.m 61 6,.b 62 (.call 35) 60 61,.m 59 62,.u 63 (.ext 0) 59,.u 64 (.ext 1) 59,.p 7 (.alloc [.int .u16 0,.int .u8 0,.nilsl,.nilsl,.int .u8 0]) [],⟨none,.store 5, [.t 7,.t 63], none⟩,.m 8 64] (.r [.u 65 (.load true 5) 7,.u 66 (.call 36) 65,.m 9 66] (.r [.v 10 (.int .i64 0)] (.block 3 (.loop c_told30_1))))))))) (.reg [.m 17 5,.a 18 (.bin .add) 17 1,.m 5 18])))
def c_told30 : AC := (.r [.v 2 (.nilptr)] (.r [.p 11 (.call 29) [],.p 12 (.call 30) [],.m 3 11,.m 4 12] (.seq (.r [.v 5 (.int .i64 0)] (.block 0 (.loop c_told30_0))) (.r [.m 85 3,.m 86 4,.b 87 (.call 38) 85 86,.m 2 87] .ret))))
theorem ok_told30e : compF Tryz.prog Tryz.f10 ⟨false, false, []⟩ = some (c_told30, [.tmp 2], 88) := by kernel_rfl
structure De where
 mv : V
 ml : List Mi
 rv : V
 rl : List (Option (List Int))
 how : Int
def De.V (d : De) : V := .agg [d.mv, d.rv, .int .u8 d.how]
structure De.ok (d : De) : Prop where
 ms : isMs d.mv d.ml
 mi : ∀ m ∈ d.ml, m.ok
 rd : isLs d.rv d.rl
 ns : ∀ o ∈ d.rl, ∀ n ∈ nums o, 0 ≤ n ∧ n < 65536
 bel : d.rv.bel 0 = true
 hw : 0 ≤ d.how ∧ d.how < 256
structure De.small (d : De) : Prop where
 m : d.ml.length < 2 ^ 30
 r : d.rl.length < 2 ^ 30
 n : ∀ o ∈ d.rl, (nums o).length < 2 ^ 30
def endD (s : Str) (i : Int) (d : De) : Str := if d.how.tmod 6 = 0 ∨ d.how.tmod 6 = 1 ∨ d.how.tmod 6 = 2 then (commitR s i d.rl).1 else if d.how.tmod 6 = 3 then (endR s i 2).1 else if d.how.tmod 6 = 4 then (endR s i 3).1 else s
def stepD (so : Str × Ods) (i : Int) (d : De) : Str × Ods :=
 if (beginR so.1 0 i d.ml).2 ≠ 0 then ((beginR so.1 0 i d.ml).1, so.2) else
  (endD (beginR so.1 0 i d.ml).1 i d, (takesR so.2 (readsR ((find (endD (beginR so.1 0 i d.ml).1 i d) i).getD Tx.zero))).1)
def toldR (l : List De) : Str × Ods := l.zipIdx.foldl (fun so x => stepD so ((x.2 + 1 : Nat) : Int) x.1) ([], os0)
theorem told_take {l : List De} {k : Nat} (hk : k < l.length) : (l.take (k + 1)).zipIdx.foldl (fun so x => stepD so ((x.2 + 1 : Nat) : Int) x.1) ([], os0) = stepD ((l.take k).zipIdx.foldl (fun so x => stepD so ((x.2 + 1 : Nat) : Int) x.1) ([], os0)) ((k + 1 : Nat) : Int) l[k] := by
 rw [tao, gEg hk, List.zipIdx_append, List.foldl_append]
 simp [Nat.min_eq_left (Nat.le_of_lt hk)]
theorem deF0 {W : AW} {K : V → AW → Prop} {d : De} : sem E (.fld 0) [.cptr d.V.cells] W K = K (.cptr [d.mv, d.rv, .int .u8 d.how]) W := by
 simp [De.V, V.cells, sem, rsem, tsem]
theorem deF1 {W : AW} {K : V → AW → Prop} {d : De} : sem E (.fld 1) [.cptr d.V.cells] W K = K (.cptr [d.rv, .int .u8 d.how]) W := by
 simp [De.V, V.cells, sem, rsem, tsem]
theorem deF2 {W : AW} {K : V → AW → Prop} {d : De} : sem E (.fld 2) [.cptr d.V.cells] W K = K (.cptr [.int .u8 d.how]) W := by
 simp [De.V, V.cells, sem, rsem, tsem]
theorem Sx.fr {W W1 W2 : AW} {p ra rw q : Nat} {s s' : Str} {o : Ods} (h : Sx W W1 p ra rw q s o) (hS : St W2 p ra rw s') (hF : Fr W1 W2 p ra rw) : Sx W W2 p ra rw q s' o :=
 ⟨h.nw.fr hS hF, h.od.by (by rw [hF.nx]; exact lr _) (hF.get q h.ne.1 h.ne.2.1 h.ne.2.2), h.hq, h.ne⟩
theorem Sx.ex {W W1 W2 : AW} {p ra rw q : Nat} {s : Str} {o : Ods} (h : Sx W W1 p ra rw q s o) (hE : Ex W1 W2) : Sx W W2 p ra rw q s o := ⟨h.nw.exx hE, h.od.ex hE, h.hq, h.ne⟩
theorem Sx.tk {W W1 W2 : AW} {p ra rw q : Nat} {s : Str} {o o' : Ods} (h : Sx W W1 p ra rw q s o) (hO : Od W2 q o') (hn : W2.nx = W1.nx) (hg : ∀ x, x ≠ q → W2.get x = W1.get x) : Sx W W2 p ra rw q s o' := by
 have a := h.nw.ex
 have b := h.hq
 have l := h.od.lq
 refine ⟨⟨h.nw.st.by (by omega) (hg _ h.ne.1.symm) (hg _ h.ne.2.1.symm) (hg _ h.ne.2.2.symm), ⟨fun x hx => by rw [hg x (by omega)]; exact a.cl x (by omega), by rw [hn]; exact a.nx, fun x hx => by rw [hg x (by omega)]; exact a.get x hx⟩, h.nw.hp, h.nw.ha, h.nw.hw⟩, hO, h.hq, h.ne⟩
theorem tkD_go (hP : PE E) {W W1 : AW} {p ra rw q : Nat} {s : Str} {o : Ods} (h : Sx W W1 p ra rw q s o) {l : List Rd} (hl : l.length ≤ 8) (hk : ∀ r ∈ l, 0 ≤ r.1 ∧ r.1 < 256) (hn : ∀ r ∈ l, (nums r.2).length ≤ 32 ∧ ∀ n ∈ nums r.2, 0 ≤ n ∧ n < 65536) {v : V} {j : Nat} {A : AFr} {Q : Exit → AFr → AW → Prop}
  (a0 : A 0 = some v) (a3 : A 3 = some (.ptr p 0)) (a4 : A 4 = some (.ptr q 0)) (a5 : A 5 = some (.int .i64 j)) (a9 : A 9 = some (nowGS 2 (l.map rdV))) (a10 : A 10 = some (.int .i64 0))
  (hQ : ∀ A' W', A' 0 = some v → A' 3 = some (.ptr p 0) → A' 4 = some (.ptr q 0) → A' 5 = some (.int .i64 j) → Sx W W' p ra rw q s (takesR o l).1 → W'.nx = W1.nx → Q (.exit 3) A' W') : awp E (.loop c_told30_1) Q A W1 := by
 have hs := nowGS_S 2 (l.map rdV)
 rw [e_loop]
 refine alp (fun (k : Nat) A1 W2 => A1 0 = some v ∧ A1 3 = some (.ptr p 0) ∧ A1 4 = some (.ptr q 0) ∧ A1 5 = some (.int .i64 j) ∧ A1 9 = some (nowGS 2 (l.map rdV)) ∧ A1 10 = some (.int .i64 (k : Nat)) ∧ k ≤ l.length ∧ Sx W W2 p ra rw q s (takesR o (l.take k)).1 ∧ W2.nx = W1.nx) (fun k => l.length - k) 0
  ⟨a0, a3, a4, a5, a9, a10, Nat.zero_le _, h, rfl⟩ ?_
 rintro k A1 W2 ⟨q0, q3, q4, q5, q9, q10, qk, qS, qn⟩ _
 by_cases hk1 : k < l.length
 ·have hkr := hk _ (gmm hk1)
  have hnr := hn _ (gmm hk1)
  have hst := takes_snoc o hk1
  have hat := rdV_at hk1
  generalize l[k] = r at hkr hnr hst hat
  have hre := (elV_isEl r.2).isS
  simp (maxSteps:=9^9) (disch:=omega) only [BX, ↓reduceIte, nE, BM, BD, nA, nL, c_told30_1, q4, q9, q10, hs.len, lmp, clt, hk1, dT, hs.idx hat, rdV_cells, hre.frz]
  refine (take_c hP _ qS.od r.1 hkr.1 hkr.2 hre (by have := hnr.1; omega) hnr.2).mono ?_
  rintro _ W3 ⟨rfl, hO3, hn3, hg3⟩
  simp (maxSteps:=9^9) (disch:=omega) only [BS, ↓reduceIte, nE, reduceCtorEq, q0, q3, q4, q5, q9, q10, wadd1]
  exact ⟨k + 1, ⟨tt, tt, tt, tt, tt, tt, hk1, by rw [hst]; exact qS.tk hO3 hn3 hg3, by omega⟩, by omega, by omega⟩
 ·obtain rfl : k = l.length := by omega
  rw [tkl] at qS
  simp (maxSteps:=9^9) (disch:=omega) only [BX, ↓reduceIte, nE, c_told30_1, q9, q10, hs.len, lmp, clt, hk1, dF]
  exact hQ _ _ q0 q3 q4 q5 qS qn
theorem Gr.low {W : AW} {g m lo lo' : Nat} {h : V} {P : List Ek} {N : List Int} (hG : Gr W g m h P N lo) (hl : lo' ≤ lo) : Gr W g m h P N lo' := ⟨hG.hg, hG.hm, hG.now.low hl, hG.lg, hG.lm, Nat.le_trans hl hG.gg, Nat.le_trans hl hG.gm, hG.pk, hG.pl, hG.nl⟩
theorem told_c (hP : PE E) (W : AW) {v : V} {l : List De} (hv : isS 3 v (l.map De.V)) (hd : ∀ d ∈ l, d.ok ∧ d.small) (hl : l.length < 60000) :
  ACalls E 10 [v] W fun Y W' => ∃ g m h, Y = .ptr g 0 ∧ Gr W' g m h (buildP (toldR l).1 (toldR l).2) (nodesR (toldR l).1) W.nx ∧ SOk (toldR l).1 ∧ Ex W W' := by
 refine ACalls.of hP Tryz.func10 ok_told30e (by simp) fun _ hok => ?_
 refine awp_start hok ?_
 simp (maxSteps:=9^9) (disch:=omega) only [BZ, c_told30]
 refine (new_n hP _).mono ?_
 rintro _ W1 ⟨p, ra, rw, rfl, h1⟩
 simp (maxSteps:=9^9) (disch:=omega) only [BS, BC, ]
 refine (newO_c hP _).mono ?_
 rintro _ W2 ⟨q, rfl, hO, hE, hq⟩
 have hst := X_start hok
 rw [← hst] at h1
 have n1 := h1.ex.nx
 have lp := h1.st.lp
 have la := h1.st.la
 have lw := h1.st.lw
 have S0 : Sx W W2 p ra rw q [] os0 := ⟨h1.exx hE, hO, by omega, by omega, by omega, by omega⟩
 simp (maxSteps:=9^9) (disch:=omega) only [BS, e_seq, ↓reduceIte, nE, ]
 rw [e_loop]
 refine alp (fun (k : Nat) A1 W3 => A1 0 = some v ∧ A1 3 = some (.ptr p 0) ∧ A1 4 = some (.ptr q 0) ∧ A1 5 = some (.int .i64 (k : Nat)) ∧ k ≤ l.length ∧ Sx W W3 p ra rw q (toldR (l.take k)).1 (toldR (l.take k)).2 ∧ W2.nx ≤ W3.nx) (fun k => l.length - k) 0
  ⟨tt, tt, tt, tt, Nat.zero_le _, S0, lr _⟩ ?_
 rintro k A1 W3 ⟨q0, q3, q4, q5, qk, qS, qn⟩ _
 by_cases hk : k < l.length
 ·have hat : (l.map De.V)[k]? = some (l[k]).V := by simp [hk]
  have hdk := hd _ (gmm hk)
  have hst : toldR (l.take (k + 1)) = stepD (toldR (l.take k)) ((k + 1 : Nat) : Int) l[k] := told_take hk
  generalize l[k] = d at hat hdk hst
  generalize toldR (l.take k) = so at qS hst
  obtain ⟨s, o⟩ := so
  obtain ⟨hdo, hds⟩ := hdk
  have hms : isS 3 d.mv (d.ml.map Mi.V) := hdo.ms
  have hdm := hds.m
  have hdr := hds.r
  have c16 : IntKind.u16.wrap (((k + 1 : Nat) : Int)) = ((k + 1 : Nat) : Int) := IntWalk.u16_in _ (by omega)
  have hbg := begin_c (E := E) hP W3 qS.nw.st 0 ((k + 1 : Nat) : Int) (by omega) (by omega) (by decide) (by decide) hdo.ms hdo.mi (by omega)
  simp (maxSteps:=9^9) (disch:=omega) only [BX, ↓reduceIte, nE, reduceCtorEq, BM, c_told30_0, q0, q3, q5, hv.len, lmp, clt, hk, dT, wadd1, c16, hv.idx hat, deF0, hms.frz]
  refine hbg.mono ?_
  rintro _ W4 ⟨rfl, hS4, hF4⟩
  have qS4 := qS.fr hS4 hF4
  have n4 := hF4.nx
  simp only [stepD] at hst
  by_cases he : (beginR s 0 ((k + 1 : Nat) : Int) d.ml).2 = 0
  ·rw [if_neg (fun h => h he)] at hst
   have he' : ((beginR s 0 ((k + 1 : Nat) : Int) d.ml).2 != 0) = false := by rw [he]; rfl
   generalize (beginR s 0 ((k + 1 : Nat) : Int) d.ml).1 = s1 at qS4 hst
   obtain ⟨xs, i1, i2, i3⟩ : ∃ xs, isS 1 d.rv xs ∧ xs.length = d.rl.length ∧ ∀ k (h : k < xs.length) (h' : k < d.rl.length), isEl xs[k] d.rl[k] := hdo.rd
   simp (maxSteps:=9^9) (disch:=omega) only [BS, BC, cond_if, ↓reduceIte, he']
   rw [e_seq]
   refine awp_mono (Q := fun z A' W' => z = .normal ∧ A' 0 = some v ∧ A' 3 = some (.ptr p 0) ∧ A' 4 = some (.ptr q 0) ∧ A' 5 = some (.int .i64 (k : Nat)) ∧ A' 6 = some (.int .u16 ((k + 1 : Nat) : Int)) ∧ Sx W W' p ra rw q (endD s1 ((k + 1 : Nat) : Int) d) o ∧ W4.nx ≤ W'.nx) _ ?_ ?_
   ·rintro _ A5 W5 ⟨rfl, z0, z3, z4, z5, z6, zS, zn⟩
    obtain ⟨t', ht', hto⟩ : ∃ t', (find (endD s1 ((k + 1 : Nat) : Int) d) ((k + 1 : Nat) : Int)).getD Tx.zero = t' ∧ t'.ok := by
     cases hf : find (endD s1 ((k + 1 : Nat) : Int) d) ((k + 1 : Nat) : Int) with
     | none => exact ⟨_, rfl, by constructor <;> simp [Tx.zero, Option.getD_none]⟩
     | some t => exact ⟨t, rfl, (find_ok zS.nw.st.ok hf).2.2⟩
    rw [ht'] at hst
    show awp E _ _ A5 W5
    simp (maxSteps:=9^9) (disch:=omega) only [BZ, ↓reduceIte, nE, z3, z6]
    refine pc (find_c hP _ zS.nw.st ((k + 1 : Nat) : Int) (by omega) (by omega)) ?_
    rw [ht', zS.nw.ex.cl.start]
    simp (maxSteps:=9^9) (disch:=omega) only [BZ, ↓reduceIte, nE, BM, BD, nA, nL, nT, msV_one, lsV_one, Tx.V]
    refine pc (reads_c hP _ hto) ?_
    simp (maxSteps:=9^9) (disch:=omega) only [BS, e_seq, ↓reduceIte]
    have hEx : ∀ l, Ex W5 (X W5 W5.nx l) := fun l => (Ex.refl zS.nw.ex.cl).X
    refine tkD_go hP (v := v) (j := k) (zS.ex (hEx _)) (readsR_len hto) (readsR_key hto.ms) (readsR_nums hto) tt tt tt tt tt tt ?_
    intro A6 W6 y0 y3 y4 y5 yS yn
    simp only [X_nx, rf] at yn
    simp (maxSteps:=9^9) (disch:=omega) only [BS, ↓reduceIte, nE, reduceCtorEq, y0, y3, y4, y5, wadd1]
    exact ⟨k + 1, ⟨tt, tt, tt, tt, hk, by rw [hst]; exact yS, by omega⟩, by omega, by omega⟩
   ·by_cases w0 : d.how.tmod 6 = 0
    ·have b0 : (d.how.tmod 6 == 0) = true := by simp [w0]
     have hen : endD s1 ((k + 1 : Nat) : Int) d = (commitR s1 ((k + 1 : Nat) : Int) d.rl).1 := if_pos (.inl w0)
     simp (maxSteps:=9^9) (disch:=omega) only [BX, ↓reduceIte, nE, reduceCtorEq, BM, q0, q3, q5, hv.idx hat, deF2, deF1, m_rem6, i1.frz, b0]
     refine (commit_c hP _ qS4.nw.st ((k + 1 : Nat) : Int) (by omega) (by omega) hdo.rd hdo.bel (by omega) fun o ho => ⟨by have := hds.n o ho; omega, hdo.ns o ho⟩).mono ?_
     rintro _ W5 ⟨rfl, hS5, hF5⟩
     simp (maxSteps:=9^9) (disch:=omega) only [BS, ↓reduceIte, nE, reduceCtorEq, q0, q3, q4, q5]
     exact ⟨tt, tt, tt, tt, tt, tt, by rw [hen]; exact qS4.fr hS5 hF5, by have := hF5.nx; omega⟩
    have b0 : (d.how.tmod 6 == 0) = false := by simp [w0]
    by_cases w1 : d.how.tmod 6 = 1
    ·have b1 : (d.how.tmod 6 == 1) = true := by simp [w1]
     have hen : endD s1 ((k + 1 : Nat) : Int) d = (commitR s1 ((k + 1 : Nat) : Int) d.rl).1 := if_pos (.inr (.inl w1))
     simp (maxSteps:=9^9) (disch:=omega) only [BX, ↓reduceIte, nE, reduceCtorEq, BM, q0, q3, q5, hv.idx hat, deF2, deF1, m_rem6, i1.frz, b0, b1]
     refine (commit_c hP _ qS4.nw.st ((k + 1 : Nat) : Int) (by omega) (by omega) hdo.rd hdo.bel (by omega) fun o ho => ⟨by have := hds.n o ho; omega, hdo.ns o ho⟩).mono ?_
     rintro _ W5 ⟨rfl, hS5, hF5⟩
     simp (maxSteps:=9^9) (disch:=omega) only [BS, ↓reduceIte, nE, reduceCtorEq, q0, q3, q4, q5]
     exact ⟨tt, tt, tt, tt, tt, tt, by rw [hen]; exact qS4.fr hS5 hF5, by have := hF5.nx; omega⟩
    have b1 : (d.how.tmod 6 == 1) = false := by simp [w1]
    by_cases w2 : d.how.tmod 6 = 2
    ·have b2 : (d.how.tmod 6 == 2) = true := by simp [w2]
     have hen : endD s1 ((k + 1 : Nat) : Int) d = (commitR s1 ((k + 1 : Nat) : Int) d.rl).1 := if_pos (.inr (.inr w2))
     simp (maxSteps:=9^9) (disch:=omega) only [BX, ↓reduceIte, nE, reduceCtorEq, BM, q0, q3, q5, hv.idx hat, deF2, deF1, m_rem6, i1.frz, b0, b1, b2]
     refine (commit_c hP _ qS4.nw.st ((k + 1 : Nat) : Int) (by omega) (by omega) hdo.rd hdo.bel (by omega) fun o ho => ⟨by have := hds.n o ho; omega, hdo.ns o ho⟩).mono ?_
     rintro _ W5 ⟨rfl, hS5, hF5⟩
     simp (maxSteps:=9^9) (disch:=omega) only [BS, ↓reduceIte, nE, reduceCtorEq, q0, q3, q4, q5]
     exact ⟨tt, tt, tt, tt, tt, tt, by rw [hen]; exact qS4.fr hS5 hF5, by have := hF5.nx; omega⟩
    have b2 : (d.how.tmod 6 == 2) = false := by simp [w2]
    have hn012 : ¬ (d.how.tmod 6 = 0 ∨ d.how.tmod 6 = 1 ∨ d.how.tmod 6 = 2) := fun h => h.elim w0 fun h => h.elim w1 w2
    by_cases w3 : d.how.tmod 6 = 3
    ·have b3 : (d.how.tmod 6 == 3) = true := by simp [w3]
     have hen : endD s1 ((k + 1 : Nat) : Int) d = (endR s1 ((k + 1 : Nat) : Int) 2).1 := by unfold endD; rw [if_neg hn012, if_pos w3]
     simp (maxSteps:=9^9) (disch:=omega) only [BX, ↓reduceIte, nE, reduceCtorEq, BM, q0, q3, q5, hv.idx hat, deF2, m_rem6, b0, b1, b2, b3]
     refine (abort_c hP _ qS4.nw.st ((k + 1 : Nat) : Int) (by omega) (by omega)).mono ?_
     rintro _ W5 ⟨rfl, hS5, hF5⟩
     simp (maxSteps:=9^9) (disch:=omega) only [BS, ↓reduceIte, nE, reduceCtorEq, q0, q3, q4, q5]
     exact ⟨tt, tt, tt, tt, tt, tt, by rw [hen]; exact qS4.fr hS5 hF5, by have := hF5.nx; omega⟩
    have b3 : (d.how.tmod 6 == 3) = false := by simp [w3]
    by_cases w4 : d.how.tmod 6 = 4
    ·have b4 : (d.how.tmod 6 == 4) = true := by simp [w4]
     have hen : endD s1 ((k + 1 : Nat) : Int) d = (endR s1 ((k + 1 : Nat) : Int) 3).1 := by unfold endD; rw [if_neg hn012, if_neg w3, if_pos w4]
     simp (maxSteps:=9^9) (disch:=omega) only [BX, ↓reduceIte, nE, reduceCtorEq, BM, q0, q3, q5, hv.idx hat, deF2, m_rem6, b0, b1, b2, b3, b4]
     refine (info_c hP _ qS4.nw.st ((k + 1 : Nat) : Int) (by omega) (by omega)).mono ?_
     rintro _ W5 ⟨rfl, hS5, hF5⟩
     simp (maxSteps:=9^9) (disch:=omega) only [BS, ↓reduceIte, nE, reduceCtorEq, q0, q3, q4, q5]
     exact ⟨tt, tt, tt, tt, tt, tt, by rw [hen]; exact qS4.fr hS5 hF5, by have := hF5.nx; omega⟩
    have b4 : (d.how.tmod 6 == 4) = false := by simp [w4]
    have hen : endD s1 ((k + 1 : Nat) : Int) d = s1 := by unfold endD; rw [if_neg hn012, if_neg w3, if_neg w4]
    simp (maxSteps:=9^9) (disch:=omega) only [BX, ↓reduceIte, nE, reduceCtorEq, BM, q0, q3, q4, q5, hv.idx hat, deF2, m_rem6, b0, b1, b2, b3, b4]
    exact ⟨tt, tt, tt, tt, tt, tt, by rw [hen]; exact qS4, by omega⟩
  ·rw [if_pos he] at hst
   have he' : ((beginR s 0 ((k + 1 : Nat) : Int) d.ml).2 != 0) = true := bne_iff_ne.2 he
   simp (maxSteps:=9^9) (disch:=omega) only [BS, cond_if, ↓reduceIte, nE, reduceCtorEq, he', q0, q3, q4, q5, wadd1]
   exact ⟨k + 1, ⟨tt, tt, tt, tt, hk, by rw [hst]; exact qS4, by omega⟩, by omega, by omega⟩
 ·obtain rfl : k = l.length := by omega
  rw [tkl] at qS
  simp (maxSteps:=9^9) (disch:=omega) only [BX, ↓reduceIte, nE, reduceCtorEq, c_told30_0, q0, q3, q4, q5, hv.len, lmp, clt, hk, dF]
  have hn := qS.nw.ex.nx
  refine (build_c hP _ qS.nw.st qS.od).mono ?_
  rintro _ W4 ⟨g, m, h, rfl, hG, hE4⟩
  simp (maxSteps:=9^9) (disch:=omega) only [BS, BC, ↓reduceIte, ]
  exact ⟨_, rfl, _, _, .weak weak_id, by have := hE4.nx; omega, g, m, h, rfl, hG.low hn, qS.nw.st.ok, qS.nw.ex.trans hE4⟩
def c_text30 : AC := (.r [.v 4 (.str ⟨#[]⟩)] (.r [.m 8 0,.u 9 (.call 10) 8,.m 10 1,.b 11 (.call 12) 9 10,.m 7 11,.u 12 (.ext 0) 7,.u 13 (.ext 1) 7,.p 5 (.alloc [.nilsl,.nilsl]) [],⟨none,.store 2, [.t 5,.t 12], none⟩,.m 6 13] (.seq (.r [.m 14 6,.u 15 (.un .not) 14] (.cond (.t 15) (.r [.v 4 (.str ⟨#[110, 111, 110, 101]⟩)] .ret) .skip)) (.r [.u 16 (.load true 2) 5,.u 17 (.call 21) 16,.m 4 17] .ret))))
theorem ok_text30e : compF Tryz.prog Tryz.f18 ⟨false, false, []⟩ = some (c_text30, [.tmp 4], 18) := by kernel_rfl
def zipN (ids ks : List Int) : List (Nat × Nat) := (ids.map Int.toNat).zip (ks.map Int.toNat)
def lineR (p : List Int × List Int) : List UInt8 := bitsR (zipN p.1 p.2) ++ Lib.decDigits (((zipN p.1 p.2).head?.getD (0, 0)).1)
def textR (r : Option (List Int × List Int)) : V := .str ⟨(match r with | none => [110, 111, 110, 101] | some p => lineR p).toArray⟩
structure Cy (p : List Int × List Int) : Prop where
 eq : p.1.length = p.2.length
 pos : 0 < p.1.length
 lt : p.1.length < 2 ^ 20
 ids : ∀ x ∈ p.1, 0 ≤ x ∧ x < 100
 ks : ∀ x ∈ p.2, 0 ≤ x ∧ x < 256
theorem Cy.one {p : List Int × List Int} (h : Cy p) : (zipN p.1 p.2).map (fun q => (q.1 : Int)) = p.1 := by
 have : (zipN p.1 p.2).map (fun q => (q.1 : Int)) = ((zipN p.1 p.2).map Prod.fst).map fun (n : Nat) => (n : Int) := by simp
 rw [this, zipN, List.map_fst_zip (by simp [h.eq]), List.map_map]
 exact (List.map_congr_left fun x hx => by have := h.ids x hx; simp; omega).trans (List.map_id _)
theorem Cy.two {p : List Int × List Int} (h : Cy p) : (zipN p.1 p.2).map (fun q => (q.2 : Int)) = p.2 := by
 have : (zipN p.1 p.2).map (fun q => (q.2 : Int)) = ((zipN p.1 p.2).map Prod.snd).map fun (n : Nat) => (n : Int) := by simp
 rw [this, zipN, List.map_snd_zip (by simp [h.eq]), List.map_map]
 exact (List.map_congr_left fun x hx => by have := h.ks x hx; simp; omega).trans (List.map_id _)
theorem Cy.len {p : List Int × List Int} (h : Cy p) : (zipN p.1 p.2).length = p.1.length := by simp [zipN, h.eq]
theorem Cy.text (hP : PE E) (hd : E.w0.drawn = 0) (W : AW) {v1 v2 : V} {p : List Int × List Int} (h : Cy p) (h1 : isS 1 v1 (intsV p.1)) (h2 : isS 1 v2 (u8s p.2)) :
  ACalls E 21 [.agg [v1, v2]] W fun Y W' => Y = textR (some p) ∧ W' = W := by
 refine cText_c hP hd W (by rw [h.one]; exact h1) (by rw [h.two]; exact h2) (by rw [h.len]; exact h.pos) (by rw [h.len]; exact h.lt) ?_ ?_
 ·intro q hq
  have : (q.1 : Int) ∈ (zipN p.1 p.2).map (fun q => (q.1 : Int)) := List.mem_map.2 ⟨q, hq, rfl⟩
  rw [h.one] at this
  have := h.ids _ this
  omega
 ·intro q hq
  have : (q.2 : Int) ∈ (zipN p.1 p.2).map (fun q => (q.2 : Int)) := List.mem_map.2 ⟨q, hq, rfl⟩
  rw [h.two] at this
  have := h.ks _ this
  omega
theorem text30_c (hP : PE E) (hd0 : E.w0.drawn = 0) (W : AW) {v : V} {l : List De} (hv : isS 3 v (l.map De.V)) (hd : ∀ d ∈ l, d.ok ∧ d.small) (hl : l.length < 60000) (k : Int) {r : Option (List Int × List Int)}
  (hr : shortR (edL (buildP (toldR l).1 (toldR l).2)) (nodesR (toldR l).1) k = r) (he : (edL (buildP (toldR l).1 (toldR l).2)).length < 2 ^ 30) (hN : ∀ x ∈ nodesR (toldR l).1, 0 ≤ x ∧ x < 65536) (hc : ∀ p, r = some p → Cy p) :
  ACalls E 18 [v, .int .u8 k] W fun Y W' => Y = textR r ∧ W' = W := by
 refine ACalls.of hP Tryz.func18 ok_text30e (by simp) fun _ hok => ?_
 refine awp_start hok ?_
 simp (maxSteps:=9^9) (disch:=omega) only [BZ, ↓reduceIte, reduceCtorEq, c_text30, hv.frz]
 refine (told_c hP _ hv hd hl).mono ?_
 rintro _ W1 ⟨g, m, h, rfl, hG, _, hE⟩
 rw [← X_start hok] at hE
 simp (maxSteps:=9^9) (disch:=omega) only [BS, BC, ↓reduceIte, nE, ]
 refine (cshort_c hP _ hG hN he k).mono ?_
 rintro _ W2 ⟨v1, v2, rfl, i1, i2, rfl⟩
 rw [hr] at i1 i2 ⊢
 rw [hE.cl.start]
 have n1 := hE.nx
 cases r with
 | none =>
  simp (maxSteps:=9^9) (disch:=omega) only [BX, ↓reduceIte, nE, BM, BD, nA, nL, nT, Option.isSome_none, i1.one, i2.one, V.cells]
  exact ⟨_, rfl, _, W, .weak (weak_back hok rfl hE.X.get), lr _, rfl, rfl⟩
 | some p =>
  simp (maxSteps:=9^9) (disch:=omega) only [BX, ↓reduceIte, nE, BM, BD, nA, nL, nT, Option.isSome_some, i1.one, i2.one, V.cells]
  refine (Cy.text hP hd0 _ (hc p rfl) i1 i2).mono ?_
  rintro _ W3 ⟨rfl, rfl⟩
  simp (maxSteps:=9^9) (disch:=omega) only [BS, BC, ↓reduceIte, textR]
  exact ⟨_, rfl, _, W, .weak (weak_back hok rfl hE.X.get), lr _, rfl, rfl⟩
def c_twoWW : AC := (.r [.v 0 (.nilsl)] (.r [.p 1 (.call 17) [.c (.int .u8 0),.c (.int .u16 1)],.p 2 (.call 17) [.c (.int .u8 1),.c (.int .u16 2)],.b 3 (.bslice 3 2 (.agg [.bool false,.int .u8 0,.int .u16 0]) [0, 1]) 1 2,.u 4 (.build [.nilsl,.nilsl,.int .u8 0] [(0, 1)]) 3,.p 5 (.call 17) [.c (.int .u8 0),.c (.int .u16 3)],.p 6 (.call 17) [.c (.int .u8 1),.c (.int .u16 4)],.b 7 (.bslice 3 2 (.agg [.bool false,.int .u8 0,.int .u16 0]) [0, 1]) 5 6,.u 8 (.build [.nilsl,.nilsl,.int .u8 0] [(0, 1)]) 7,.p 9 (.call 16) [.c (.int .u8 0)],.p 10 (.call 16) [.c (.int .u8 1)],.b 11 (.bslice 3 2 (.agg [.bool false,.int .u8 0,.int .u16 0]) [0, 1]) 9 10,.p 12 (.bslice 1 2 (.int .u16 0) [0, 1]) [.c (.int .u16 1),.c (.int .u16 3)],.p 13 (.bslice 1 2 (.int .u16 0) [0, 1]) [.c (.int .u16 4),.c (.int .u16 2)],.b 14 (.bslice 1 2 (.nilsl) [0, 1]) 12 13,.b 15 (.build [.nilsl,.nilsl,.int .u8 0] [(0, 1), (1, 1)]) 11 14,.p 16 (.bslice 3 3 (.agg [.nilsl,.nilsl,.int .u8 0]) [0, 1, 2]) [.t 4,.t 8,.t 15],.m 0 16] .ret))
theorem ok_twoWWe : compF Tryz.prog Tryz.f19 ⟨false, false, []⟩ = some (c_twoWW, [.tmp 0], 17) := by kernel_rfl
def c_put30 : AC := (.r [.p 4 (.alloc [.bool false,.int .u8 0,.int .u16 0]) []] (.r [.m 5 0,.m 6 1,.b 7 (.build [.bool false,.int .u8 0,.int .u16 0] [(1, 1), (2, 1)]) 5 6,⟨none,.store 3, [.t 4,.t 7], none⟩] .ret))
theorem ok_put30e : compF Tryz.prog Tryz.f17 ⟨false, false, []⟩ = some (c_put30, [.cell 4 true 3], 8) := by kernel_rfl
def c_get30 : AC := (.r [.p 2 (.alloc [.bool false,.int .u8 0,.int .u16 0]) []] (.r [.m 3 0,.p 4 (.build [.bool false,.int .u8 0,.int .u16 0] [(0, 1), (1, 1)]) [.T,.t 3],⟨none,.store 3, [.t 2,.t 4], none⟩] .ret))
theorem ok_get30e : compF Tryz.prog Tryz.f16 ⟨false, false, []⟩ = some (c_get30, [.cell 2 true 3], 5) := by kernel_rfl
theorem put30_c (hP : PE E) (W : AW) (k n : Int) : ACalls E 17 [.int .u8 k, .int .u16 n] W fun Y W' => Y = .agg [.bool false, .int .u8 k, .int .u16 n] ∧ W' = W := by
 refine ACalls.of hP Tryz.func17 ok_put30e (by simp) fun _ hok => ?_
 refine awp_start hok ?_
 simp (maxSteps:=9^9) (disch:=omega) only [BZ, ↓reduceIte, nE, reduceCtorEq, BM, BD, nA, nL, nT, c_put30]
 exact ⟨_, rfl, _, W, .weak (weak_back hok rfl fun y hy => by rw [X_old (by omega)]), lr _, rfl, rfl⟩
theorem get30_c (hP : PE E) (W : AW) (k : Int) : ACalls E 16 [.int .u8 k] W fun Y W' => Y = .agg [.bool true, .int .u8 k, .int .u16 0] ∧ W' = W := by
 refine ACalls.of hP Tryz.func16 ok_get30e (by simp) fun _ hok => ?_
 refine awp_start hok ?_
 simp (maxSteps:=9^9) (disch:=omega) only [BZ, ↓reduceIte, nE, reduceCtorEq, BM, BD, nA, nL, nT, c_get30]
 exact ⟨_, rfl, _, W, .weak (weak_back hok rfl fun y hy => by rw [X_old (by omega)]), lr _, rfl, rfl⟩
def mi (r : Bool) (k n : Int) : V := .agg [.bool r, .int .u8 k, .int .u16 n]
theorem bMi {W : AW} {K : V → AW → Prop} {r r' : Bool} {k n k' n' : Int} : sem E (.bslice 3 2 (.agg [.bool false, .int .u8 0, .int .u16 0]) [0, 1]) [.agg [.bool r, .int .u8 k, .int .u16 n], .agg [.bool r', .int .u8 k', .int .u16 n']] W K = K (.sl 3 true [mi r k n, mi r' k' n']) W := id rfl
theorem bU2 {W : AW} {K : V → AW → Prop} {a b : Int} : sem E (.bslice 1 2 (.int .u16 0) [0, 1]) [.int .u16 a, .int .u16 b] W K = K (.sl 1 true [.int .u16 a, .int .u16 b]) W := id rfl
theorem bL2 {W : AW} {K : V → AW → Prop} {a b : List V} : sem E (.bslice 1 2 .nilsl [0, 1]) [.sl 1 true a, .sl 1 true b] W K = K (.sl 1 true [.sl 1 true a, .sl 1 true b]) W := id rfl
def elT (l : List Int) : V := .sl 1 true (intsV l)
def twoD : List De := [⟨.sl 3 true [mi false 0 1, mi false 1 2], [⟨false, 0, 1⟩, ⟨false, 1, 2⟩], .nilsl, [], 0⟩, ⟨.sl 3 true [mi false 0 3, mi false 1 4], [⟨false, 0, 3⟩, ⟨false, 1, 4⟩], .nilsl, [], 0⟩,
 ⟨.sl 3 true [mi true 0 0, mi true 1 0], [⟨true, 0, 0⟩, ⟨true, 1, 0⟩], .sl 1 true [elT [1, 3], elT [4, 2]], [some [1, 3], some [4, 2]], 0⟩]
theorem twoWW_c (hP : PE E) (W : AW) : ACalls E 19 [] W fun Y W' => Y = .sl 3 true (twoD.map De.V) ∧ W' = W := by
 refine ACalls.of hP Tryz.func19 ok_twoWWe (by simp) fun _ hok => ?_
 refine awp_start hok ?_
 simp (maxSteps:=9^9) (disch:=omega) only [BZ, c_twoWW]
 refine pc (put30_c hP _ 0 1) ?_
 simp (maxSteps:=9^9) (disch:=omega) only [BS, BC, ]
 refine pc (put30_c hP _ 1 2) ?_
 simp (maxSteps:=9^9) (disch:=omega) only [BS, BC, ↓reduceIte, nE, BM, BD, nA, nL, bMi]
 refine pc (put30_c hP _ 0 3) ?_
 simp (maxSteps:=9^9) (disch:=omega) only [BS, BC, ]
 refine pc (put30_c hP _ 1 4) ?_
 simp (maxSteps:=9^9) (disch:=omega) only [BS, BC, ↓reduceIte, nE, BM, BD, nA, nL, bMi]
 refine pc (get30_c hP _ 0) ?_
 simp (maxSteps:=9^9) (disch:=omega) only [BS, BC, ]
 refine pc (get30_c hP _ 1) ?_
 simp (maxSteps:=9^9) (disch:=omega) only [BS, ↓reduceIte, nE, BM, BD, nA, nL, bMi, bU2, bL2]
 exact ⟨_, rfl, _, W, .weak (weak_back hok rfl fun y hy => by rw [X_old (by omega)]), lr _, rfl, rfl⟩
def c_works : AC := (.r [.v 0 (.bool false)] (.r [.p 1 (.call 19) [],.p 2 (.call 18) [.t 1,.c (.int .u8 1)],.p 3 (.bin .eql) [.t 2,.c (.str ⟨#[49, 32, 45, 119, 119, 45, 62, 32, 50, 32, 45, 119, 119, 45, 62, 32, 49]⟩)],.m 4 3,.P 5 (.call 19) [] 4 true,.P 6 (.call 18) [.t 5,.c (.int .u8 16)] 4 true,.P 7 (.bin .eql) [.t 6,.c (.str ⟨#[110, 111, 110, 101]⟩)] 4 true,.p 8 .pick [.t 4,.t 7,.F],.m 9 8,.P 10 (.bslice 1 2 (.int .u16 0) [0, 1]) [.c (.int .u16 3),.c (.int .u16 5)] 9 true,.P 11 (.bslice 1 2 (.int .u8 0) [0, 1]) [.c (.int .u8 0),.c (.int .u8 2)] 9 true,.B 12 (.build [.nilsl,.nilsl] [(0, 1), (1, 1)]) 10 11 9 true,.U 13 (.call 21) 12 9 true,.P 14 (.bin .eql) [.t 13,.c (.str ⟨#[51, 32, 45, 119, 119, 45, 62, 32, 53, 32, 45, 114, 119, 45, 62, 32, 51]⟩)] 9 true,.p 15 .pick [.t 9,.t 14,.F],.m 0 15] .ret))
theorem ok_workse : compF Tryz.prog Tryz.f9 ⟨false, false, []⟩ = some (c_works, [.tmp 0], 16) := by kernel_rfl
def shortD (l : List De) (k : Int) : Option (List Int × List Int) := shortR (edL (buildP (toldR l).1 (toldR l).2)) (nodesR (toldR l).1) k
def elO : Option (List Int) → V
 | none => .nilsl
 | some l => elT l
def deP (ms : List Mi) : De := ⟨.sl 3 true (ms.map Mi.V), ms, .nilsl, [], 0⟩
def deR (ms : List Mi) (rs : List (Option (List Int))) : De := ⟨.sl 3 true (ms.map Mi.V), ms, .sl 1 true (rs.map elO), rs, 0⟩
theorem elO_isEl (o : Option (List Int)) : isEl (elO o) o := by
 cases o with
 | none => exact .inl ⟨rfl, rfl⟩
 | some l => exact .inr (.inr ⟨_, l, rfl, rfl⟩)
theorem belO (rs : List (Option (List Int))) (n : Nat) : V.belL n (rs.map elO) = true := by
 induction rs with
 | nil => rfl
 | cons x l ih =>
  simp only [mcs, V.belL, Bool.and_eq_true]
  refine ⟨?_, ih⟩
  cases x with
  | none => rfl
  | some l => exact belL_ints l n
theorem deP_ok {ms : List Mi} (h : ∀ m ∈ ms, m.ok) (hl : ms.length < 2 ^ 30) : (deP ms).ok ∧ (deP ms).small :=
 ⟨⟨.mk, h, ⟨[], .inl ⟨rfl, rfl⟩, rfl, fun k h => absurd h (by simp)⟩, (fun o ho => absurd ho (by simp [deP])), rfl, ⟨by simp [deP], by simp [deP]⟩⟩, hl, by simp [deP], fun o ho => absurd ho (by simp [deP])⟩
theorem deR_ok {ms : List Mi} {rs : List (Option (List Int))} (h : ∀ m ∈ ms, m.ok) (hl : ms.length < 2 ^ 30) (hr : ∀ o ∈ rs, (nums o).length < 2 ^ 30 ∧ ∀ n ∈ nums o, 0 ≤ n ∧ n < 65536) (hq : rs.length < 2 ^ 30) : (deR ms rs).ok ∧ (deR ms rs).small :=
 ⟨⟨.mk, h, ⟨_, .mk, by simp [deR], fun k h h' => by rw [List.getElem_map]; exact elO_isEl _⟩, fun o ho => (hr o ho).2, belO rs 0, ⟨by simp [deR], by simp [deR]⟩⟩, hl, hq, fun o ho => (hr o ho).1⟩
theorem twoD_eq : twoD = [deP [⟨false, 0, 1⟩, ⟨false, 1, 2⟩], deP [⟨false, 0, 3⟩, ⟨false, 1, 4⟩], deR [⟨true, 0, 0⟩, ⟨true, 1, 0⟩] [some [1, 3], some [4, 2]]] := rfl
theorem twoD_ok : ∀ d ∈ twoD, d.ok ∧ d.small := by
 rw [twoD_eq]
 simp only [List.forall_mem_cons, List.not_mem_nil, false_implies, implies_true, and_true]
 refine ⟨deP_ok (by simp [Mi.ok]) (by decide), deP_ok (by simp [Mi.ok]) (by decide), deR_ok (by simp [Mi.ok]) (by decide) (by simp [nums]) (by decide)⟩
structure Cl5 (l : List De) (k : Int) (r : Option (List Int × List Int)) : Prop where
 r : shortD l k = r
 e : (edL (buildP (toldR l).1 (toldR l).2)).length < 2 ^ 30
 n : ∀ x ∈ nodesR (toldR l).1, 0 ≤ x ∧ x < 65536
theorem text_k (hP : PE E) (hd0 : E.w0.drawn = 0) (W : AW) {v : V} {l : List De} (hv : isS 3 v (l.map De.V)) (hd : ∀ d ∈ l, d.ok ∧ d.small) (hl : l.length < 60000) {k : Int} {r : Option (List Int × List Int)} {s : ByteArray} (h : Cl5 l k r) (hc : ∀ p, r = some p → Cy p) (hs : textR r = .str s) :
  ACalls E 18 [v, .int .u8 k] W fun Y W' => Y = .str s ∧ W' = W := by
 rw [← hs]
 exact text30_c hP hd0 W hv hd hl k h.r h.e h.n hc
theorem cl5_of {l : List De} {k : Int} {r : Option (List Int × List Int)} {e : Nat} {n : List Int} (h : (shortD l k, (edL (buildP (toldR l).1 (toldR l).2)).length, nodesR (toldR l).1) = (r, e, n)) (he : e < 2 ^ 30) (hn : ∀ x ∈ n, 0 ≤ x ∧ x < 65536) : Cl5 l k r := by
 injection h with h1 h
 injection h with h2 h3
 exact ⟨h1, by rw [h2]; exact he, by rw [h3]; exact hn⟩
theorem cy2 {a b c d : Int} (ha : 0 ≤ a ∧ a < 100) (hb : 0 ≤ b ∧ b < 100) (hc : 0 ≤ c ∧ c < 256) (hd : 0 ≤ d ∧ d < 256) : ∀ p, some ([a, b], [c, d]) = some p → Cy p := by
 rintro _ ⟨⟩
 exact ⟨rfl, by simp, by simp, by simp [ha, hb], by simp [hc, hd]⟩
theorem two1 : Cl5 twoD 1 (some ([1, 2], [0, 0])) := cl5_of (e := 4) (n := [1, 2, 3]) (by kernel_rfl) (by decide) (by simp)
theorem two16 : Cl5 twoD 16 none := cl5_of (e := 4) (n := [1, 2, 3]) (by kernel_rfl) (by decide) (by simp)
def tWW : ByteArray := ⟨#[49, 32, 45, 119, 119, 45, 62, 32, 50, 32, 45, 119, 119, 45, 62, 32, 49]⟩
def tNo : ByteArray := ⟨#[110, 111, 110, 101]⟩
theorem tWW_eq : textR (some ([1, 2], [0, 0])) = .str tWW := by kernel_rfl
theorem tNo_eq : textR none = .str tNo := rfl
theorem eqSS {W : AW} {K : V → AW → Prop} {a b : ByteArray} (h : a = b) : sem E (.bin .eql) [.str a, .str b] W K = K (.bool true) W := by
 subst h
 simp [sem, rsem, tsem, binS]
def tPl : ByteArray := ⟨#[51, 32, 45, 119, 119, 45, 62, 32, 53, 32, 45, 114, 119, 45, 62, 32, 51]⟩
theorem tPl_eq : textR (some ([3, 5], [0, 2])) = .str tPl := by kernel_rfl
theorem cText2 (hP : PE E) (hd0 : E.w0.drawn = 0) (W : AW) {a b c d : Int} (ha : 0 ≤ a ∧ a < 100) (hb : 0 ≤ b ∧ b < 100) (hc : 0 ≤ c ∧ c < 256) (hd : 0 ≤ d ∧ d < 256) {s : ByteArray} (hs : textR (some ([a, b], [c, d])) = .str s) :
  ACalls E 21 [.agg [.sl 1 true [.int .u16 a, .int .u16 b], .sl 1 true [.int .u8 c, .int .u8 d]]] W fun Y W' => Y = .str s ∧ W' = W := by
 rw [← hs]
 exact Cy.text hP hd0 W (cy2 ha hb hc hd _ rfl) .mk .mk
theorem bK2 {W : AW} {K : V → AW → Prop} {a b : Int} : sem E (.bslice 1 2 (.int .u8 0) [0, 1]) [.int .u8 a, .int .u8 b] W K = K (.sl 1 true [.int .u8 a, .int .u8 b]) W := id rfl
theorem eqWW {W : AW} {K : V → AW → Prop} : sem E (.bin .eql) [.str tWW, .str ⟨#[49, 32, 45, 119, 119, 45, 62, 32, 50, 32, 45, 119, 119, 45, 62, 32, 49]⟩] W K = K (.bool true) W := eqSS rfl
theorem eqNo {W : AW} {K : V → AW → Prop} : sem E (.bin .eql) [.str tNo, .str ⟨#[110, 111, 110, 101]⟩] W K = K (.bool true) W := eqSS rfl
theorem eqPl {W : AW} {K : V → AW → Prop} : sem E (.bin .eql) [.str tPl, .str ⟨#[51, 32, 45, 119, 119, 45, 62, 32, 53, 32, 45, 114, 119, 45, 62, 32, 51]⟩] W K = K (.bool true) W := eqSS rfl
theorem works_c (hP : PE E) (hd0 : E.w0.drawn = 0) (W : AW) : ACalls E 9 [] W fun Y W' => Y = .bool true ∧ W' = W := by
 refine ACalls.of hP Tryz.func9 ok_workse (by simp) fun _ hok => ?_
 refine awp_start hok ?_
 simp (maxSteps:=9^9) (disch:=omega) only [BZ, c_works]
 refine pc (twoWW_c hP _) ?_
 simp (maxSteps:=9^9) (disch:=omega) only [BS, BC, ↓reduceIte, ]
 refine pc (text_k hP hd0 _ .mk twoD_ok (by decide) two1 (cy2 (by decide) (by decide) (by decide) (by decide)) tWW_eq) ?_
 simp (maxSteps:=9^9) (disch:=omega) only [BS, ↓reduceIte, eqWW]
 rw [guard_if]
 simp (maxSteps:=9^9) (disch:=omega) only [BS, BC, ↓reduceIte, ]
 refine pc (twoWW_c hP _) ?_
 simp (maxSteps:=9^9) (disch:=omega) only [BS, ]
 rw [guard_if]
 simp (maxSteps:=9^9) (disch:=omega) only [BS, BC, ↓reduceIte, nE, ]
 refine pc (text_k hP hd0 _ .mk twoD_ok (by decide) two16 (fun p h => by cases h) tNo_eq) ?_
 simp (maxSteps:=9^9) (disch:=omega) only [BS, ]
 rw [guard_if]
 simp (maxSteps:=9^9) (disch:=omega) only [BS, ↓reduceIte, nE, eqNo]
 rw [guard_if]
 simp (maxSteps:=9^9) (disch:=omega) only [BS, ↓reduceIte, bU2]
 rw [guard_if]
 simp (maxSteps:=9^9) (disch:=omega) only [BS, ↓reduceIte, nE, bK2]
 rw [guard_if]
 simp (maxSteps:=9^9) (disch:=omega) only [BS, ↓reduceIte, nE, BM, BD, nA, nL]
 rw [guard_if]
 simp (maxSteps:=9^9) (disch:=omega) only [BS, BC, ↓reduceIte, nE, ]
 refine pc (cText2 hP hd0 _ (by decide) (by decide) (by decide) (by decide) tPl_eq) ?_
 simp (maxSteps:=9^9) (disch:=omega) only [BS, ]
 rw [guard_if]
 simp (maxSteps:=9^9) (disch:=omega) only [BS, BC, ↓reduceIte, nE, eqPl]
 exact ⟨_, rfl, _, W, .weak (weak_back hok rfl fun y hy => by rw [X_old (by omega)]), lr _, rfl, rfl⟩
def c_hasG : AC := (.r [.u 3 .box 1,.v 4 (.bool false)] (.seq (.par (.step 0 (.m 5 0) (.step 1 (.p 6 (.eqn true 0) [.t 5,.c (.nilptr)]) (.step 2 (.m 7 6) (.step 3 (.M 8 0 7 true) (.step 4 (.U 9 .nilck 8 7 true) (.step 5 (.U 10 (.fld 1) 9 7 true) (.step 6 (.U 11 (.load false 1) 10 7 true) (.step 7 (.U 12 (.load true 3) 3 7 true) (.step 8 (.B 13 (.lookup (true, [.i .u16,.i .u16,.i .u8]) (.int .i64 0) false) 11 12 7 true) (.step 9 (.P 14 (.bin .gtr) [.t 13,.i 0] 7 true) (.step 10 (.p 15 .pick [.t 7,.t 14,.F]) (.step 11 (.m 4 15) .done))))))))))))) .ret))
theorem ok_hasGe : compF Tryz.prog Tryz.f52 ⟨false, false, []⟩ = some (c_hasG, [.tmp 4], 16) := by kernel_rfl
theorem hasG_x (hP : PE E) (W : AW) {g m : Nat} {h : V} {P : List Ek} (hg : W.get g = some (.row [h, .map m])) (hm : W.get m = some (gmap P)) (hgl : g < W.nx) (hml : m < W.nx) (hpk : ∀ x ∈ P, ekOk x) (e : Ed) (he : ekOk (ofEd e)) : ACalls E 52 [.ptr g 0, e.V] W fun Y W' => Y = .bool (decide (ofEd e ∈ P)) ∧ W' = W := by
 refine ACalls.of hP Tryz.func52 ok_hasGe (by simp) fun _ hok => ?_
 refine awp_start hok ?_
 have hgr : ∀ l, (X W W.nx l).get g = some (.row [h, .map m]) := fun l => by rw [X_old hgl]; exact hg
 have hmr : ∀ l, (X W W.nx l).get m = some (gmap P) := fun l => by rw [X_old hml]; exact hm
 have hks := g_keys (tally_ok hpk) he 0
 have hlk : ∀ l K, sem E (.lookup shE (.int .i64 0) false) [.map m, .agg [.int .u16 e.fr, .int .u16 e.to, .int .u8 e.kd]] (X W W.nx l) K = K (.int .i64 ((getE (tally P) (ofEd e)).getD 0)) (X W W.nx l) := fun l K => by
  rw [show V.agg [.int .u16 e.fr, .int .u16 e.to, .int .u8 e.kd] = ekV (ofEd e) from rfl, m_lookup (hmr l) hks, lookK_g]
 have hv : decide ((getE (tally P) (ofEd e)).getD 0 > 0) = decide (ofEd e ∈ P) := by
  rw [tally_get]
  by_cases hmm : ofEd e ∈ P
  ·rw [if_pos hmm, Option.getD_some, decide_eq_true hmm, decide_eq_true (by have := List.count_pos_iff.2 hmm; omega)]
  ·rw [if_neg hmm, Option.getD_none, decide_eq_false hmm]; rfl
 simp (maxSteps:=9^9) (disch:=omega) only [BZ, ↓reduceIte, reduceCtorEq, BM, BD, c_hasG, Ed.V]
 repeat (rw [guard_if]; simp (maxSteps:=9^9) (disch:=omega) only [BS, BC, ↓reduceIte, nE, reduceCtorEq, BM, BD, nA, nL, hg, hlk, hv])
 exact ⟨_, rfl, _, W, backX hok rfl, lr _, rfl, rfl⟩
def c_cIs_0 : AC := (.r [.b 63 (.bin .lss) 62 61] (.seq (.w 63 0) (.seq (.block 1 (.r [.m 64 62,.b 65 (.idxp 1) 60 62,.u 66 (.load false 1) 65,.m 10 64,.m 11 66] (.seq (.par (.step 0 (.u 67 (.fld 0) 5) (.step 2 (.m 69 10) (.step 4 (.m 71 11) (.step 1 (.u 68 (.load false 1) 67) (.step 3 (.b 70 (.slc 1 false true false) 68 69) (.step 5 (.b 72 (.call 51) 70 71) (.step 6 (.m 73 72) (.step 7 (.M 74 0 73 false) (.step 8 (.M 75 11 73 false) (.step 9 (.U 76 (.fld 0) 5 73 false) (.step 11 (.M 78 10 73 false) (.step 12 (.P 79 (.bin .add) [.t 78,.i 1] 73 false) (.step 13 (.M 80 9 73 false) (.step 14 (.B 81 (.bin .rem) 79 80 73 false) (.step 17 (.U 84 (.fld 1) 5 73 false) (.step 19 (.M 86 10 73 false) (.step 10 (.U 77 (.load false 1) 76 73 false) (.step 15 (.B 82 (.idxp 1) 77 81 73 false) (.step 16 (.U 83 (.load false 1) 82 73 false) (.step 18 (.U 85 (.load false 1) 84 73 false) (.step 20 (.B 87 (.idxp 1) 85 86 73 false) (.step 21 (.U 88 (.load false 1) 87 73 false) (.step 22 (.P 89 (.build [.int .u16 0,.int .u16 0,.int .u8 0] [(0, 1), (1, 1), (2, 1)]) [.t 75,.t 83,.t 88] 73 false) (.step 23 (.B 90 (.call 52) 74 89 73 false) (.step 24 (.U 91 (.un .not) 90 73 false) (.step 25 (.p 92 .pick [.t 73,.T,.t 91]) .done))))))))))))))))))))))))))) (.cond (.t 92) (.r [.v 6 (.bool false)] .ret) .skip)))) (.reg [.a 93 (.bin .add) 62 1,.m 62 93]))))
def c_cIs : AC := (.r [.u 5 .box 2,.v 6 (.bool false)] (.r [.m 13 1,.u 14 (.call 40) 13,.m 12 14,.u 15 (.ext 0) 12,.u 16 (.ext 1) 12,.p 7 (.alloc [.int .u8 0]) [],⟨none,.store 1, [.t 7,.t 15], none⟩,.m 8 16] (.r [.u 17 (.fld 0) 5,.u 18 (.load false 1) 17,.u 19 (.len 1 0) 18,.m 9 19] (.seq (.seq (.par (.step 0 (.m 20 8) (.step 1 (.u 21 (.un .not) 20) (.step 2 (.m 22 21) (.step 3 (.M 23 9 22 false) (.step 4 (.P 24 (.bin .lss) [.t 23,.i 2] 22 false) (.step 5 (.p 25 .pick [.t 22,.T,.t 24]) (.step 6 (.m 26 25) (.step 7 (.U 27 (.fld 1) 5 26 false) (.step 10 (.M 30 9 26 false) (.step 8 (.U 28 (.load false 1) 27 26 false) (.step 9 (.U 29 (.len 1 0) 28 26 false) (.step 11 (.B 31 (.bin .neq) 29 30 26 false) (.step 12 (.p 32 .pick [.t 26,.T,.t 31]) (.step 13 (.m 33 32) (.step 14 (.U 34 (.fld 1) 5 33 false) (.step 16 (.U 36 (.fld 0) 7 33 false) (.step 15 (.U 35 (.load false 1) 34 33 false) (.step 17 (.U 37 (.load false 1) 36 33 false) (.step 18 (.B 38 (.pcall 48) 35 37 33 false) (.step 19 (.U 39 (.un .not) 38 33 false) (.step 20 (.p 40 .pick [.t 33,.T,.t 39]) (.step 21 (.m 41 40) (.step 22 (.U 42 (.fld 1) 5 41 false) (.step 25 (.U 45 (.fld 0) 7 41 false) (.step 23 (.U 43 (.load false 1) 42 41 false) (.step 24 (.U 44 (.pcall 49) 43 41 false) (.step 26 (.U 46 (.load false 1) 45 41 false) (.step 27 (.B 47 (.bin .gtr) 44 46 41 false) (.step 28 (.p 48 .pick [.t 41,.T,.t 47]) (.step 29 (.m 49 48) (.step 30 (.U 50 (.fld 0) 5 49 false) (.step 33 (.U 53 (.fld 0) 5 49 false) (.step 31 (.U 51 (.load false 1) 50 49 false) (.step 32 (.U 52 (.pcall 50) 51 49 false) (.step 34 (.U 54 (.load false 1) 53 49 false) (.step 35 (.P 55 (.idxp 1) [.t 54,.i 0] 49 false) (.step 36 (.U 56 (.load false 1) 55 49 false) (.step 37 (.B 57 (.bin .neq) 52 56 49 false) (.step 38 (.p 58 .pick [.t 49,.T,.t 57]) .done)))))))))))))))))))))))))))))))))))))))) (.cond (.t 58) (.r [.v 6 (.bool false)] .ret) .skip)) (.seq (.r [.u 59 (.fld 0) 5,.u 60 (.load false 1) 59,.u 61 (.len 1 0) 60,.v 62 (.int .i64 0)] (.block 0 (.loop c_cIs_0))) (.r [.v 6 (.bool true)] .ret))))))
theorem ok_cIse : compF Tryz.prog Tryz.f20 ⟨false, false, []⟩ = some (c_cIs, [.tmp 6], 94) := by kernel_rfl
def isAt (f : Ed → Bool) (ids ks : List Int) (i : Nat) : Bool := !(ids.take i).any (fun x => decide (ids.getD i 0 = x)) && f ⟨ids.getD i 0, ids.getD ((i + 1) % ids.length) 0, ks.getD i 0⟩
def isGo (f : Ed → Bool) (ids ks : List Int) (n : Nat) : Bool := (List.range n).all (isAt f ids ks)
def isR (f : Ed → Bool) (k : Int) (ids ks : List Int) : Bool := match ownR k with
 | none => false
 | some own => decide (2 ≤ ids.length) && decide (ks.length = ids.length) && ks.any (fun x => decide (own = x)) && decide (maxR ks ≤ own) && decide (minR ids = ids.getD 0 0) && isGo f ids ks ids.length
theorem remQ {W : AW} {K : V → AW → Prop} {k : IntKind} {a b : Nat} (h : 0 < b) : sem E (.bin .rem) [.int k (a : Int), .int k (b : Int)] W K = K (.int k ((a % b : Nat) : Int)) W := by
 have : (b : Int) ≠ 0 := by omega
 have h2 : (b : Int) = 0 ↔ False := iff_false_intro this
 simp only [sem, rsem, tsem, if_true, binI, h2, if_false, Int.ofNat_tmod]
theorem isGo_succ (f : Ed → Bool) (ids ks : List Int) (i : Nat) : isGo f ids ks (i + 1) = (isGo f ids ks i && isAt f ids ks i) := by
 simp [isGo, List.range_succ, List.all_append]
theorem isGo_no {f : Ed → Bool} {ids ks : List Int} {i n : Nat} (h : isAt f ids ks i = false) (hn : i < n) : isGo f ids ks n = false := by
 cases hg : isGo f ids ks n with
 | false => rfl
 | true =>
  have := List.all_eq_true.1 hg i (List.mem_range.2 hn)
  rw [h] at this
  exact absurd this (by simp)
theorem ints_getD {l : List Int} {i : Nat} (h : i < l.length) : (intsV l)[i]? = some (.int .u16 (l.getD i 0)) := by
 rw [int_at h]; simp [List.getD, h]
theorem u8_getD {l : List Int} {i : Nat} (h : i < l.length) : (u8s l)[i]? = some (.int .u8 (l.getD i 0)) := by
 simp [u8s, List.getD, h]
theorem getD_in {l : List Int} {i : Nat} (h : i < l.length) : l.getD i 0 ∈ l := by
 simp [List.getD, h]
theorem cIs_c (hP : PE E) (W : AW) {gp v1 v2 : V} {ids ks : List Int} (f : Ed → Bool) (i1 : isS 1 v1 (intsV ids)) (i2 : isS 1 v2 (u8s ks)) (hi : ∀ x ∈ ids, 0 ≤ x ∧ x < 65536) (hk : ∀ x ∈ ks, 0 ≤ x ∧ x < 256) (hl : ids.length < 2 ^ 20) (_ : ks.length < 2 ^ 20) (k : Int)
  (_ : gp.cells = [gp]) (_ : gp.one = true) (hgf : ∀ W : AW, W.frz gp = gp) (hf : ∀ l e, ekOk (ofEd e) → ACalls E 52 [gp, e.V] (X W W.nx l) fun Y W' => Y = .bool (f e) ∧ W' = X W W.nx l) :
  ACalls E 20 [gp, .int .u8 k, .agg [v1, v2]] W fun Y W' => Y = .bool (isR f k ids ks) ∧ W' = W := by
 refine ACalls.of hP Tryz.func20 ok_cIse (by simp) fun _ hok => ?_
 refine awp_start hok ?_
 have fin : ∀ l b, b = isR f k ids ks → ∃ X0, some (V.bool b) = some X0 ∧ ∃ Y W', RetV X0 (X W W.nx l) Y W' ∧ W.nx ≤ W'.nx ∧ Y = .bool (isR f k ids ks) ∧ W' = W := fun l b hb => ⟨_, rfl, _, W, .weak (weak_back hok rfl fun y hy => by rw [X_old (by omega)]), lr _, by rw [hb], rfl⟩
 simp (maxSteps:=9^9) (disch:=omega) only [BZ, ↓reduceIte, nE, BM, BD, c_cIs]
 refine pc (cof_c hP _ k) ?_
 have hn1 : (intsV ids).length = ids.length := by simp [intsV]
 have hn2 : (u8s ks).length = ks.length := by simp [u8s]
 cases ho : ownR k with
 | none =>
  have hR : isR f k ids ks = false := by simp [isR, ho]
  simp (maxSteps:=9^9) (disch:=omega) only [BZ, ↓reduceIte, nE, BM, BD, nA, nL, nT, Option.isSome_none, Option.getD_none, i1.len, hn1]
  repeat (rw [guard_if]; simp (maxSteps:=9^9) (disch:=omega) only [BX, ↓reduceIte, nE, BM])
  exact fin _ _ hR.symm
 | some own =>
  simp (maxSteps:=9^9) (disch:=omega) only [BZ, ↓reduceIte, nE, BM, BD, nA, nL, nT, Option.isSome_some, Option.getD_some, i1.len, hn1]
  by_cases h2 : ids.length < 2
  ·have c2 : decide ((ids.length : Int) < 2) = true := by simp; omega
   have hR : isR f k ids ks = false := by simp [isR, ho]; intro h; omega
   repeat (rw [guard_if]; simp (maxSteps:=9^9) (disch:=omega) only [BX, ↓reduceIte, nE, BM, c2])
   exact fin _ _ hR.symm
  have c2 : decide ((ids.length : Int) < 2) = false := by simp; omega
  by_cases h3 : ks.length ≠ ids.length
  ·have c3 : ((ks.length : Int) != (ids.length : Int)) = true := by simp; omega
   have hR : isR f k ids ks = false := by simp [isR, ho, h3]
   repeat (rw [guard_if]; simp (maxSteps:=9^9) (disch:=omega) only [BX, ↓reduceIte, nE, BM, BD, i2.len, hn2, c2, c3])
   exact fin _ _ hR.symm
  have h3 : ks.length = ids.length := Decidable.not_not.1 h3
  have c3 : ((ks.length : Int) != (ids.length : Int)) = false := by simp; omega
  repeat (rw [guard_if]; simp (maxSteps:=9^9) (disch:=omega) only [BS, BC, ↓reduceIte, nE, BM, BD, i2.len, hn2, c2, c3])
  refine pcall_go (by simp only [mcs, List.map_nil, i2.frz]; rfl) (has8_c hP _ i2 (by omega) own) ?_
  cases h4 : ks.any (fun x => decide (own = x)) with
  | false =>
   have hR : isR f k ids ks = false := by simp only [isR, ho, h4, Bool.and_false, Bool.false_and]
   simp (maxSteps:=9^9) (disch:=omega) only [BS, ]
   repeat (rw [guard_if]; simp (maxSteps:=9^9) (disch:=omega) only [BX, ↓reduceIte, nE, BM, BD])
   exact fin _ _ hR.symm
  | true =>
  simp (maxSteps:=9^9) (disch:=omega) only [BS, ]
  repeat (rw [guard_if]; simp (maxSteps:=9^9) (disch:=omega) only [BS, BC, ↓reduceIte, nE, BM, BD])
  refine pcall_go (by simp only [mcs, List.map_nil, i2.frz]) (max8_c hP _ i2 (by omega) (by omega)) ?_
  by_cases h5 : maxR ks > own
  ·have c5 : decide (maxR ks > own) = true := decide_eq_true h5
   have hR : isR f k ids ks = false := by simp only [isR, ho, show decide (maxR ks ≤ own) = false from decide_eq_false (by omega), Bool.and_false, Bool.false_and]
   simp (maxSteps:=9^9) (disch:=omega) only [BS]
   repeat (rw [guard_if]; simp (maxSteps:=9^9) (disch:=omega) only [BX, ↓reduceIte, nE, BM, c5])
   exact fin _ _ hR.symm
  have c5 : decide (maxR ks > own) = false := decide_eq_false h5
  simp (maxSteps:=9^9) (disch:=omega) only [BS]
  repeat (rw [guard_if]; simp (maxSteps:=9^9) (disch:=omega) only [BS, BC, ↓reduceIte, nE, BM, BD, c5])
  refine pcall_go (by simp only [mcs, List.map_nil, i1.frz]) (min16_c hP _ i1 (by omega) (by omega)) ?_
  have hat0 : (intsV ids)[0]? = some (.int .u16 (ids.getD 0 0)) := by
   cases ids with
   | nil => exact absurd h2 (by simp)
   | cons x l => rfl
  have hix : ∀ W K, sem E (.idxp 1) [v1, .int .i64 0] W K = K (.cptr [.int .u16 (ids.getD 0 0)]) W := fun W K => i1.idx (k := 0) hat0
  by_cases h6 : minR ids ≠ ids.getD 0 0
  ·have c6 : (minR ids != ids.getD 0 0) = true := bne_iff_ne.2 h6
   have hR : isR f k ids ks = false := by simp only [isR, ho, show decide (minR ids = ids.getD 0 0) = false from decide_eq_false h6, Bool.and_false, Bool.false_and]
   simp (maxSteps:=9^9) (disch:=omega) only [BS]
   repeat (rw [guard_if]; simp (maxSteps:=9^9) (disch:=omega) only [BX, ↓reduceIte, nE, BM, c6, hix])
   exact fin _ _ hR.symm
  have h6 : minR ids = ids.getD 0 0 := Decidable.not_not.1 h6
  have c6 : (minR ids != ids.getD 0 0) = false := by rw [h6]; simp
  simp (maxSteps:=9^9) (disch:=omega) only [BS]
  repeat (rw [guard_if]; simp (maxSteps:=9^9) (disch:=omega) only [BX, ↓reduceIte, nE, BM, BD, i1.len, hn1, c6, hix])
  have hRg : isR f k ids ks = isGo f ids ks ids.length := by
   have e2 : decide (2 ≤ ids.length) = true := by simp; omega
   have e3 : decide (ks.length = ids.length) = true := by simp [h3]
   have e5 : decide (maxR ks ≤ own) = true := by simp; omega
   have e6 : decide (minR ids = ids.getD 0 0) = true := decide_eq_true h6
   simp only [isR, ho, h4, e2, e3, e5, e6, Bool.true_and]
  rw [e_loop]
  refine alp (fun (i : Nat) A1 W1 => A1 0 = some gp ∧ A1 5 = some (.ptr (rf W.nx 0) 0) ∧ A1 9 = some (.int .i64 ids.length) ∧ A1 60 = some v1 ∧ A1 61 = some (.int .i64 ids.length) ∧ A1 62 = some (.int .i64 (i : Nat)) ∧ i ≤ ids.length ∧ isGo f ids ks i = true ∧ W1 = X W W.nx [.row [v1, v2], .row [.int .u8 own]]) (fun i => ids.length - i) 0
   ⟨rfl, rfl, rfl, rfl, rfl, rfl, Nat.zero_le _, rfl, rfl⟩ ?_
  rintro i A1 _ ⟨q0, q5, q9, q60, q61, q62, qi, qg, rfl⟩ _
  by_cases hp : i < ids.length
  ·have hat := ints_getD hp
   have hj : (i + 1) % ids.length < ids.length := Nat.mod_lt _ (by omega)
   have hat2 := ints_getD hj
   have hat3 := u8_getD (l := ks) (i := i) (by omega)
   have ht := i1.take i
   rw [ints_take] at ht
   have hx : ∀ W K, sem E (.idxp 1) [v1, .int .i64 (i : Int)] W K = K (.cptr [.int .u16 (ids.getD i 0)]) W := fun W K => i1.idx (k := i) hat
   have hx2 : ∀ W K, sem E (.idxp 1) [v1, .int .i64 (((i + 1) % ids.length : Nat) : Int)] W K = K (.cptr [.int .u16 (ids.getD ((i + 1) % ids.length) 0)]) W := fun W K => i1.idx (k := (i + 1) % ids.length) hat2
   have hx3 : ∀ W K, sem E (.idxp 1) [v2, .int .i64 (i : Int)] W K = K (.cptr [.int .u8 (ks.getD i 0)]) W := fun W K => i2.idx (k := i) hat3
   have hsl : ∀ W K, sem E (.slc 1 false true false) [v1, .int .i64 (i : Int)] W K = K (takeV v1 i) W := fun W K => i1.slc (by rw [hn1]; exact qi)
   have hrm : ∀ W K, sem E (.bin .rem) [.int .i64 ((i + 1 : Nat) : Int), .int .i64 (ids.length : Int)] W K = K (.int .i64 (((i + 1) % ids.length : Nat) : Int)) W := fun W K => remQ (by omega)
   simp (maxSteps:=9^9) (disch:=omega) only [BX, ↓reduceIte, nE, BM, BD, nA, c_cIs_0, q5, q60, q61, q62, clt, hp, dT, hx, hsl, ht.frz]
   refine pc (has16_c hP _ ht (by simp; omega) (ids.getD i 0)) ?_
   cases hc : (ids.take i).any (fun x => decide (ids.getD i 0 = x)) with
   | true =>
    have hA : isAt f ids ks i = false := by simp only [isAt, hc, Bool.not_true, Bool.false_and]
    simp (maxSteps:=9^9) (disch:=omega) only [BS, ↓reduceIte, ]
    repeat (rw [guard_if]; simp (maxSteps:=9^9) (disch:=omega) only [BX, ↓reduceIte, nE, BM, ])
    exact fin _ _ (by rw [hRg, isGo_no hA hp])
   | false =>
   simp (maxSteps:=9^9) (disch:=omega) only [BS, ↓reduceIte, ]
   repeat (rw [guard_if]; simp (maxSteps:=9^9) (disch:=omega) only [BS, BC, ↓reduceIte, nE, reduceCtorEq, BM, BD, nA, nL, q0, q5, q9, hx2, hx3, hrm, wadd1])
   have h1 := hi _ (getD_in hp)
   have h2' := hi _ (getD_in hj)
   have h3' := hk _ (getD_in (l := ks) (i := i) (by omega))
   rw [hgf]
   refine pc (hf _ ⟨ids.getD i 0, ids.getD ((i + 1) % ids.length) 0, ks.getD i 0⟩ ⟨h1, h2', h3'⟩) ?_
   cases hfe : f ⟨ids.getD i 0, ids.getD ((i + 1) % ids.length) 0, ks.getD i 0⟩ with
   | false =>
    have hA : isAt f ids ks i = false := by simp only [isAt, hfe, Bool.and_false]
    simp (maxSteps:=9^9) (disch:=omega) only [BS, ]
    repeat (rw [guard_if]; simp (maxSteps:=9^9) (disch:=omega) only [BX, ↓reduceIte, nE, BD, ])
    exact fin _ _ (by rw [hRg, isGo_no hA hp])
   | true =>
    have hA : isAt f ids ks i = true := by simp only [isAt, hfe, hc, Bool.and_true, Bool.not_false]
    simp (maxSteps:=9^9) (disch:=omega) only [BS, ]
    repeat (rw [guard_if]; simp (maxSteps:=9^9) (disch:=omega) only [BS, BC, cond_if, ↓reduceIte, nE, reduceCtorEq, BM, BD, nA, q0, q5, q9, q60, q61, q62, wadd1])
    exact ⟨i + 1, ⟨tt, tt, tt, tt, tt, tt, hp, by rw [isGo_succ, qg, hA]; rfl, tt⟩, by omega, by omega⟩
  ·obtain rfl : i = ids.length := by omega
   simp (maxSteps:=9^9) (disch:=omega) only [BX, ↓reduceIte, BM, BD, nA, c_cIs_0, q61, q62, clt, hp, dF]
   exact fin _ _ (by rw [hRg, qg])
theorem fmax_le {m : Int} : ∀ {l : List Int} {x : Int}, x ≤ m → (∀ y ∈ l, y ≤ m) → l.foldl max x ≤ m
 | [], _, h, _ => h
 | y :: l, x, h, hl => by
  rw [List.foldl_cons]
  have := hl y (by simp)
  exact fmax_le (by omega) fun z hz => hl z (by simp [hz])
theorem fmin_eq {m : Int} : ∀ {l : List Int} {x : Int}, x = m → (∀ y ∈ l, m ≤ y) → l.foldl min x = m
 | [], _, h, _ => h
 | y :: l, x, h, hl => by
  rw [List.foldl_cons]
  have := hl y (by simp)
  exact fmin_eq (by omega) fun z hz => hl z (by simp [hz])
def lexLt : List Int → List Int → Bool
 | [], [] => false
 | [], _ :: _ => true
 | _ :: _, [] => false
 | x :: l, y :: m => if x = y then lexLt l m else decide (x < y)
def lessR (a b : List Int × List Int) : Bool := if a.1.length ≠ b.1.length then decide (a.1.length < b.1.length) else if a.1 = b.1 then lexLt a.2 b.2 else lexLt a.1 b.1
theorem lex_refl : ∀ a : List Int, lexLt a a = false
 | [] => rfl
 | x :: l => by unfold lexLt; rw [if_pos rfl]; exact lex_refl l
structure IsC (es : List Ed) (own : Int) (ids ks : List Int) : Prop where
 two : 2 ≤ ids.length
 len : ks.length = ids.length
 ow : own ∈ ks
 le : ∀ k ∈ ks, k ≤ own
 fst : ∀ x ∈ ids, ids.getD 0 0 ≤ x
 nd : ids.Nodup
 ed : ∀ i, i < ids.length → (⟨ids.getD i 0, ids.getD ((i + 1) % ids.length) 0, ks.getD i 0⟩ : Ed) ∈ es
theorem fold_max_ge : ∀ {l : List Int} {x : Int}, x ≤ l.foldl max x ∧ ∀ y ∈ l, y ≤ l.foldl max x
 | [], x => ⟨Int.le_refl _, by simp⟩
 | y :: l, x => by
  rw [List.foldl_cons]
  obtain ⟨h1, h2⟩ := fold_max_ge (l := l) (x := max x y)
  refine ⟨by omega, fun z hz => ?_⟩
  rcases List.mem_cons.1 hz with rfl | hz
  ·omega
  ·exact h2 z hz
theorem fold_min_le : ∀ {l : List Int} {x : Int}, l.foldl min x ≤ x ∧ ∀ y ∈ l, l.foldl min x ≤ y
 | [], x => ⟨Int.le_refl _, by simp⟩
 | y :: l, x => by
  rw [List.foldl_cons]
  obtain ⟨h1, h2⟩ := fold_min_le (l := l) (x := min x y)
  refine ⟨by omega, fun z hz => ?_⟩
  rcases List.mem_cons.1 hz with rfl | hz
  ·omega
  ·exact h2 z hz
theorem nodup_take {l : List Int} (h : ∀ i, i < l.length → l.getD i 0 ∉ l.take i) : l.Nodup := by
 rw [List.nodup_iff_pairwise_ne, List.pairwise_iff_getElem]
 intro i j hi hj hij e
 refine h j hj ?_
 rw [List.getD_eq_getElem?_getD, gEg hj, Option.getD_some, ← e]
 exact List.mem_take_iff_getElem.2 ⟨i, by omega, rfl⟩
theorem isR_iff {es : List Ed} {own k : Int} {ids ks : List Int} (ho : ownR k = some own) {f : Ed → Bool} (hf : ∀ e, f e = decide (e ∈ es)) : isR f k ids ks = true ↔ IsC es own ids ks := by
 unfold isR
 rw [ho]
 simp only [Bool.and_eq_true, decide_eq_true_eq, any_mem]
 constructor
 ·rintro ⟨⟨⟨⟨⟨h1, h2⟩, h3⟩, h4⟩, h5⟩, h6⟩
  unfold isGo at h6
  rw [List.all_eq_true] at h6
  have h7 : ∀ i, i < ids.length → ids.getD i 0 ∉ ids.take i ∧ (⟨ids.getD i 0, ids.getD ((i + 1) % ids.length) 0, ks.getD i 0⟩ : Ed) ∈ es := fun i hi => by
   have := h6 i (List.mem_range.2 hi)
   unfold isAt at this
   rw [Bool.and_eq_true, any_mem, Bool.not_eq_true', decide_eq_false_iff_not, hf, decide_eq_true_eq] at this
   exact this
  refine ⟨h1, h2, h3, fun k hk => ?_, fun x hx => ?_, nodup_take fun i hi => (h7 i hi).1, fun i hi => (h7 i hi).2⟩
  ·cases ks with
   | nil => cases hk
   | cons y l =>
    have := fold_max_ge (l := l) (x := y)
    have h4 : l.foldl max y ≤ own := h4
    rcases List.mem_cons.1 hk with rfl | hk
    ·omega
    ·have := this.2 k hk; omega
  ·cases ids with
   | nil => cases hx
   | cons y l =>
    have := fold_min_le (l := l) (x := y)
    have h5 : l.foldl min y = y := h5
    show y ≤ x
    rcases List.mem_cons.1 hx with rfl | hx
    ·exact Int.le_refl _
    ·have := this.2 x hx; omega
 ·rintro ⟨h1, h2, h3, h4, h5, h6, h7⟩
  refine ⟨⟨⟨⟨⟨h1, h2⟩, h3⟩, ?_⟩, ?_⟩, ?_⟩
  ·cases ks with
   | nil => cases h3
   | cons y l => exact fmax_le (h4 y (by simp)) fun z hz => h4 z (by simp [hz])
  ·cases ids with
   | nil => rfl
   | cons y l => exact fmin_eq rfl fun z hz => h5 z (by simp [hz])
  ·unfold isGo
   rw [List.all_eq_true]
   intro i hi
   have hi := List.mem_range.1 hi
   unfold isAt
   rw [Bool.and_eq_true, any_mem, Bool.not_eq_true', decide_eq_false_iff_not, hf, decide_eq_true_eq]
   refine ⟨fun hm => ?_, h7 i hi⟩
   obtain ⟨j, hj, e⟩ := List.mem_take_iff_getElem.1 hm
   rw [List.getD_eq_getElem?_getD, gEg hi, Option.getD_some] at e
   have := List.pairwise_iff_getElem.1 (List.nodup_iff_pairwise_ne.1 h6) j i (by omega) hi (by omega)
   exact this e
def c_edges30 : AC := (.r [.v 2 (.nilsl),.v 3 (.bool false)] (.r [.m 7 0,.u 8 (.call 39) 7,.m 4 8] (.seq (.r [.m 9 4,.p 10 (.eqn false 3) [.t 9,.c (.nilfn)]] (.cond (.t 10) (.r [.v 2 (.nilsl),.v 3 (.bool false)] .ret) .skip)) (.r [.p 5 (.alloc [.nilsl]) []] (.seq (.r [.m 11 4] (.block 0 (.rangef (.t 11) [12] (.reg [.p 6 (.alloc [.int .u16 0,.int .u16 0,.int .u8 0]) [],⟨none,.store 3, [.t 6,.t 12], none⟩]) (.block 1 (.reg [.u 13 (.load false 1) 5,.u 14 (.load true 3) 6,.u 15 (.bslice 3 1 (.agg [.int .u16 0,.int .u16 0,.int .u8 0]) [0]) 14,.b 16 (.append 3 6) 13 15,⟨none,.store 1, [.t 5,.t 16], none⟩]))))) (.r [.u 17 (.load false 1) 5,.m 2 17,.v 3 (.bool true)] .ret))))))
theorem ok_edges30e : compF Tryz.prog Tryz.f11 ⟨false, false, []⟩ = some (c_edges30, [.tmp 2, .tmp 3], 18) := by kernel_rfl
def c_rOwn : AC := (.r [.v 2 (.int .i64 0)] (.seq (.r [.m 3 0] (.block 0 (.r [.p 5 (.bin .eql) [.t 3,.c (.int .u8 1)],.m 4 5] (.cond (.t 4) (.r [.v 2 (.int .i64 0)] .ret) (.r [.p 7 (.bin .eql) [.t 3,.c (.int .u8 8)],.m 6 7] (.cond (.t 6) (.r [.v 2 (.int .i64 1)] .ret) (.r [.p 9 (.bin .eql) [.t 3,.c (.int .u8 16)],.m 8 9] (.cond (.t 8) (.r [.v 2 (.int .i64 2)] .ret) .skip)))))))) (.r [.v 2 (.int .i64 (-1))] .ret)))
theorem ok_rOwne : compF Tryz.prog Tryz.f45 ⟨false, false, []⟩ = some (c_rOwn, [.tmp 2], 10) := by kernel_rfl
def c_rHasE_0 : AC := (.seq (.r [.m 6 5,.m 7 0,.u 8 (.len 1 0) 7,.b 9 (.bin .lss) 6 8] (.w 9 0)) (.seq (.block 1 (.seq (.par (.step 0 (.m 12 0) (.step 1 (.m 13 5) (.step 2 (.b 14 (.idxp 3) 12 13) (.step 3 (.u 15 (.load true 3) 14) (.step 4 (.u 16 (.load true 3) 3) (.step 5 (.b 17 (.eqv false (true, [.i .u16,.i .u16,.i .u8])) 15 16) .done))))))) (.cond (.t 17) (.r [.v 4 (.bool true)] .ret) .skip))) (.reg [.m 10 5,.a 11 (.bin .add) 10 1,.m 5 11])))
def c_rHasE : AC := (.r [.u 3 .box 1,.v 4 (.bool false)] (.seq (.r [.v 5 (.int .i64 0)] (.block 0 (.loop c_rHasE_0))) (.r [.v 4 (.bool false)] .ret)))
theorem ok_rHasEe : compF Tryz.prog Tryz.f57 ⟨false, false, []⟩ = some (c_rHasE, [.tmp 4], 18) := by kernel_rfl
def c_rLess_0 : AC := (.seq (.r [.m 21 5,.u 22 (.fld 0) 2,.u 23 (.load false 1) 22,.u 24 (.len 1 0) 23,.b 25 (.bin .lss) 21 24] (.w 25 0)) (.seq (.block 1 (.seq (.par (.step 0 (.u 28 (.fld 0) 2) (.step 2 (.m 30 5) (.step 5 (.u 33 (.fld 0) 3) (.step 7 (.m 35 5) (.step 1 (.u 29 (.load false 1) 28) (.step 3 (.b 31 (.idxp 1) 29 30) (.step 4 (.u 32 (.load false 1) 31) (.step 6 (.u 34 (.load false 1) 33) (.step 8 (.b 36 (.idxp 1) 34 35) (.step 9 (.u 37 (.load false 1) 36) (.step 10 (.b 38 (.bin .neq) 32 37) .done)))))))))))) (.cond (.t 38) (.seq (.par (.step 0 (.u 39 (.fld 0) 2) (.step 2 (.m 41 5) (.step 5 (.u 44 (.fld 0) 3) (.step 7 (.m 46 5) (.step 1 (.u 40 (.load false 1) 39) (.step 3 (.b 42 (.idxp 1) 40 41) (.step 4 (.u 43 (.load false 1) 42) (.step 6 (.u 45 (.load false 1) 44) (.step 8 (.b 47 (.idxp 1) 45 46) (.step 9 (.u 48 (.load false 1) 47) (.step 10 (.b 49 (.bin .lss) 43 48) (.step 11 (.m 4 49) .done))))))))))))) .ret) .skip))) (.reg [.m 26 5,.a 27 (.bin .add) 26 1,.m 5 27])))
def c_rLess_1 : AC := (.seq (.r [.m 50 6,.u 51 (.fld 1) 2,.u 52 (.load false 1) 51,.u 53 (.len 1 0) 52,.b 54 (.bin .lss) 50 53,.m 55 54,.M 56 6 55 true,.U 57 (.fld 1) 3 55 true,.U 58 (.load false 1) 57 55 true,.U 59 (.len 1 0) 58 55 true,.B 60 (.bin .lss) 56 59 55 true,.p 61 .pick [.t 55,.t 60,.F]] (.w 61 2)) (.seq (.block 3 (.seq (.par (.step 0 (.u 64 (.fld 1) 2) (.step 2 (.m 66 6) (.step 5 (.u 69 (.fld 1) 3) (.step 7 (.m 71 6) (.step 1 (.u 65 (.load false 1) 64) (.step 3 (.b 67 (.idxp 1) 65 66) (.step 4 (.u 68 (.load false 1) 67) (.step 6 (.u 70 (.load false 1) 69) (.step 8 (.b 72 (.idxp 1) 70 71) (.step 9 (.u 73 (.load false 1) 72) (.step 10 (.b 74 (.bin .neq) 68 73) .done)))))))))))) (.cond (.t 74) (.seq (.par (.step 0 (.u 75 (.fld 1) 2) (.step 2 (.m 77 6) (.step 5 (.u 80 (.fld 1) 3) (.step 7 (.m 82 6) (.step 1 (.u 76 (.load false 1) 75) (.step 3 (.b 78 (.idxp 1) 76 77) (.step 4 (.u 79 (.load false 1) 78) (.step 6 (.u 81 (.load false 1) 80) (.step 8 (.b 83 (.idxp 1) 81 82) (.step 9 (.u 84 (.load false 1) 83) (.step 10 (.b 85 (.bin .lss) 79 84) (.step 11 (.m 4 85) .done))))))))))))) .ret) .skip))) (.reg [.m 62 6,.a 63 (.bin .add) 62 1,.m 6 63])))
def c_rLess : AC := (.r [.u 2 .box 0,.u 3 .box 1,.v 4 (.bool false)] (.seq (.r [.u 7 (.fld 0) 2,.u 8 (.load false 1) 7,.u 9 (.len 1 0) 8,.u 10 (.fld 0) 3,.u 11 (.load false 1) 10,.u 12 (.len 1 0) 11,.b 13 (.bin .neq) 9 12] (.cond (.t 13) (.r [.u 14 (.fld 0) 2,.u 15 (.load false 1) 14,.u 16 (.len 1 0) 15,.u 17 (.fld 0) 3,.u 18 (.load false 1) 17,.u 19 (.len 1 0) 18,.b 20 (.bin .lss) 16 19,.m 4 20] .ret) .skip)) (.seq (.r [.v 5 (.int .i64 0)] (.block 0 (.loop c_rLess_0))) (.seq (.r [.v 6 (.int .i64 0)] (.block 2 (.loop c_rLess_1))) (.r [.u 86 (.fld 1) 2,.u 87 (.load false 1) 86,.u 88 (.len 1 0) 87,.u 89 (.fld 1) 3,.u 90 (.load false 1) 89,.u 91 (.len 1 0) 90,.b 92 (.bin .lss) 88 91,.m 4 92] .ret)))))
theorem ok_rLesse : compF Tryz.prog Tryz.f27 ⟨false, false, []⟩ = some (c_rLess, [.tmp 4], 93) := by kernel_rfl
theorem bsE {W : AW} {K : V → AW → Prop} {a b c : Int} : sem E (.bslice 3 1 (.agg [.int .u16 0, .int .u16 0, .int .u8 0]) [0]) [.agg [.int .u16 a, .int .u16 b, .int .u8 c]] W K = K (.sl 3 true [(Ed.mk a b c).V]) W := by
 simp [sem, rsem, tsem, fillE, V.cells, Ed.V]
theorem bsE' {W : AW} {K : V → AW → Prop} {e : Ed} : sem E (.bslice 3 1 (.agg [.int .u16 0, .int .u16 0, .int .u8 0]) [0]) [.agg [.int .u16 e.fr, .int .u16 e.to, .int .u8 e.kd]] W K = K (.sl 3 true [e.V]) W := bsE
theorem eds_now (l : List Ed) : nowGS 3 (l.map Ed.V) = edsV l := by
 cases l <;> rfl
theorem edges30_c (hP : PE E) (W : AW) {g m lo : Nat} {h : V} {P : List Ek} {N : List Int} (hG : Gr W g m h P N lo) : ACalls E 11 [.ptr g 0] W fun Y W' => Y = .tuple [edsV (edL P), .bool true] ∧ W' = W := by
 refine ACalls.of hP Tryz.func11 ok_edges30e (by simp) fun _ hok => ?_
 have hlm := hG.lm
 have hlg := hG.lg
 simp (maxSteps:=9^9) (disch:=omega) only [c_edges30, BZ, ↓reduceIte, reduceCtorEq]
 refine (edges_c hP _ g).mono ?_
 rintro _ W1 ⟨q, rfl, hq, hqn, hE1⟩
 rw [hE1.cl.start]
 simp (maxSteps:=9^9) (disch:=omega) only [BX, ↓reduceIte, nE, BM, BD]
 obtain ⟨W0, hW0⟩ : ∃ W0, W0 = X W1 W1.nx [.row [.nilsl]] := ⟨_, rfl⟩
 rw [← hW0]
 have hE10 : Ex W1 W0 := by rw [hW0]; exact .x0
 have hn0 : W0.nx = W1.nx + 1 := by rw [hW0]; rfl
 have r0 : rf W1.nx 0 = W1.nx := rfl
 have hc5 : W0.get (rf W1.nx 0) = some (.row [.nilsl]) := by rw [hW0, X_get]; rfl
 clear hW0
 have hE0 := hE1.trans hE10
 have hn1 := hE1.nx
 have hG0 := hG.ex hE0
 have hl := edL_lt hG
 refine range_edges hP (q := q) (lo := lo) (P := P) (N := N) rfl ((hE10.get _ hqn).trans hq) (by omega) hE0.cl hG0 (fun i W2 => Cl W2 ∧ W0.nx < W2.nx ∧ (∀ x, x < W0.nx → x ≠ rf W1.nx 0 → W2.get x = W0.get x) ∧ ∃ h, W2.get (rf W1.nx 0) = some (.row [h]) ∧ nowG W2 h (((edL P).take i).map Ed.V) 3 W0.nx) ?_ ?_ ?_ ?_
 ·intro W2 hE hn
  exact ⟨hE.cl, hn, fun x hx _ => hE.get x hx, .nilsl, by rw [hE.get _ (by omega)]; exact hc5, .inl ⟨rfl, rfl⟩⟩
 ·exact fun i W2 h => ⟨h.1, h.2.1⟩
 ·rintro i hi W2 W2' ⟨j0, j1, j2, h5, j3, j4⟩ hE2 hlp
  have htk : ((edL P).take (i + 1)).map Ed.V = ((edL P).take i).map Ed.V ++ [((edL P)[i]).V] := by
   rw [tao, gEg hi, mpp]; rfl
  have hlk : (((edL P).take i).map Ed.V).length = i := by simp; omega
  generalize (edL P)[i] = e at htk
  have hn2 := hE2.nx
  have k5 := (hE2.get _ (show rf W1.nx 0 < W2.nx by omega)).trans j3
  have j4' := j4.to hE2.nx fun r _ hr _ => hE2.get r hr
  refine awp_startC hE2.cl ?_
  simp (maxSteps:=9^9) (disch:=omega) only [BS, BC, ↓reduceIte, nE, BM, BD, nA, nL, nT, Ed.V, hlp]
  refine ⟨tt, ?_⟩
  have k5' : (X (W2'.put W0.nx (.loop .busy none)) W2'.nx [.row [.int .u16 e.fr, .int .u16 e.to, .int .u8 e.kd]]).get (rf W1.nx 0) = some (.row [h5]) := by rw [X_old (by omega), put_ne (by omega)]; exact k5
  simp (maxSteps:=9^9) (disch:=omega) only [BS, BC, ↓reduceIte, nE, BM, put_ne, k5, bsE']
  refine app_now (lo := W0.nx) (j4'.to (by simp only [X_nx, rf]; omega) fun r h1 h2 ⟨ys, hy⟩ => by rw [X_old h2, put_ne (by rintro rfl; rw [hlp] at hy; cases hy)]) Cl.X (by simp only [X_nx, rf]; omega) (by decide) rfl (by rw [hlk]; omega) ?_
  intro h' W3 gN gC gn gg1 gg2
  simp only [X_nx, rf, lcs, List.length_nil] at gn
  have k3 : W3.get (rf W1.nx 0) = some (.row [h5]) := by rw [gg2 _ (by omega)]; exact k5'
  have kl : W3.get W0.nx = some (.loop .busy none) := by
   rw [gg1 W0.nx (by simp only [X_nx, rf]; omega) (fun ys => by rw [X_old (by omega), put_at]; simp), X_old (by omega), put_at]
  simp (maxSteps:=9^9) (disch:=omega) only [BS, ↓reduceIte, nE, BM, BD, nL, gN.cells1.1, gN.cells1.2, k3]
  refine ⟨tt, by rw [put_ne (by omega)]; exact kl, (gC.put (by omega)).put (by rw [put_nx]; omega), by simp only [put_nx]; omega, fun x hx hx5 => ?_, h', ?_, ?_⟩
  ·rw [put_ne (by omega), put_ne hx5, gg2 x hx, X_old (by omega), put_ne (by omega), hE2.get x (by omega)]
   exact j2 x hx hx5
  ·first | (rw [put_at]; done) | (rw [put_ne (by omega), put_at])
  ·rw [htk]
   refine gN.to (by simp only [put_nx]; exact lr _) fun r h1 h2 ⟨ys, hy⟩ => ?_
   rw [put_ne (by rintro rfl; rw [kl] at hy; cases hy), put_ne (by omega)]
 ·rintro W2 ⟨j0, j1, j2, h5, j3, j4⟩ hlp
  rw [tkl] at j4
  have k5 : (W2.put W0.nx (.loop .exhausted none)).get (rf W1.nx 0) = some (.row [h5]) := by rw [put_ne (by omega)]; exact j3
  have j5 := j4.to (W' := W2.put W0.nx (.loop .exhausted none)) (by rw [put_nx]; exact lr _) fun r h1 h2 ⟨ys, hy⟩ => put_ne (by rintro rfl; rw [hlp] at hy; cases hy)
  simp (maxSteps:=9^9) (disch:=omega) only [BZ, ↓reduceIte, nE, BM, k5, j5.frz, eds_now]
  refine ⟨_, rfl, _, W, .weak (weak_back hok (by simp only [V.bel, V.belL, bel_eds, Bool.and_true]) fun x hx => ?_), lr _, rfl, rfl⟩
  have hx' : x < W.nx := hx
  rw [put_ne (by omega), j2 x (by omega) (by omega)]
  exact hE0.get x hx'
theorem take_extD {l m : List Int} {k : Nat} (h : l.take k = m.take k) (hl : k < l.length) (hm : k < m.length) (e : l.getD k 0 = m.getD k 0) : l.take (k + 1) = m.take (k + 1) := by
 rw [List.getD_eq_getElem?_getD, List.getD_eq_getElem?_getD, gEg hl, gEg hm] at e
 exact take_ext h hl hm e
theorem ne_atD {l m : List Int} {k : Nat} (_ : k < l.length) (_ : k < m.length) (e : l.getD k 0 ≠ m.getD k 0) : l ≠ m := by
 intro h; rw [h] at e; exact e rfl
theorem lex_at : ∀ {k : Nat} {a b : List Int}, a.take k = b.take k → k < a.length → k < b.length → a.getD k 0 ≠ b.getD k 0 → lexLt a b = decide (a.getD k 0 < b.getD k 0)
 | 0, x :: l, y :: m, _, _, _, hne => by
  have h : x ≠ y := hne
  unfold lexLt
  rw [if_neg h]
  rfl
 | k + 1, x :: l, y :: m, h, ha, hb, hne => by
  rw [List.take_succ_cons, List.take_succ_cons, List.cons.injEq] at h
  unfold lexLt
  rw [if_pos h.1]
  exact lex_at h.2 (by simpa using ha) (by simpa using hb) hne
theorem lex_end : ∀ {k : Nat} {a b : List Int}, a.take k = b.take k → (k = a.length ∧ k ≤ b.length) ∨ (k = b.length ∧ k ≤ a.length) → lexLt a b = decide (a.length < b.length)
 | 0, [], [], _, _ => rfl
 | 0, [], _ :: _, _, _ => by unfold lexLt; simp
 | 0, _ :: _, [], _, _ => by unfold lexLt; simp
 | 0, _ :: _, _ :: _, _, h => by simp at h
 | k + 1, [], _, _, h => by simp at h
 | k + 1, _ :: _, [], _, h => by simp at h
 | k + 1, x :: l, y :: m, h, h' => by
  rw [List.take_succ_cons, List.take_succ_cons, List.cons.injEq] at h
  unfold lexLt
  rw [if_pos h.1, lex_end h.2 (by simpa using h')]
  exact decide_eq_decide.2 (by simp)
def ownI (k : Int) : Int := (ownR k).getD (-1)
theorem rOwn_c (hP : PE E) (W : AW) (k : Int) : ACalls E 45 [.int .u8 k] W fun Y W' => Y = .int .i64 (ownI k) ∧ W' = W := by
 refine ACalls.of hP Tryz.func45 ok_rOwne (by simp) fun _ hok => ?_
 refine awp_start hok ?_
 by_cases h1 : k = 1
 ·have e1 : (k == 1) = true := by simp [h1]
  simp (maxSteps:=9^9) (disch:=omega) only [BX, ↓reduceIte, reduceCtorEq, c_rOwn, e1]
  exact ⟨_, rfl, _, W, backX hok rfl, lr _, by simp [ownI, ownR, h1], rfl⟩
 ·have e1 : (k == 1) = false := by simp [h1]
  by_cases h2 : k = 8
  ·have e2 : (k == 8) = true := by simp [h2]
   simp (maxSteps:=9^9) (disch:=omega) only [BX, ↓reduceIte, nE, reduceCtorEq, c_rOwn, e1, e2]
   exact ⟨_, rfl, _, W, backX hok rfl, lr _, by simp [ownI, ownR, h2], rfl⟩
  ·have e2 : (k == 8) = false := by simp [h2]
   by_cases h3 : k = 16
   ·have e3 : (k == 16) = true := by simp [h3]
    simp (maxSteps:=9^9) (disch:=omega) only [BX, ↓reduceIte, nE, reduceCtorEq, c_rOwn, e1, e2, e3]
    exact ⟨_, rfl, _, W, backX hok rfl, lr _, by simp [ownI, ownR, h3], rfl⟩
   ·have e3 : (k == 16) = false := by simp [h3]
    simp (maxSteps:=9^9) (disch:=omega) only [BX, ↓reduceIte, nE, reduceCtorEq, c_rOwn, e1, e2, e3]
    exact ⟨_, rfl, _, W, backX hok rfl, lr _, by simp [ownI, ownR, h1, h2, h3], rfl⟩
theorem ed_eqv {W : AW} {K : V → AW → Prop} {a b : Ed} (h : ekOk (ofEd a)) (h' : ekOk (ofEd b)) : sem E (.eqv false (true, [.i .u16, .i .u16, .i .u8])) [a.V, .agg [.int .u16 b.fr, .int .u16 b.to, .int .u8 b.kd]] W K = K (.bool (decide (a = b))) W := by
 have h1 : a.V.has shE = true := ekV_has h
 have h2 : b.V.has shE = true := ekV_has h'
 have h3 : a.V.keq b.V = decide (a = b) := by
  have := ekV_keq (ofEd a) (ofEd b)
  have h2 : decide (ofEd b = ofEd a) = decide (a = b) := decide_eq_decide.2 ⟨fun h => (congrArg toEd h).symm, fun h => by rw [h]⟩
  exact this.trans h2
 simp only [shE] at h1 h2
 show sem E (.eqv false (true, [.i .u16, .i .u16, .i .u8])) [a.V, b.V] W K = _
 simp [sem, rsem, tsem, h1, h2, h3]
theorem ed_load {W : AW} {K : V → AW → Prop} {e : Ed} : sem E (.load true 3) [.cptr e.V.cells] W K = K e.V W := id rfl
theorem rHasE_c (hP : PE E) (W : AW) {vL : V} {L : List Ed} (hv : isS 3 vL (L.map Ed.V)) (hL : ∀ e ∈ L, ekOk (ofEd e)) (hl : L.length < 2 ^ 40) (e : Ed) (he : ekOk (ofEd e)) :
  ACalls E 57 [vL, .agg [.int .u16 e.fr, .int .u16 e.to, .int .u8 e.kd]] W fun Y W' => Y = .bool (decide (e ∈ L)) ∧ W' = W := by
 refine ACalls.of hP Tryz.func57 ok_rHasEe (by simp) fun _ hok => ?_
 refine awp_start hok ?_
 simp (maxSteps:=9^9) (disch:=omega) only [BZ, BM, BD, c_rHasE]
 rw [e_loop]
 refine alp (fun (i : Nat) A1 W1 => A1 0 = some vL ∧ A1 3 = some (.ptr (rf W.nx 0) 0) ∧ A1 5 = some (.int .i64 (i : Nat)) ∧ i ≤ L.length ∧ (∀ j (hj : j < L.length), j < i → L[j] ≠ e) ∧ W1 = X W W.nx [.row [.int .u16 e.fr, .int .u16 e.to, .int .u8 e.kd]]) (fun i => L.length - i) 0
  ⟨rfl, rfl, rfl, Nat.zero_le _, fun _ _ h => by omega, rfl⟩ ?_
 rintro i A1 _ ⟨q0, q3, q5, qi, qf, rfl⟩ _
 by_cases hi : i < L.length
 ·have o1 := hL _ (gmm hi)
  by_cases hh : L[i] = e
  ·simp (maxSteps:=9^9) (disch:=omega) only [BX, ↓reduceIte, nE, reduceCtorEq, BM, BD, nA, nL, c_rHasE_0, q0, q3, q5, hv.len, lmp, clt, hi, dT, hv.idx (ed_at hi), ed_load, ed_eqv o1 he, decide_eq_true hh]
   exact ⟨_, rfl, _, W, backX hok rfl, lr _, by rw [decide_eq_true (hh ▸ gmm hi)], rfl⟩
  ·simp (maxSteps:=9^9) (disch:=omega) only [BX, ↓reduceIte, nE, reduceCtorEq, BM, BD, nA, nL, c_rHasE_0, q0, q3, q5, hv.len, lmp, clt, hi, dT, hv.idx (ed_at hi), ed_load, ed_eqv o1 he, decide_eq_false hh, wadd1]
   refine ⟨i + 1, ⟨tt, tt, tt, hi, fun j hj hji => ?_, tt⟩, by omega, lr _⟩
   by_cases e' : j = i
   ·subst e'; exact hh
   ·exact qf j hj (by omega)
 ·simp (maxSteps:=9^9) (disch:=omega) only [BX, ↓reduceIte, nE, reduceCtorEq, BM, BD, c_rHasE_0, q0, q5, hv.len, lmp, clt, hi, dF]
  refine ⟨_, rfl, _, W, backX hok rfl, lr _, ?_, rfl⟩
  rw [decide_eq_false]
  intro hm
  obtain ⟨j, hj, hje⟩ := List.getElem_of_mem hm
  exact qf j hj (by omega) hje
theorem rLess_c (hP : PE E) (W : AW) {v1 v2 w1 w2 : V} {a b : List Int × List Int} (i1 : isS 1 v1 (intsV a.1)) (i2 : isS 1 v2 (u8s a.2)) (j1 : isS 1 w1 (intsV b.1)) (j2 : isS 1 w2 (u8s b.2)) (l1 : a.1.length < 2 ^ 40) (l2 : a.2.length < 2 ^ 40) :
  ACalls E 27 [.agg [v1, v2], .agg [w1, w2]] W fun Y W' => Y = .bool (lessR a b) ∧ W' = W := by
 refine ACalls.of hP Tryz.func27 ok_rLesse (by simp) fun _ hok => ?_
 refine awp_start hok ?_
 obtain ⟨a1, a2⟩ := a
 obtain ⟨b1, b2⟩ := b
 simp only at i1 i2 j1 j2 l1 l2
 have fin : ∀ l r, r = lessR (a1, a2) (b1, b2) → ∃ X0, some (V.bool r) = some X0 ∧ ∃ Y W', RetV X0 (X W W.nx l) Y W' ∧ W.nx ≤ W'.nx ∧ Y = .bool (lessR (a1, a2) (b1, b2)) ∧ W' = W := fun l b hb => ⟨_, rfl, _, W, backX hok rfl, lr _, by rw [hb], rfl⟩
 simp (maxSteps:=9^9) (disch:=omega) only [BX, ↓reduceIte, nE, BM, BD, c_rLess, i1.len, j1.len, ints_len]
 by_cases h1 : a1.length = b1.length
 ·have c1 : ((a1.length : Int) != (b1.length : Int)) = false := by simp; omega
  simp (maxSteps:=9^9) (disch:=omega) only [BC, ↓reduceIte, c1]
  rw [e_loop]
  refine alp (fun (k : Nat) A1 W1 => A1 2 = some (.ptr (rf W.nx 0) 0) ∧ A1 3 = some (.ptr (rf W.nx 1) 0) ∧ A1 5 = some (.int .i64 (k : Nat)) ∧ k ≤ a1.length ∧ a1.take k = b1.take k ∧ W1 = X W W.nx [.row [v1, v2], .row [w1, w2]]) (fun k => a1.length - k) 0
   ⟨rfl, rfl, rfl, Nat.zero_le _, rfl, rfl⟩ ?_
  rintro k A1 _ ⟨q2, q3, q5, qk, qt, rfl⟩ _
  by_cases hk : k < a1.length
  ·have hk' : k < b1.length := by omega
   by_cases he : a1.getD k 0 = b1.getD k 0
   ·have c3 : (a1.getD k 0 != b1.getD k 0) = false := by rw [he]; exact bne_self_eq_false _
    simp (maxSteps:=9^9) (disch:=omega) only [BX, ↓reduceIte, nE, BM, BD, nA, c_rLess_0, q2, q3, q5, i1.len, ints_len, clt, hk, dT, i1.idx (ints_getD hk), j1.idx (ints_getD hk'), c3, wadd1]
    exact ⟨k + 1, ⟨tt, tt, tt, hk, take_extD qt hk (by omega) he, tt⟩, by omega, lr _⟩
   ·have c3 : (a1.getD k 0 != b1.getD k 0) = true := bne_iff_ne.2 he
    simp (maxSteps:=9^9) (disch:=omega) only [BX, ↓reduceIte, nE, BM, BD, nA, c_rLess_0, q2, q3, q5, i1.len, ints_len, clt, hk, dT, i1.idx (ints_getD hk), j1.idx (ints_getD hk'), c3]
    refine fin _ _ ?_
    unfold lessR
    rw [if_neg (fun h => h h1), if_neg (ne_atD hk hk' he), lex_at qt hk hk' he]
  ·obtain rfl : k = a1.length := by omega
   rw [tkl, h1, tkl] at qt
   subst qt
   simp (maxSteps:=9^9) (disch:=omega) only [BX, ↓reduceIte, nE, BM, BD, nA, c_rLess_0, q2, q5, i1.len, ints_len, clt, hk, dF]
   rw [e_loop]
   refine alp (fun (k : Nat) A1 W1 => A1 2 = some (.ptr (rf W.nx 0) 0) ∧ A1 3 = some (.ptr (rf W.nx 1) 0) ∧ A1 6 = some (.int .i64 (k : Nat)) ∧ k ≤ a2.length ∧ k ≤ b2.length ∧ a2.take k = b2.take k ∧ W1 = X W W.nx [.row [v1, v2], .row [w1, w2]]) (fun k => a2.length - k) 0
    ⟨tt, tt, tt, Nat.zero_le _, Nat.zero_le _, rfl, rfl⟩ ?_
   rintro k A1 _ ⟨q2, q3, q5, qk, qk', qt, rfl⟩ _
   have hR : lessR (a1, a2) (a1, b2) = lexLt a2 b2 := by
    unfold lessR
    rw [if_neg (fun h => h rfl), if_pos rfl]
   have ended : (k = a2.length ∧ k ≤ b2.length) ∨ (k = b2.length ∧ k ≤ a2.length) → decide (a2.length < b2.length) = lessR (a1, a2) (a1, b2) := fun h => by
    rw [hR, lex_end qt h]
   by_cases hk : k < a2.length
   ·by_cases hk' : k < b2.length
    ·by_cases he : a2.getD k 0 = b2.getD k 0
     ·have c3 : (a2.getD k 0 != b2.getD k 0) = false := by rw [he]; exact bne_self_eq_false _
      simp (maxSteps:=9^9) (disch:=omega) only [BZ, ↓reduceIte, nE, BM, BD, nA, c_rLess_1, q2, q5, i2.len, u8s_len, clt, hk, dT]
      repeat (rw [guard_if]; simp (maxSteps:=9^9) (disch:=omega) only [BX, ↓reduceIte, nE, BM, BD, nA, q2, q3, q5, j2.len, u8s_len, clt, hk', dT, i2.idx (u8_getD hk), j2.idx (u8_getD hk'), c3, wadd1])
      exact ⟨k + 1, ⟨tt, tt, tt, hk, hk', take_extD qt hk (by omega) he, tt⟩, by omega, lr _⟩
     ·have c3 : (a2.getD k 0 != b2.getD k 0) = true := bne_iff_ne.2 he
      simp (maxSteps:=9^9) (disch:=omega) only [BZ, ↓reduceIte, nE, BM, BD, nA, c_rLess_1, q2, q5, i2.len, u8s_len, clt, hk, dT]
      repeat (rw [guard_if]; simp (maxSteps:=9^9) (disch:=omega) only [BX, ↓reduceIte, nE, BM, BD, q2, q3, q5, j2.len, u8s_len, clt, hk', dT, i2.idx (u8_getD hk), j2.idx (u8_getD hk'), c3])
      exact fin _ _ (by rw [hR, lex_at qt hk hk' he])
    ·simp (maxSteps:=9^9) (disch:=omega) only [BZ, ↓reduceIte, nE, BM, BD, nA, c_rLess_1, q2, q5, i2.len, u8s_len, clt, hk, dT]
     repeat (rw [guard_if]; simp (maxSteps:=9^9) (disch:=omega) only [BX, ↓reduceIte, nE, BM, BD, q2, q3, q5, i2.len, j2.len, u8s_len, clt, hk', dF])
     exact fin _ _ (ended (.inr ⟨by omega, qk⟩))
   ·simp (maxSteps:=9^9) (disch:=omega) only [BZ, ↓reduceIte, nE, BM, BD, nA, c_rLess_1, q2, q5, i2.len, u8s_len, clt, hk, dF]
    repeat (rw [guard_if]; simp (maxSteps:=9^9) (disch:=omega) only [BX, ↓reduceIte, nE, BM, BD, q2, q3, i2.len, j2.len, u8s_len, clt])
    exact fin _ _ (ended (.inl ⟨by omega, qk'⟩))
 ·have c1 : ((a1.length : Int) != (b1.length : Int)) = true := by simp; omega
  simp (maxSteps:=9^9) (disch:=omega) only [↓reduceIte, c1]
  refine fin _ _ ?_
  unfold lessR
  rw [if_pos h1]
  exact decide_eq_decide.2 (by simp only; omega)
def c_nanI : AC := (.r [.v 2 (.bool false)] (.r [.m 3 0,.m 4 0,.b 5 (.bin .neq) 3 4,.m 2 5] .ret))
theorem ok_nanIe : compF Tryz.prog Tryz.f90 ⟨false, false, []⟩ = some (c_nanI, [.tmp 2], 6) := by kernel_rfl
def c_cmpII : AC := (.r [.v 4 (.int .i64 0)] (.r [.m 7 0,.u 8 (.call 90) 7,.m 5 8] (.r [.m 9 1,.u 10 (.call 90) 9,.m 6 10] (.seq (.r [.m 11 5] (.cond (.t 11) (.seq (.r [.m 12 6] (.cond (.t 12) (.r [.v 4 (.int .i64 0)] .ret) .skip)) (.r [.v 4 (.int .i64 (-1))] .ret)) .skip)) (.seq (.r [.m 13 6] (.cond (.t 13) (.r [.v 4 (.int .i64 1)] .ret) .skip)) (.seq (.r [.m 14 0,.m 15 1,.b 16 (.bin .lss) 14 15] (.cond (.t 16) (.r [.v 4 (.int .i64 (-1))] .ret) .skip)) (.seq (.r [.m 17 0,.m 18 1,.b 19 (.bin .gtr) 17 18] (.cond (.t 19) (.r [.v 4 (.int .i64 1)] .ret) .skip)) (.r [.v 4 (.int .i64 0)] .ret))))))))
theorem ok_cmpIIe : compF Tryz.prog Tryz.f60 ⟨false, false, []⟩ = some (c_cmpII, [.tmp 4], 20) := by kernel_rfl
def c_cmpS16_0 : AC := (.r [.b 12 (.bin .lss) 11 10] (.seq (.w 12 0) (.seq (.block 1 (.r [.m 13 11,.b 14 (.idxp 1) 9 11,.u 15 (.load false 1) 14,.m 5 13,.m 6 15] (.seq (.r [.m 16 5,.m 17 1,.u 18 (.len 1 0) 17,.b 19 (.bin .geq) 16 18] (.cond (.t 19) (.r [.v 4 (.int .i64 1)] .ret) .skip)) (.r [.m 20 1,.m 21 5,.b 22 (.idxp 1) 20 21,.u 23 (.load false 1) 22,.m 7 23] (.r [.m 24 6,.m 25 7,.b 26 (.call 91) 24 25,.m 8 26] (.r [.m 27 8,.a 28 (.bin .neq) 27 0] (.cond (.t 28) (.r [.m 29 8,.m 4 29] .ret) .skip))))))) (.reg [.a 30 (.bin .add) 11 1,.m 11 30]))))
def c_cmpS16 : AC := (.r [.v 4 (.int .i64 0)] (.seq (.r [.m 9 0,.u 10 (.len 1 0) 9,.v 11 (.int .i64 0)] (.block 0 (.loop c_cmpS16_0))) (.seq (.r [.m 31 0,.u 32 (.len 1 0) 31,.m 33 1,.u 34 (.len 1 0) 33,.b 35 (.bin .lss) 32 34] (.cond (.t 35) (.r [.v 4 (.int .i64 (-1))] .ret) .skip)) (.r [.v 4 (.int .i64 0)] .ret))))
theorem ok_cmpS16e : compF Tryz.prog Tryz.f61 ⟨false, false, []⟩ = some (c_cmpS16, [.tmp 4], 36) := by kernel_rfl
def c_cmpS8_0 : AC := (.r [.b 12 (.bin .lss) 11 10] (.seq (.w 12 0) (.seq (.block 1 (.r [.m 13 11,.b 14 (.idxp 1) 9 11,.u 15 (.load false 1) 14,.m 5 13,.m 6 15] (.seq (.r [.m 16 5,.m 17 1,.u 18 (.len 1 0) 17,.b 19 (.bin .geq) 16 18] (.cond (.t 19) (.r [.v 4 (.int .i64 1)] .ret) .skip)) (.r [.m 20 1,.m 21 5,.b 22 (.idxp 1) 20 21,.u 23 (.load false 1) 22,.m 7 23] (.r [.m 24 6,.m 25 7,.b 26 (.call 92) 24 25,.m 8 26] (.r [.m 27 8,.a 28 (.bin .neq) 27 0] (.cond (.t 28) (.r [.m 29 8,.m 4 29] .ret) .skip))))))) (.reg [.a 30 (.bin .add) 11 1,.m 11 30]))))
def c_cmpS8 : AC := (.r [.v 4 (.int .i64 0)] (.seq (.r [.m 9 0,.u 10 (.len 1 0) 9,.v 11 (.int .i64 0)] (.block 0 (.loop c_cmpS8_0))) (.seq (.r [.m 31 0,.u 32 (.len 1 0) 31,.m 33 1,.u 34 (.len 1 0) 33,.b 35 (.bin .lss) 32 34] (.cond (.t 35) (.r [.v 4 (.int .i64 (-1))] .ret) .skip)) (.r [.v 4 (.int .i64 0)] .ret))))
theorem ok_cmpS8e : compF Tryz.prog Tryz.f62 ⟨false, false, []⟩ = some (c_cmpS8, [.tmp 4], 36) := by kernel_rfl
def c_cLess : AC := (.r [.u 2 .box 0,.u 3 .box 1,.v 4 (.bool false)] (.seq (.par (.step 0 (.u 5 (.fld 0) 2) (.step 3 (.u 8 (.fld 0) 3) (.step 7 (.u 12 (.fld 0) 2) (.step 9 (.u 14 (.fld 0) 3) (.step 12 (.u 17 (.fld 1) 2) (.step 14 (.u 19 (.fld 1) 3) (.step 1 (.u 6 (.load false 1) 5) (.step 2 (.u 7 (.len 1 0) 6) (.step 4 (.u 9 (.load false 1) 8) (.step 5 (.u 10 (.len 1 0) 9) (.step 6 (.b 11 (.pcall 60) 7 10) (.step 8 (.u 13 (.load false 1) 12) (.step 10 (.u 15 (.load false 1) 14) (.step 11 (.b 16 (.pcall 61) 13 15) (.step 13 (.u 18 (.load false 1) 17) (.step 15 (.u 20 (.load false 1) 19) (.step 16 (.b 21 (.pcall 62) 18 20) (.step 17 (.p 22 (.bslice 1 3 (.int .i64 0) [0, 1, 2]) [.t 11,.t 16,.t 21]) (.step 18 (.u 23 (.pcall 59) 22) (.step 19 (.a 24 (.bin .lss) 23 0) (.step 20 (.m 4 24) .done)))))))))))))))))))))) .ret))
theorem ok_cLesse : compF Tryz.prog Tryz.f26 ⟨false, false, []⟩ = some (c_cLess, [.tmp 4], 25) := by kernel_rfl
theorem nanI_c (hP : PE E) (W : AW) (a : Int) : ACalls E 90 [.int .i64 a] W fun Y W' => Y = .bool false ∧ W' = W := by
 refine ACalls.of hP Tryz.func90 ok_nanIe (by simp) fun _ _ => ?_
 simp only [c_nanI, BZ, ↓reduceIte, nE, reduceCtorEq]
 exact ⟨_, rfl, _, _, .weak weak_id, lr _, by simp, rfl⟩
theorem cmpII_c (hP : PE E) (W : AW) (a b : Int) : ACalls E 60 [.int .i64 a, .int .i64 b] W fun Y W' => Y = .int .i64 (sgn a b) ∧ W' = W := by
 refine ACalls.of hP Tryz.func60 ok_cmpIIe (by simp) fun _ _ => ?_
 simp only [c_cmpII, BZ, ↓reduceIte, reduceCtorEq]
 refine pc (nanI_c hP _ _) ?_
 simp only [BZ, ↓reduceIte, nE]
 refine pc (nanI_c hP _ _) ?_
 by_cases h1 : a < b
 ·simp only [BX, ↓reduceIte, nE, reduceCtorEq, decide_eq_true h1]
  exact ⟨_, rfl, _, _, .weak weak_id, lr _, by simp [sgn, h1], rfl⟩
 ·by_cases h2 : a > b
  ·simp only [BX, ↓reduceIte, nE, reduceCtorEq, decide_eq_false h1, decide_eq_true h2]
   exact ⟨_, rfl, _, _, .weak weak_id, lr _, by simp [sgn, h1, h2], rfl⟩
  ·simp only [BX, ↓reduceIte, nE, reduceCtorEq, decide_eq_false h1, decide_eq_false h2]
   exact ⟨_, rfl, _, _, .weak weak_id, lr _, by simp [sgn, h1, h2], rfl⟩
def cmpL (a b : List Int) : Int := if a = b then 0 else if lexLt a b = true then -1 else 1
theorem cmpL_at {a b : List Int} {k : Nat} (h : a.take k = b.take k) (ha : k < a.length) (hb : k < b.length) (hne : sgn (a.getD k 0) (b.getD k 0) ≠ 0) : cmpL a b = sgn (a.getD k 0) (b.getD k 0) := by
 have hd : a.getD k 0 ≠ b.getD k 0 := fun e => hne (by rw [e]; simp [sgn])
 unfold cmpL
 rw [if_neg (ne_atD ha hb hd), lex_at h ha hb hd]
 unfold sgn
 simp only [decide_eq_true_eq]
 split
 ·rfl
 ·rw [if_pos (by omega)]
theorem sgn_eq {x y : Int} (h : sgn x y = 0) : x = y := by
 unfold sgn at h
 split at h
 ·omega
 ·split at h <;> omega
theorem cmpL_end {a b : List Int} {k : Nat} (h : a.take k = b.take k) (ha : k = b.length) (hb : k < a.length) : cmpL a b = 1 := by
 unfold cmpL
 rw [if_neg (fun e => by rw [e] at hb; omega), lex_end h (.inr ⟨ha, by omega⟩), if_neg]
 simp only [decide_eq_true_eq]; omega
theorem cmpL_end2 {a b : List Int} (h : a.take a.length = b.take a.length) (hb : a.length ≤ b.length) : cmpL a b = if a.length < b.length then -1 else 0 := by
 unfold cmpL
 by_cases e : a.length < b.length
 ·rw [if_pos e, if_neg (fun h => by rw [h] at e; omega), lex_end h (.inl ⟨rfl, hb⟩), if_pos (decide_eq_true e)]
 ·have h2 : a.length = b.length := by omega
  rw [tkl, h2, tkl] at h
  rw [if_neg e, if_pos h]
theorem cmpS16_c (hP : PE E) (W : AW) {v w : V} {a b : List Int} (i : isS 1 v (intsV a)) (j : isS 1 w (intsV b)) (l1 : a.length < 2 ^ 40) (_ : b.length < 2 ^ 40) : ACalls E 61 [v, w] W fun Y W' => Y = .int .i64 (cmpL a b) ∧ W' = W := by
 refine ACalls.of hP Tryz.func61 ok_cmpS16e (by simp) fun _ hok => ?_
 simp (maxSteps:=9^9) (disch:=omega) only [BZ, ↓reduceIte, reduceCtorEq, c_cmpS16, i.len, ints_len]
 rw [e_loop]
 refine alp (fun (k : Nat) A1 W1 => A1 0 = some v ∧ A1 1 = some w ∧ A1 9 = some v ∧ A1 10 = some (.int .i64 (a.length : Nat)) ∧ A1 11 = some (.int .i64 (k : Nat)) ∧ k ≤ a.length ∧ k ≤ b.length ∧ a.take k = b.take k ∧ W1 = W) (fun k => a.length - k) 0
  ⟨rfl, rfl, rfl, rfl, rfl, Nat.zero_le _, Nat.zero_le _, rfl, rfl⟩ ?_
 rintro k A1 _ ⟨q0, q1, q9, q10, q11, qa, qb, qt, rfl⟩ _
 by_cases hk : k < a.length
 ·by_cases hb : k < b.length
  ·have c1 : decide (((k : Nat) : Int) ≥ ((b.length : Nat) : Int)) = false := decide_eq_false (by omega)
   simp (maxSteps:=9^9) (disch:=omega) only [BX, ↓reduceIte, nE, BM, c_cmpS16_0, q1, q9, q10, q11, clt, hk, dT, i.idx (ints_getD hk), j.idx (ints_getD hb), j.len, ints_len, c1]
   refine pc (cmp16_c hP _ _ _) ?_
   by_cases h0 : sgn (a.getD k 0) (b.getD k 0) = 0
   ·have c2 : (sgn (a.getD k 0) (b.getD k 0) != 0) = false := by rw [h0]; rfl
    simp (maxSteps:=9^9) (disch:=omega) only [BX, ↓reduceIte, nE, reduceCtorEq, q0, q1, q9, q10, q11, c2, wadd1]
    exact ⟨k + 1, ⟨tt, tt, tt, tt, tt, hk, hb, take_extD qt hk hb (sgn_eq h0), tt⟩, by omega, lr _⟩
   ·have c2 : (sgn (a.getD k 0) (b.getD k 0) != 0) = true := bne_iff_ne.2 h0
    simp (maxSteps:=9^9) (disch:=omega) only [BX, ↓reduceIte, nE, c2]
    exact ⟨_, rfl, _, _, .weak weak_id, lr _, by rw [cmpL_at qt hk hb h0], rfl⟩
  ·have c1 : decide (((k : Nat) : Int) ≥ ((b.length : Nat) : Int)) = true := decide_eq_true (by omega)
   simp (maxSteps:=9^9) (disch:=omega) only [BX, ↓reduceIte, nE, BM, c_cmpS16_0, q1, q9, q10, q11, clt, hk, dT, i.idx (ints_getD hk), j.len, ints_len, c1]
   exact ⟨_, rfl, _, _, .weak weak_id, lr _, by rw [cmpL_end qt (by omega) hk], rfl⟩
 ·obtain rfl : k = a.length := by omega
  have he := cmpL_end2 qt qb
  by_cases hlt : a.length < b.length
  ·rw [if_pos hlt] at he
   simp (maxSteps:=9^9) (disch:=omega) only [BX, ↓reduceIte, nE, reduceCtorEq, c_cmpS16_0, q0, q1, q10, q11, clt, hk, dF, i.len, j.len, ints_len, hlt, dT]
   exact ⟨_, rfl, _, _, .weak weak_id, lr _, by rw [he], rfl⟩
  ·rw [if_neg hlt] at he
   simp (maxSteps:=9^9) (disch:=omega) only [BX, ↓reduceIte, nE, reduceCtorEq, c_cmpS16_0, q0, q1, q10, q11, clt, hk, dF, i.len, j.len, ints_len, hlt]
   exact ⟨_, rfl, _, _, .weak weak_id, lr _, by rw [he], rfl⟩
theorem cmpS8_c (hP : PE E) (W : AW) {v w : V} {a b : List Int} (i : isS 1 v (u8s a)) (j : isS 1 w (u8s b)) (l1 : a.length < 2 ^ 40) (_ : b.length < 2 ^ 40) : ACalls E 62 [v, w] W fun Y W' => Y = .int .i64 (cmpL a b) ∧ W' = W := by
 refine ACalls.of hP Tryz.func62 ok_cmpS8e (by simp) fun _ hok => ?_
 simp (maxSteps:=9^9) (disch:=omega) only [BZ, ↓reduceIte, reduceCtorEq, c_cmpS8, i.len, u8s_len]
 rw [e_loop]
 refine alp (fun (k : Nat) A1 W1 => A1 0 = some v ∧ A1 1 = some w ∧ A1 9 = some v ∧ A1 10 = some (.int .i64 (a.length : Nat)) ∧ A1 11 = some (.int .i64 (k : Nat)) ∧ k ≤ a.length ∧ k ≤ b.length ∧ a.take k = b.take k ∧ W1 = W) (fun k => a.length - k) 0
  ⟨rfl, rfl, rfl, rfl, rfl, Nat.zero_le _, Nat.zero_le _, rfl, rfl⟩ ?_
 rintro k A1 _ ⟨q0, q1, q9, q10, q11, qa, qb, qt, rfl⟩ _
 by_cases hk : k < a.length
 ·by_cases hb : k < b.length
  ·have c1 : decide (((k : Nat) : Int) ≥ ((b.length : Nat) : Int)) = false := decide_eq_false (by omega)
   simp (maxSteps:=9^9) (disch:=omega) only [BX, ↓reduceIte, nE, BM, c_cmpS8_0, q1, q9, q10, q11, clt, hk, dT, i.idx (u8_getD hk), j.idx (u8_getD hb), j.len, u8s_len, c1]
   refine pc (cmp8_c hP _ _ _) ?_
   by_cases h0 : sgn (a.getD k 0) (b.getD k 0) = 0
   ·have c2 : (sgn (a.getD k 0) (b.getD k 0) != 0) = false := by rw [h0]; rfl
    simp (maxSteps:=9^9) (disch:=omega) only [BX, ↓reduceIte, nE, reduceCtorEq, q0, q1, q9, q10, q11, c2, wadd1]
    exact ⟨k + 1, ⟨tt, tt, tt, tt, tt, hk, hb, take_extD qt hk hb (sgn_eq h0), tt⟩, by omega, lr _⟩
   ·have c2 : (sgn (a.getD k 0) (b.getD k 0) != 0) = true := bne_iff_ne.2 h0
    simp (maxSteps:=9^9) (disch:=omega) only [BX, ↓reduceIte, nE, c2]
    exact ⟨_, rfl, _, _, .weak weak_id, lr _, by rw [cmpL_at qt hk hb h0], rfl⟩
  ·have c1 : decide (((k : Nat) : Int) ≥ ((b.length : Nat) : Int)) = true := decide_eq_true (by omega)
   simp (maxSteps:=9^9) (disch:=omega) only [BX, ↓reduceIte, nE, BM, c_cmpS8_0, q1, q9, q10, q11, clt, hk, dT, i.idx (u8_getD hk), j.len, u8s_len, c1]
   exact ⟨_, rfl, _, _, .weak weak_id, lr _, by rw [cmpL_end qt (by omega) hk], rfl⟩
 ·obtain rfl : k = a.length := by omega
  have he := cmpL_end2 qt qb
  by_cases hlt : a.length < b.length
  ·rw [if_pos hlt] at he
   simp (maxSteps:=9^9) (disch:=omega) only [BX, ↓reduceIte, nE, reduceCtorEq, c_cmpS8_0, q0, q1, q10, q11, clt, hk, dF, i.len, j.len, u8s_len, hlt, dT]
   exact ⟨_, rfl, _, _, .weak weak_id, lr _, by rw [he], rfl⟩
  ·rw [if_neg hlt] at he
   simp (maxSteps:=9^9) (disch:=omega) only [BX, ↓reduceIte, nE, reduceCtorEq, c_cmpS8_0, q0, q1, q10, q11, clt, hk, dF, i.len, j.len, u8s_len, hlt]
   exact ⟨_, rfl, _, _, .weak weak_id, lr _, by rw [he], rfl⟩
theorem cmp_less (a b : List Int × List Int) : decide ((if sgn (a.1.length : Int) (b.1.length : Int) ≠ 0 then sgn (a.1.length : Int) (b.1.length : Int) else if cmpL a.1 b.1 ≠ 0 then cmpL a.1 b.1 else cmpL a.2 b.2) < 0) = lessR a b := by
 unfold lessR
 by_cases hl : a.1.length = b.1.length
 ·have e0 : sgn (a.1.length : Int) (b.1.length : Int) = 0 := by rw [hl]; simp [sgn]
  rw [if_neg (show ¬ (sgn (a.1.length : Int) (b.1.length : Int) ≠ 0) from fun h => h e0), if_neg (show ¬ (a.1.length ≠ b.1.length) from fun h => h hl)]
  have key : ∀ x y : List Int, (x ≠ y → decide (cmpL x y < 0) = lexLt x y) := fun x y h => by
   unfold cmpL
   rw [if_neg h]
   cases lexLt x y <;> simp
  by_cases e : a.1 = b.1
  ·rw [if_neg (show ¬ (cmpL a.1 b.1 ≠ 0) by unfold cmpL; simp [e]), if_pos e]
   by_cases e2 : a.2 = b.2
   ·rw [e2, lex_refl]; unfold cmpL; simp
   ·exact key _ _ e2
  ·have h1 : cmpL a.1 b.1 ≠ 0 := by
    unfold cmpL
    rw [if_neg e]
    split <;> decide
   rw [if_pos h1, if_neg e]
   exact key _ _ e
 ·have h1 : sgn (a.1.length : Int) (b.1.length : Int) ≠ 0 := fun h => hl (by have := sgn_eq h; omega)
  rw [if_pos h1, if_pos hl]
  unfold sgn
  by_cases h2 : (a.1.length : Int) < (b.1.length : Int)
  ·rw [if_pos h2, decide_eq_true (show a.1.length < b.1.length by omega)]; rfl
  ·rw [if_neg h2, if_pos (by omega), decide_eq_false (show ¬ a.1.length < b.1.length by omega)]; rfl
theorem cLess_c (hP : PE E) (W : AW) {v1 v2 w1 w2 : V} {a b : List Int × List Int} (i1 : isS 1 v1 (intsV a.1)) (i2 : isS 1 v2 (u8s a.2)) (j1 : isS 1 w1 (intsV b.1)) (j2 : isS 1 w2 (u8s b.2)) (l1 : a.1.length < 2 ^ 40) (l2 : a.2.length < 2 ^ 40) (m1 : b.1.length < 2 ^ 40) (m2 : b.2.length < 2 ^ 40) :
  ACalls E 26 [.agg [v1, v2], .agg [w1, w2]] W fun Y W' => Y = .bool (lessR a b) ∧ W' = W := by
 refine ACalls.of hP Tryz.func26 ok_cLesse (by simp) fun _ hok => ?_
 refine awp_start hok ?_
 simp (maxSteps:=9^9) (disch:=omega) only [BZ, ↓reduceIte, nE, BM, BD, c_cLess, i1.len, j1.len, ints_len]
 refine pcall_go rfl (cmpII_c hP _ _ _) ?_
 simp (maxSteps:=9^9) (disch:=omega) only [BS, BC, ↓reduceIte, nE, BM]
 refine pcall_go (by simp only [mcs, List.map_nil, i1.frz, j1.frz]) (cmpS16_c hP _ i1 j1 l1 m1) ?_
 simp (maxSteps:=9^9) (disch:=omega) only [BS, BC, ↓reduceIte, nE, BM]
 refine pcall_go (by simp only [mcs, List.map_nil, i2.frz, j2.frz]) (cmpS8_c hP _ i2 j2 l2 m2) ?_
 simp (maxSteps:=9^9) (disch:=omega) only [BS, ↓reduceIte, nE, b3]
 refine pcall_go rfl (or3_c hP _ _ _ _) ?_
 simp (maxSteps:=9^9) (disch:=omega) only [BS, BC, ↓reduceIte, cmp_less]
 exact ⟨_, rfl, _, W, backX hok rfl, lr _, rfl, rfl⟩
def c_rIsC_1 : AC := (.seq (.r [.m 35 11,.m 36 10,.b 37 (.bin .lss) 35 36] (.w 37 2)) (.seq (.block 3 (.seq (.par (.step 0 (.u 40 (.fld 0) 5) (.step 2 (.m 42 11) (.step 5 (.u 45 (.fld 0) 5) (.step 7 (.m 47 10) (.step 1 (.u 41 (.load false 1) 40) (.step 3 (.b 43 (.idxp 1) 41 42) (.step 4 (.u 44 (.load false 1) 43) (.step 6 (.u 46 (.load false 1) 45) (.step 8 (.b 48 (.idxp 1) 46 47) (.step 9 (.u 49 (.load false 1) 48) (.step 10 (.b 50 (.bin .eql) 44 49) .done)))))))))))) (.cond (.t 50) (.r [.v 6 (.bool false)] .ret) .skip))) (.reg [.m 38 11,.a 39 (.bin .add) 38 1,.m 11 39])))
def c_rIsC_0 : AC := (.seq (.r [.m 30 10,.m 31 8,.b 32 (.bin .lss) 30 31] (.w 32 0)) (.seq (.block 1 (.seq (.r [.v 11 (.int .i64 0)] (.block 2 (.loop c_rIsC_1))) (.seq (.seq (.par (.step 0 (.u 51 (.fld 0) 5) (.step 2 (.m 53 10) (.step 5 (.u 56 (.fld 0) 5) (.step 1 (.u 52 (.load false 1) 51) (.step 3 (.b 54 (.idxp 1) 52 53) (.step 4 (.u 55 (.load false 1) 54) (.step 6 (.u 57 (.load false 1) 56) (.step 7 (.a 58 (.idxp 1) 57 0) (.step 8 (.u 59 (.load false 1) 58) (.step 9 (.b 60 (.bin .lss) 55 59) (.step 10 (.m 61 60) (.step 11 (.U 62 (.fld 1) 5 61 false) (.step 13 (.M 64 10 61 false) (.step 17 (.M 68 7 61 false) (.step 12 (.U 63 (.load false 1) 62 61 false) (.step 14 (.B 65 (.idxp 1) 63 64 61 false) (.step 15 (.U 66 (.load false 1) 65 61 false) (.step 16 (.U 67 (.conv .i64) 66 61 false) (.step 18 (.B 69 (.bin .gtr) 67 68 61 false) (.step 19 (.p 70 .pick [.t 61,.T,.t 69]) (.step 20 (.m 71 70) (.step 21 (.M 72 0 71 false) (.step 22 (.U 73 (.fld 0) 5 71 false) (.step 24 (.M 75 10 71 false) (.step 27 (.U 78 (.fld 0) 5 71 false) (.step 29 (.M 80 10 71 false) (.step 30 (.P 81 (.bin .add) [.t 80,.i 1] 71 false) (.step 31 (.M 82 8 71 false) (.step 32 (.B 83 (.bin .rem) 81 82 71 false) (.step 35 (.U 86 (.fld 1) 5 71 false) (.step 37 (.M 88 10 71 false) (.step 23 (.U 74 (.load false 1) 73 71 false) (.step 25 (.B 76 (.idxp 1) 74 75 71 false) (.step 26 (.U 77 (.load false 1) 76 71 false) (.step 28 (.U 79 (.load false 1) 78 71 false) (.step 33 (.B 84 (.idxp 1) 79 83 71 false) (.step 34 (.U 85 (.load false 1) 84 71 false) (.step 36 (.U 87 (.load false 1) 86 71 false) (.step 38 (.B 89 (.idxp 1) 87 88 71 false) (.step 39 (.U 90 (.load false 1) 89 71 false) (.step 40 (.P 91 (.build [.int .u16 0,.int .u16 0,.int .u8 0] [(0, 1), (1, 1), (2, 1)]) [.t 77,.t 85,.t 90] 71 false) (.step 41 (.B 92 (.call 57) 72 91 71 false) (.step 42 (.U 93 (.un .not) 92 71 false) (.step 43 (.p 94 .pick [.t 71,.T,.t 93]) .done))))))))))))))))))))))))))))))))))))))))))))) (.cond (.t 94) (.r [.v 6 (.bool false)] .ret) .skip)) (.reg [.m 95 9,.m 96 95,.U 97 (.fld 1) 5 96 false,.U 98 (.load false 1) 97 96 false,.M 99 10 96 false,.B 100 (.idxp 1) 98 99 96 false,.U 101 (.load false 1) 100 96 false,.U 102 (.conv .i64) 101 96 false,.M 103 7 96 false,.B 104 (.bin .eql) 102 103 96 false,.p 105 .pick [.t 96,.T,.t 104],.m 9 105])))) (.reg [.m 33 10,.a 34 (.bin .add) 33 1,.m 10 34])))
def c_rIsC : AC := (.r [.u 5 .box 2,.v 6 (.bool false)] (.r [.m 12 1,.u 13 (.call 45) 12,.m 7 13] (.r [.u 14 (.fld 0) 5,.u 15 (.load false 1) 14,.u 16 (.len 1 0) 15,.m 8 16] (.seq (.r [.m 17 7,.a 18 (.bin .lss) 17 0,.m 19 18,.M 20 8 19 false,.P 21 (.bin .lss) [.t 20,.i 2] 19 false,.p 22 .pick [.t 19,.T,.t 21],.m 23 22,.U 24 (.fld 1) 5 23 false,.U 25 (.load false 1) 24 23 false,.U 26 (.len 1 0) 25 23 false,.M 27 8 23 false,.B 28 (.bin .neq) 26 27 23 false,.p 29 .pick [.t 23,.T,.t 28]] (.cond (.t 29) (.r [.v 6 (.bool false)] .ret) .skip)) (.r [.v 9 (.bool false)] (.seq (.r [.v 10 (.int .i64 0)] (.block 0 (.loop c_rIsC_0))) (.r [.m 106 9,.m 6 106] .ret)))))))
theorem ok_rIsCe : compF Tryz.prog Tryz.f24 ⟨false, false, []⟩ = some (c_rIsC, [.tmp 6], 107) := by kernel_rfl
structure GoodR (L : List Ed) (own : Int) (ids ks : List Int) (i : Nat) : Prop where
 nw : ids.getD i 0 ∉ ids.take i
 fst : ids.getD 0 0 ≤ ids.getD i 0
 le : ks.getD i 0 ≤ own
 ed : (⟨ids.getD i 0, ids.getD ((i + 1) % ids.length) 0, ks.getD i 0⟩ : Ed) ∈ L
theorem IsC.good {L : List Ed} {own : Int} {ids ks : List Int} (h : IsC L own ids ks) {i : Nat} (hi : i < ids.length) : GoodR L own ids ks i := by
 have hg : ids.getD i 0 = ids[i] := by rw [List.getD_eq_getElem?_getD, gEg hi]; rfl
 have hg2 : ks.getD i 0 ∈ ks := by rw [List.getD_eq_getElem?_getD, gEg (by rw [h.len]; exact hi)]; exact gmm _
 refine ⟨fun hm => ?_, h.fst _ (hg ▸ gmm _), h.le _ hg2, h.ed i hi⟩
 obtain ⟨j, hj, e⟩ := List.mem_take_iff_getElem.1 hm
 rw [hg] at e
 exact List.pairwise_iff_getElem.1 (List.nodup_iff_pairwise_ne.1 h.nd) j i (by omega) hi (by omega) e
theorem IsC.of {L : List Ed} {own : Int} {ids ks : List Int} (h2 : 2 ≤ ids.length) (hl : ks.length = ids.length) (ho : own ∈ ks) (h : ∀ i, i < ids.length → GoodR L own ids ks i) : IsC L own ids ks := by
 refine ⟨h2, hl, ho, fun k hk => ?_, fun x hx => ?_, nodup_take fun i hi => (h i hi).nw, fun i hi => (h i hi).ed⟩
 ·obtain ⟨i, hi, rfl⟩ := List.getElem_of_mem hk
  have := (h i (by omega)).le
  rwa [List.getD_eq_getElem?_getD, gEg hi] at this
 ·obtain ⟨i, hi, rfl⟩ := List.getElem_of_mem hx
  have := (h i hi).fst
  rwa [List.getD_eq_getElem?_getD (i := i), gEg hi] at this
theorem rIs_in {W : AW} {v1 v2 : V} {ids : List Int} (i1 : isS 1 v1 (intsV ids)) (l1 : ids.length < 2 ^ 20) {i : Nat} (hi : i < ids.length) {x0 x7 x8 x9 : V} {A : AFr} {Q : Exit → AFr → AW → Prop} (a0 : A 0 = some x0) (a5 : A 5 = some (.ptr (rf W.nx 0) 0)) (a7 : A 7 = some x7) (a8 : A 8 = some x8) (a9 : A 9 = some x9) (a10 : A 10 = some (.int .i64 (i : Nat))) (a11 : A 11 = some (.int .i64 0))
  (hret : ∀ A', A' 6 = some (.bool false) → ids.getD i 0 ∈ ids.take i → Q .ret A' (X W W.nx [.row [v1, v2]]))
  (hex : ∀ A', A' 0 = some x0 → A' 5 = some (.ptr (rf W.nx 0) 0) → A' 7 = some x7 → A' 8 = some x8 → A' 9 = some x9 → A' 10 = some (.int .i64 (i : Nat)) → ids.getD i 0 ∉ ids.take i → Q (.exit 2) A' (X W W.nx [.row [v1, v2]])) :
  ALoop (awp E c_rIsC_1) Q A (X W W.nx [.row [v1, v2]]) := by
 have hgi := ints_getD hi
 refine alp (fun (k : Nat) A1 W1 => A1 0 = some x0 ∧ A1 5 = some (.ptr (rf W.nx 0) 0) ∧ A1 7 = some x7 ∧ A1 8 = some x8 ∧ A1 9 = some x9 ∧ A1 10 = some (.int .i64 (i : Nat)) ∧ A1 11 = some (.int .i64 (k : Nat)) ∧ k ≤ i ∧ ids.getD i 0 ∉ ids.take k ∧ W1 = X W W.nx [.row [v1, v2]]) (fun k => i - k) 0
  ⟨a0, a5, a7, a8, a9, a10, a11, Nat.zero_le _, by simp, rfl⟩ ?_
 rintro k A1 _ ⟨q0, q5, q7, q8, q9, q10, q11, qk, qn, rfl⟩ _
 by_cases hk : k < i
 ·have hkl : k < ids.length := by omega
  have hgk := ints_getD hkl
  have hge : ids.getD k 0 = ids[k] := by rw [List.getD_eq_getElem?_getD, gEg hkl]; rfl
  by_cases he : ids.getD k 0 = ids.getD i 0
  ·have c3 : (ids.getD k 0 == ids.getD i 0) = true := by rw [he]; exact beq_self_eq_true _
   simp (maxSteps:=9^9) (disch:=omega) only [BX, ↓reduceIte, nE, BM, BD, c_rIsC_1, q5, q10, q11, clt, hk, dT, i1.idx hgk, i1.idx hgi, c3]
   refine hret _ tt ?_
   rw [← he, hge]
   exact List.mem_take_iff_getElem.2 ⟨k, by omega, rfl⟩
  ·have c3 : (ids.getD k 0 == ids.getD i 0) = false := beq_eq_false_iff_ne.2 he
   simp (maxSteps:=9^9) (disch:=omega) only [BX, ↓reduceIte, nE, reduceCtorEq, BM, BD, c_rIsC_1, q0, q5, q7, q8, q9, q10, q11, clt, hk, dT, i1.idx hgk, i1.idx hgi, c3, wadd1]
   refine ⟨k + 1, ⟨tt, tt, tt, tt, tt, tt, tt, hk, fun hm => ?_, tt⟩, by omega, lr _⟩
   rw [tao, gEg hkl] at hm
   rcases List.mem_append.1 hm with hm | hm
   ·exact qn hm
   ·exact he (by rw [hge, List.mem_singleton.1 hm])
 ·obtain rfl : k = i := by omega
  simp (maxSteps:=9^9) (disch:=omega) only [BX, ↓reduceIte, nE, BM, BD, c_rIsC_1, q10, q11, clt, hk, dF]
  exact hex _ tt tt tt tt tt tt qn
theorem rIsC_c (hP : PE E) (W : AW) {vL v1 v2 : V} {L : List Ed} {ids ks : List Int} (hv : isS 3 vL (L.map Ed.V)) (hL : ∀ e ∈ L, ekOk (ofEd e)) (hl : L.length < 2 ^ 40) (i1 : isS 1 v1 (intsV ids)) (i2 : isS 1 v2 (u8s ks)) (hi : ∀ x ∈ ids, 0 ≤ x ∧ x < 65536) (hk : ∀ x ∈ ks, 0 ≤ x ∧ x < 256) (l1 : ids.length < 2 ^ 20) (_ : ks.length < 2 ^ 20) (k : Int) :
  ACalls E 24 [vL, .int .u8 k, .agg [v1, v2]] W fun Y W' => Y = .bool (isR (fun e => decide (e ∈ L)) k ids ks) ∧ W' = W := by
 refine ACalls.of hP Tryz.func24 ok_rIsCe (by simp) fun _ hok => ?_
 refine awp_start hok ?_
 have fin : ∀ l b, b = isR (fun e => decide (e ∈ L)) k ids ks → ∃ X0, some (V.bool b) = some X0 ∧ ∃ Y W', RetV X0 (X W W.nx l) Y W' ∧ W.nx ≤ W'.nx ∧ Y = .bool (isR (fun e => decide (e ∈ L)) k ids ks) ∧ W' = W := fun l b hb => ⟨_, rfl, _, W, backX hok rfl, lr _, by rw [hb], rfl⟩
 simp (maxSteps:=9^9) (disch:=omega) only [BZ, ↓reduceIte, nE, BM, BD, c_rIsC]
 refine pc (rOwn_c hP _ k) ?_
 simp (maxSteps:=9^9) (disch:=omega) only [BZ, ↓reduceIte, nE, BM, BD, i1.len, ints_len]
 cases ho : ownR k with
 | none =>
  have e1 : decide (ownI k < 0) = true := by simp [ownI, ho]
  repeat (rw [guard_if]; simp (maxSteps:=9^9) (disch:=omega) only [BX, ↓reduceIte, nE, BM, e1])
  exact fin _ _ (by simp [isR, ho])
 | some own =>
  have ho3 : own = 0 ∨ own = 1 ∨ own = 2 := by
   unfold ownR at ho
   split at ho
   ·cases ho; exact .inl rfl
   ·split at ho
    ·cases ho; exact .inr (.inl rfl)
    ·split at ho
     ·cases ho; exact .inr (.inr rfl)
     ·cases ho
  have hoi : ownI k = own := by simp [ownI, ho]
  have e1 : decide (own < 0) = false := by simp; omega
  rw [hoi]
  by_cases h2 : ids.length < 2
  ·have e2 : decide ((ids.length : Int) < 2) = true := by simp; omega
   repeat (rw [guard_if]; simp (maxSteps:=9^9) (disch:=omega) only [BX, ↓reduceIte, nE, BM, e1, e2])
   exact fin _ _ (by simp [isR, ho]; intro h; omega)
  have e2 : decide ((ids.length : Int) < 2) = false := by simp; omega
  by_cases h3 : ks.length ≠ ids.length
  ·have e3 : ((ks.length : Int) != (ids.length : Int)) = true := by simp; omega
   repeat (rw [guard_if]; simp (maxSteps:=9^9) (disch:=omega) only [BX, ↓reduceIte, nE, BM, BD, i2.len, u8s_len, e1, e2, e3])
   exact fin _ _ (by simp [isR, ho, h3])
  have h3 : ks.length = ids.length := Decidable.not_not.1 h3
  have e3 : ((ks.length : Int) != (ids.length : Int)) = false := by simp; omega
  repeat (rw [guard_if]; simp (maxSteps:=9^9) (disch:=omega) only [BX, ↓reduceIte, nE, BM, BD, i2.len, u8s_len, e1, e2, e3])
  have hiff := isR_iff (es := L) (ids := ids) (ks := ks) ho (f := fun e => decide (e ∈ L)) fun _ => rfl
  have bad : ∀ i, i < ids.length → ¬ GoodR L own ids ks i → false = isR (fun e => decide (e ∈ L)) k ids ks := fun i hi hn => by
   cases hr : isR (fun e => decide (e ∈ L)) k ids ks with
   | false => rfl
   | true => exact absurd ((hiff.1 hr).good hi) hn
  have h0 : 0 < ids.length := by omega
  have hat0 := ints_getD h0
  have hix : ∀ W K, sem E (.idxp 1) [v1, .int .i64 0] W K = K (.cptr (V.int .u16 (ids.getD 0 0)).cells) W := fun W K => i1.idx (k := 0) hat0
  rw [e_loop]
  refine alp (fun (i : Nat) A1 W1 => A1 0 = some vL ∧ A1 5 = some (.ptr (rf W.nx 0) 0) ∧ A1 7 = some (.int .i64 own) ∧ A1 8 = some (.int .i64 (ids.length : Nat)) ∧ A1 9 = some (.bool ((ks.take i).any fun x => x == own)) ∧ A1 10 = some (.int .i64 (i : Nat)) ∧ i ≤ ids.length ∧ (∀ j, j < i → GoodR L own ids ks j) ∧ W1 = X W W.nx [.row [v1, v2]]) (fun i => ids.length - i) 0
   ⟨tt, tt, tt, tt, tt, tt, Nat.zero_le _, fun _ h => by omega, rfl⟩ ?_
  rintro i A1 _ ⟨q0, q5, q7, q8, q9, q10, qi, qg, rfl⟩ _
  by_cases hp : i < ids.length
  ·have hat := ints_getD hp
   have hj : (i + 1) % ids.length < ids.length := Nat.mod_lt _ (by omega)
   have hat2 := ints_getD hj
   have hpk : i < ks.length := by omega
   have hat3 := u8_getD hpk
   have hrm : ∀ W K, sem E (.bin .rem) [.int .i64 ((i + 1 : Nat) : Int), .int .i64 (ids.length : Int)] W K = K (.int .i64 (((i + 1) % ids.length : Nat) : Int)) W := fun W K => remQ (by omega)
   have hki := hk _ (getD_in hpk)
   have hwk : IntKind.i64.wrap (ks.getD i 0) = ks.getD i 0 := IntWalk.i64_in _ (by omega)
   simp (maxSteps:=9^9) (disch:=omega) only [BS, e_seq, cond_if, ↓reduceIte, nE, BM, BD, c_rIsC_0, q8, q10, clt, hp, dT, e_loop]
   refine rIs_in i1 l1 hp tt tt tt tt tt tt tt ?_ ?_
   ·intro A2 z6 hm
    simp (maxSteps:=9^9) (disch:=omega) only [BS, BC, z6]
    exact fin _ _ (bad i hp fun h => h.nw hm)
   ·intro A2 z0 z5 z7 z8 z9 z10 hn
    by_cases g1 : ids.getD i 0 < ids.getD 0 0
    ·simp (maxSteps:=9^9) (disch:=omega) only [BZ, ↓reduceIte, nE, BM, BD, z5, z10, i1.idx hat, hix, decide_eq_true g1]
     repeat (rw [guard_if]; simp (maxSteps:=9^9) (disch:=omega) only [BX, ↓reduceIte, nE, BM])
     exact fin _ _ (bad i hp fun h => absurd h.fst (by omega))
    ·by_cases g2 : ks.getD i 0 > own
     ·simp (maxSteps:=9^9) (disch:=omega) only [BZ, ↓reduceIte, nE, BM, BD, z5, z10, i1.idx hat, hix, decide_eq_false g1]
      repeat (rw [guard_if]; simp (maxSteps:=9^9) (disch:=omega) only [BX, ↓reduceIte, nE, BM, BD, z5, z7, z10, i2.idx hat3, hwk, decide_eq_true g2])
      exact fin _ _ (bad i hp fun h => absurd h.le (by omega))
     ·simp (maxSteps:=9^9) (disch:=omega) only [BZ, ↓reduceIte, nE, BM, BD, z5, z10, i1.idx hat, hix, decide_eq_false g1]
      repeat (rw [guard_if]; simp (maxSteps:=9^9) (disch:=omega) only [BS, BC, ↓reduceIte, nE, reduceCtorEq, BM, BD, nA, nL, z0, z5, z7, z8, z10, i1.idx hat, i1.idx hat2, i2.idx hat3, hwk, decide_eq_false g2, wadd1, hrm, hv.frz])
      refine pc (rHasE_c hP _ hv hL hl ⟨ids.getD i 0, ids.getD ((i + 1) % ids.length) 0, ks.getD i 0⟩ ⟨hi _ (getD_in hp), hi _ (getD_in hj), hki⟩) ?_
      by_cases g3 : (⟨ids.getD i 0, ids.getD ((i + 1) % ids.length) 0, ks.getD i 0⟩ : Ed) ∈ L
      ·rw [decide_eq_true g3]
       have hgood : GoodR L own ids ks i := ⟨hn, by omega, by omega, g3⟩
       have hat : (ks.take (i + 1)).any (fun x => x == own) = ((ks.take i).any (fun x => x == own) || (ks.getD i 0 == own)) := by
        rw [tao, gEg hpk, List.any_append, List.getD_eq_getElem?_getD, gEg hpk]
        simp
       cases hm : (ks.take i).any (fun x => x == own) with
       | true =>
        rw [hm] at hat z9
        simp (maxSteps:=9^9) (disch:=omega) only [BS]
        repeat (rw [guard_if]; simp (maxSteps:=9^9) (disch:=omega) only [BS, BC, cond_if, ↓reduceIte, nE, reduceCtorEq, BM, BD, z0, z5, z7, z8, z9, z10, wadd1])
        exact ⟨i + 1, ⟨tt, tt, tt, tt, by rw [hat]; rfl, tt, hp, fun j hji => by
         by_cases e : j = i
         ·subst e; exact hgood
         ·exact qg j (by omega), tt⟩, by omega, lr _⟩
       | false =>
        rw [hm] at hat z9
        simp (maxSteps:=9^9) (disch:=omega) only [BS]
        repeat (rw [guard_if]; simp (maxSteps:=9^9) (disch:=omega) only [BS, BC, cond_if, ↓reduceIte, nE, reduceCtorEq, BM, BD, z0, z5, z7, z8, z9, z10, i2.idx hat3, hwk, wadd1])
        exact ⟨i + 1, ⟨tt, tt, tt, tt, by rw [hat, Bool.false_or], tt, hp, fun j hji => by
         by_cases e : j = i
         ·subst e; exact hgood
         ·exact qg j (by omega), tt⟩, by omega, lr _⟩
      ·rw [decide_eq_false g3]
       simp (maxSteps:=9^9) (disch:=omega) only [BS]
       repeat (rw [guard_if]; simp (maxSteps:=9^9) (disch:=omega) only [BX, ↓reduceIte, nE, BD])
       exact fin _ _ (bad i hp fun h => g3 h.ed)
  ·obtain rfl : i = ids.length := by omega
   simp (maxSteps:=9^9) (disch:=omega) only [BX, ↓reduceIte, nE, BM, BD, c_rIsC_0, q8, q9, q10, clt, hp, dF]
   refine fin _ _ ?_
   rw [← h3, tkl]
   rw [Bool.eq_iff_iff, hiff]
   constructor
   ·intro h
    obtain ⟨x, hx, hxo⟩ := List.any_eq_true.1 h
    have : x = own := by simpa using hxo
    exact IsC.of (by omega) h3 (this ▸ hx) qg
   ·intro h
    exact List.any_eq_true.2 ⟨own, h.ow, by simp⟩
end Go.AL.S
namespace Go.AL.S
open Go Go.AL Go.Proofs Go.Shelf
end Go.AL.S
namespace Go.AL.S
structure TS where
 met : Nat → Nat
 low : Nat → Nat
 gone : Nat → Nat
 wt : Nat → Bool
 way : List Nat
 wtg : List Nat
 ended : List (List Nat)
 cnt : Nat
end Go.AL.S
namespace Go.AL.S
open Go Go.AL Go.Proofs
variable {E : Env}
section
variable {W : AW} {K : V → AW → Prop} {rn n i : Nat} {s : TS}
end
section
variable {W W' : AW} {K : V → AW → Prop} {h : V} {xs : List V} {lo : Nat}
end
end Go.AL.S
