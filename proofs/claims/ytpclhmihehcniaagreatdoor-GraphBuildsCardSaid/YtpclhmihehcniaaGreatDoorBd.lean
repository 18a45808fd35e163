/- What the program's functions do, part 4. Conditions: none. -/
import Derived.Test.YtpclhmihehcniaaGreatDoorBc
open Nat renaming reduceEqDiff → nE, reduceLeDiff → nL, reduceAdd → nA, reduceLT → nT, le_refl → lr
open List renaming getElem?_eq_getElem → gEg, length_map → lmp, getElem_mem → gmm, length_append → lap, length_cons → lcs, mem_singleton → msg, append_nil → apn, mem_append → map', take_length → tkl, map_cons → mcs, map_append → mpp, mem_map → mmp, any_eq_true → aet, length_replicate → lrp, take_add_one → tao, length_take → ltk, mem_filter → mfl
set_option maxRecDepth 100000
set_option maxHeartbeats 2000000
namespace Go.AL.S
open Go Go.AL Go.Proofs
def c_read : AC := (.r [.u 3 .box 0,.u 5 .box 2] (.r [.u 13 (.fld 1) 5,.u 14 (.load false 1) 13,.u 15 (.len 1 0) 14,.m 6 15] (.seq (.r [.m 16 6,.a 17 (.bin .gtr) 16 0] (.cond (.t 17) (.seq (.par (.step 1 (.u 20 (.fld 0) 5) (.step 3 (.u 22 (.fld 1) 5) (.step 5 (.m 24 6) (.step 6 (.a 25 (.bin .sub) 24 1) (.step 0 (.u 19 (.load true 3) 3) (.step 2 (.u 21 (.load false 1) 20) (.step 4 (.u 23 (.load false 1) 22) (.step 7 (.b 26 (.idxp 1) 23 25) (.step 8 (.u 27 (.load false 1) 26) (.step 9 (.p 28 (.call 80) [.t 19,.t 21,.t 27]) (.step 10 (.m 18 28) (.step 11 (.u 29 (.ext 0) 18) (.step 12 (.u 30 (.ext 1) 18) (.step 13 (.m 7 29) (.step 14 (.m 8 30) .done)))))))))))))))) (.r [.m 31 8] (.cond (.t 31) (.reg [.u 32 (.load true 3) 3,.m 33 7,.m 34 1,.p 35 (.call 81) [.t 32,.t 33,.t 34,.c (.int .u8 1)]]) .skip))) .skip)) (.r [.u 37 (.fld 1) 3,.u 38 (.load false 1) 37,.u 39 (.fld 0) 5,.u 40 (.load false 1) 39,.m 41 6,.p 42 (.call 85) [.t 38,.t 40,.t 41],.m 36 42,.u 43 (.ext 0) 36,.u 44 (.ext 1) 36,.m 9 43,.m 10 44] (.r [.m 45 10] (.cond (.t 45) (.r [.u 47 (.load true 3) 3,.u 48 (.fld 0) 5,.u 49 (.load false 1) 48,.m 50 9,.p 51 (.call 80) [.t 47,.t 49,.t 50],.m 46 51,.u 52 (.ext 0) 46,.u 53 (.ext 1) 46,.m 11 52,.m 12 53] (.r [.m 54 12] (.cond (.t 54) (.reg [.u 55 (.load true 3) 3,.m 56 1,.m 57 11,.p 58 (.call 81) [.t 55,.t 56,.t 57,.c (.int .u8 2)]]) .skip))) .skip))))))
theorem ok_reade : compF Tryz.prog Tryz.f42 ⟨false, false, []⟩ = some (c_read, [], 59) := by kernel_rfl
def c_counts_0 : AC := (.r [.b 31 (.bin .lss) 30 29] (.seq (.w 31 0) (.seq (.block 1 (.r [.b 32 (.idxp 1) 28 30,.u 33 (.load false 1) 32,.m 8 33] (.r [.m 35 0,.u 36 (.fld 0) 5,.u 37 (.load false 1) 36,.m 38 8,.p 39 (.call 60) [.t 35,.t 37,.t 38],.m 34 39,.u 40 (.ext 0) 34,.u 41 (.ext 1) 34,.p 9 (.alloc [.int .u16 0,.int .u8 0,.nilsl,.nilsl,.int .u8 0]) [],⟨none,.store 5, [.t 9,.t 40], none⟩,.m 10 41] (.r [.m 42 10,.u 43 (.un .not) 42] (.cond (.t 43) (.r [.v 6 (.bool false)] .ret) .skip))))) (.reg [.a 44 (.bin .add) 30 1,.m 30 44]))))
def c_counts : AC := (.r [.u 5 .box 2,.v 6 (.bool false)] (.seq (.seq (.par (.step 0 (.m 11 0) (.step 1 (.p 12 (.eqn false 0) [.t 11,.c (.nilptr)]) (.step 2 (.m 13 12) (.step 3 (.M 14 1 13 false) (.step 4 (.P 15 (.eqn false 0) [.t 14,.c (.nilptr)] 13 false) (.step 5 (.p 16 .pick [.t 13,.T,.t 15]) (.step 6 (.m 17 16) (.step 7 (.U 18 (.fld 1) 5 17 false) (.step 9 (.M 20 1 17 false) (.step 10 (.U 21 (.fld 0) 5 17 false) (.step 8 (.U 19 (.load false 1) 18 17 false) (.step 11 (.U 22 (.load false 1) 21 17 false) (.step 12 (.B 23 (.pcall 45) 20 22 17 false) (.step 13 (.B 24 (.pcall 51) 19 23 17 false) (.step 14 (.U 25 (.un .not) 24 17 false) (.step 15 (.p 26 .pick [.t 17,.T,.t 25]) .done))))))))))))))))) (.cond (.t 26) (.r [.v 6 (.bool false)] .ret) .skip)) (.seq (.r [.u 27 (.fld 1) 5,.u 28 (.load false 1) 27,.u 29 (.len 1 0) 28,.v 30 (.int .i64 0)] (.block 0 (.loop c_counts_0))) (.r [.v 6 (.bool true)] .ret))))
theorem ok_countse : compF Tryz.prog Tryz.f28 ⟨false, false, []⟩ = some (c_counts, [.tmp 6], 45) := by kernel_rfl
variable {E : Env}
def hd1 : AC → AC
 | .seq a _ => a
 | c => c
def tl1 : AC → AC
 | .seq _ b => b
 | c => c
def rdA : AC := hd1 (tl1 (tl1 c_read))
def rdB : AC := tl1 (tl1 (tl1 c_read))
theorem c_read_eq : c_read = .seq (hd1 c_read) (.seq (hd1 (tl1 c_read)) (.seq rdA rdB)) := rfl
theorem rdB_go (hP : PE E) {W : AW} {p ra rw q g m b3 b5 : Nat} {s : Str} {os : Ods} {hn : V} {P : List Ek} (h : Bd W p ra rw q g m s os hn P) {b : Int} {r : Rd} (hb : 0 ≤ b ∧ b < 65536) (hr : 0 ≤ r.1 ∧ r.1 < 256)
  (hPl : (P ++ nextP s os b r).length < 2 ^ 40) {A : AFr} {Q : Exit → AFr → AW → Prop} (a1 : A 1 = some (.int .u16 b)) (a3 : A 3 = some (.ptr b3 0)) (a5 : A 5 = some (.ptr b5 0)) (a6 : A 6 = some (.int .i64 (nums r.2).length))
  (g3 : W.get b3 = some (.row [.ptr p 0, .ptr q 0, .ptr g 0])) (g5 : W.get b5 = some (.row [.int .u8 r.1, elV r.2]))
  (hQ : ∀ A', Q .normal A' (W.put m (gmap (P ++ nextP s os b r)))) : awp E rdB Q A W := by
 simp only [rdB, tl1, c_read, BZ, ↓reduceIte, nE, BM, BD, a3, a5, a6, g3, g5]
 refine pc (at_c hP W h.od r.1 hr.1 hr.2 (nums r.2).length) ?_
 cases hk : (keyO os r.1)[(nums r.2).length]? with
 | none =>
  have hk' : ¬ (nums r.2).length < (keyO os r.1).length := fun hlt => by rw [gEg hlt] at hk; cases hk
  have e : nextP s os b r = [] := by simp only [nextP, hk]
  simp only [BX, ↓reduceIte, nE, decide_eq_false hk']
  have := hQ
  rw [e, apn, put_same h.hm] at this
  exact this _
 | some v =>
  have hk' : (nums r.2).length < (keyO os r.1).length := by
   rcases Nat.lt_or_ge (nums r.2).length (keyO os r.1).length with h | h
   ·exact h
   ·rw [List.getElem?_eq_none h] at hk; cases hk
  have hv : 0 ≤ v ∧ v < 65536 := (keyO_ok h.od r.1).2 v (List.mem_of_getElem? hk)
  simp only [BX, ↓reduceIte, nE, BM, BD, nA, nL, a3, a5, g3, g5, decide_eq_true hk', Option.getD_some]
  refine pc (writer_c hP W h.st r.1 v hr.1 hr.2 hv.1 hv.2) ?_
  cases hw : (wrR s r.1 v).2 with
  | false =>
   have e : nextP s os b r = [] := by simp only [nextP, hk, hw]; simp
   simp only [BX, ↓reduceIte, nE]
   have := hQ
   rw [e, apn, put_same h.hm] at this
   exact this _
  | true =>
   have e : nextP s os b r = edgeP b (wrR s r.1 v).1 2 := by simp only [nextP, hk, hw, if_true]
   rw [e] at hQ hPl
   simp only [BX, ↓reduceIte, nE, BM, BD, nA, nL, a1, a3, g3]
   refine (edge_c hP _ h.hg h.hm h.lg h.lm h.pk ?_ _ _ 2 ⟨hb, wrR_ok h.st.ok _ _, show (0 : Int) ≤ 2 ∧ (2 : Int) < 256 by decide⟩).mono ?_
   ·rw [lap] at hPl; omega
   rintro _ W3 ⟨rfl, rfl⟩
   simp only [BS]
   exact hQ _
theorem last_at {l : List Int} (h : l ≠ []) : l.getLast? = some (l[l.length - 1]'(by have := List.length_pos_iff.2 h; omega)) := by
 rw [List.getLast?_eq_getElem?, gEg]
theorem rdA_go (hP : PE E) {W : AW} {p ra rw q g m b3 b5 : Nat} {s : Str} {os : Ods} {hn : V} {P : List Ek} (h : Bd W p ra rw q g m s os hn P) {b : Int} {r : Rd} (hb : 0 ≤ b ∧ b < 65536) (hr : 0 ≤ r.1 ∧ r.1 < 256) (hrl : (nums r.2).length < 2 ^ 40) (hrn : ∀ n ∈ nums r.2, 0 ≤ n ∧ n < 65536)
  (hPl : (P ++ lastP s b r).length < 2 ^ 40) {A : AFr} {Q : Exit → AFr → AW → Prop} (a1 : A 1 = some (.int .u16 b)) (a3 : A 3 = some (.ptr b3 0)) (a5 : A 5 = some (.ptr b5 0)) (a6 : A 6 = some (.int .i64 (nums r.2).length))
  (g3 : W.get b3 = some (.row [.ptr p 0, .ptr q 0, .ptr g 0])) (g5 : W.get b5 = some (.row [.int .u8 r.1, elV r.2]))
  (hQ : ∀ A', A' 1 = A 1 → A' 3 = A 3 → A' 5 = A 5 → A' 6 = A 6 → Q .normal A' (W.put m (gmap (P ++ lastP s b r)))) : awp E rdA Q A W := by
 have hs := (elV_isEl r.2).isS
 by_cases hl0 : nums r.2 = []
 ·have e : lastP s b r = [] := by simp only [lastP, hl0]; rfl
  have hd : decide (((nums r.2).length : Int) > 0) = false := by simp [hl0]
  simp only [rdA, hd1, tl1, c_read, BX, ↓reduceIte, a6, hd]
  have := hQ
  rw [e, apn, put_same h.hm] at this
  refine this _ ?_ ?_ ?_ ?_ <;> simp only [BS, ↓reduceIte, nE, a1, a3, a5, a6]
 ·have hpos := List.length_pos_iff.2 hl0
  have hd : decide (((nums r.2).length : Int) > 0) = true := by simp; omega
  have hw1 : IntKind.i64.wrap ((nums r.2).length - 1 : Int) = ((nums r.2).length - 1 : Nat) := by
   have : ((nums r.2).length - 1 : Int) = ((nums r.2).length - 1 : Nat) := by omega
   rw [this]; exact wrapn (by omega) (by omega)
  have hla := last_at hl0
  have hlt : (nums r.2).length - 1 < (nums r.2).length := by omega
  generalize hv : (nums r.2)[(nums r.2).length - 1]'hlt = v at hla
  have hvr : 0 ≤ v ∧ v < 65536 := hrn v (by rw [← hv]; exact gmm _)
  simp only [rdA, hd1, tl1, c_read, BX, ↓reduceIte, nE, BM, BD, nA, nL, a3, a5, a6, hd, g3, g5, hw1, hs.idx (int_at hlt), hv]
  refine pc (writer_c hP W h.st r.1 v hr.1 hr.2 hvr.1 hvr.2) ?_
  cases hw : (wrR s r.1 v).2 with
  | false =>
   have e : lastP s b r = [] := by simp only [lastP, hla, hw]; simp
   simp only [BX, ↓reduceIte, nE]
   have := hQ
   rw [e, apn, put_same h.hm] at this
   refine this _ ?_ ?_ ?_ ?_ <;> simp only [BS, ↓reduceIte, nE, a1, a3, a5, a6]
  | true =>
   have e : lastP s b r = edgeP (wrR s r.1 v).1 b 1 := by simp only [lastP, hla, hw, if_true]
   rw [e] at hQ hPl
   simp only [BX, ↓reduceIte, nE, BM, BD, nA, nL, a1, a3, g3]
   refine (edge_c hP _ h.hg h.hm h.lg h.lm h.pk ?_ _ _ 1 ⟨wrR_ok h.st.ok _ _, hb, show (0 : Int) ≤ 1 ∧ (1 : Int) < 256 by decide⟩).mono ?_
   ·rw [lap] at hPl; omega
   rintro _ W3 ⟨rfl, rfl⟩
   simp only [BS]
   refine hQ _ ?_ ?_ ?_ ?_ <;> simp only [BS, ↓reduceIte, nE, a1, a3, a5, a6]
theorem lastP_ok {s : Str} (h : SOk s) {b : Int} (hb : 0 ≤ b ∧ b < 65536) (r : Rd) : ∀ x ∈ lastP s b r, ekOk x := by
 intro x hx
 obtain ⟨v, _, _, _, e⟩ := mem_lastP.1 hx
 rw [e]; exact ⟨wrR_ok h _ _, hb, show (0 : Int) ≤ 1 ∧ (1 : Int) < 256 by decide⟩
theorem nextP_ok {s : Str} (h : SOk s) (os : Ods) {b : Int} (hb : 0 ≤ b ∧ b < 65536) (r : Rd) : ∀ x ∈ nextP s os b r, ekOk x := by
 intro x hx
 obtain ⟨v, _, _, _, e⟩ := mem_nextP.1 hx
 rw [e]; exact ⟨hb, wrR_ok h _ _, show (0 : Int) ≤ 2 ∧ (2 : Int) < 256 by decide⟩
theorem bread_c (hP : PE E) (W : AW) {p ra rw q g m : Nat} {s : Str} {os : Ods} {hn : V} {P : List Ek} (h : Bd W p ra rw q g m s os hn P) {b : Int} {r : Rd} (hb : 0 ≤ b ∧ b < 65536) (hr : 0 ≤ r.1 ∧ r.1 < 256) (hrl : (nums r.2).length < 2 ^ 40) (hrn : ∀ n ∈ nums r.2, 0 ≤ n ∧ n < 65536) (hPl : (P ++ readP s os b r).length < 2 ^ 40) :
  ACalls E 42 [bV p q g, .int .u16 b, rdV r] W fun Y W' => Y = .tuple [] ∧ W' = W.put m (gmap (P ++ readP s os b r)) := by
 refine ACalls.of hP Tryz.func42 ok_reade (by simp [bV]) fun _ hok => ?_
 refine awp_start hok ?_
 have hs := (elV_isEl r.2).isS
 have hlm := h.lm
 have hPl1 : (P ++ lastP s b r).length < 2 ^ 40 := by simp only [readP, lap] at hPl ⊢; omega
 have hPl2 : (P ++ lastP s b r ++ nextP s os b r).length < 2 ^ 40 := by simp only [readP, lap] at hPl ⊢; omega
 rw [c_read_eq]
 simp only [hd1, tl1, c_read, BZ, ↓reduceIte, nE, BM, BD, bV, rdV, hs.len, ints_len]
 refine rdA_go hP (h.ex .x0) hb hr hrl hrn hPl1 rfl rfl rfl rfl (by rw [X_get]; rfl) (by rw [X_get]; rfl) ?_
 intro A' q1 q3 q5 q6
 rw [X_putold hlm]
 have hpk : ∀ x ∈ P ++ lastP s b r, ekOk x := fun x hx => by
  rcases List.mem_append.1 hx with hx | hx
  ·exact h.pk x hx
  ·exact lastP_ok h.st.ok hb r x hx
 have h2 : Bd (X (W.put m (gmap (P ++ lastP s b r))) W.nx [.row [.ptr p 0, .ptr q 0, .ptr g 0], .row [.int .u8 r.1, elV r.2]]) p ra rw q g m s os hn (P ++ lastP s b r) :=
  h.to (by simp [X]) (fun x hx hxm => by rw [X_old hx, put_ne hxm]) (by rw [X_old hlm, put_at]) hpk
 refine rdB_go hP h2 hb hr hPl2 (q1.trans rfl) (q3.trans rfl) (q5.trans rfl) (q6.trans rfl) (by rw [X_get]; rfl) (by rw [X_get]; rfl) ?_
 intro A''
 rw [X_putold hlm, put_put, List.append_assoc]
 exact ⟨_, e_res0, _, _, backX' rfl (ok_put hok hlm (gmap_bel _ _)) rfl, lr _, rfl, rfl⟩
theorem counts_g (hP : PE E) (W : AW) {p ra rw q : Nat} {s : Str} {os : Ods} (hS : St W p ra rw s) (hO : Od W q os) {r : Rd} {v0 : V} (hv0 : isEl v0 r.2) (hr : 0 ≤ r.1 ∧ r.1 < 256) (hrl : (nums r.2).length < 2 ^ 40) (hrn : ∀ n ∈ nums r.2, 0 ≤ n ∧ n < 65536) :
  ACalls E 28 [.ptr p 0, .ptr q 0, .agg [.int .u8 r.1, v0]] W fun Y W' => Y = .bool (countsR s os r) ∧ W' = W := by
 refine ACalls.of hP Tryz.func28 ok_countse (by simp) fun _ hok => ?_
 refine awp_start hok ?_
 have hs := hv0.isS
 simp only [c_counts, BZ, guard_if, ↓reduceIte, nE, reduceCtorEq, BM, BD]
 refine pcall_go (v := oV (keyO os r.1)) rfl (of_c' hP _ (hO.ex .x0) r.1 hr.1 hr.2) ?_
 have hk := oV_isS (keyO os r.1)
 simp only [BS, guard_if, ↓reduceIte, nE]
 refine pcall_go (v := .bool (begins (nums r.2) (keyO os r.1))) (by rw [mcs, mcs, List.map_nil, hs.frz, hk.frz]) (begins_c hP _ hs hk hrl) ?_
 cases hb : begins (nums r.2) (keyO os r.1) with
 | false =>
  simp only [BX, guard_if, ↓reduceIte, nE, BD]
  exact ⟨_, rfl, _, W, backX hok rfl, lr _, by simp [countsR, hb], rfl⟩
 | true =>
  simp only [BX, guard_if, ↓reduceIte, nE, BM, BD, hs.len, ints_len]
  rw [e_loop]
  refine alp (fun (k : Nat) A1 W1 => A1 0 = some (.ptr p 0) ∧ A1 5 = some (.ptr (rf W.nx 0) 0) ∧ A1 28 = some (v0) ∧ A1 29 = some (.int .i64 (nums r.2).length) ∧ A1 30 = some (.int .i64 k) ∧ k ≤ (nums r.2).length ∧ Ex W W1 ∧ rf W.nx 0 < W1.nx ∧ W1.get (rf W.nx 0) = some (.row [.int .u8 r.1, v0]) ∧ ((nums r.2).take k).all (fun v => (who s r.1 v).isSome) = true) (fun k => (nums r.2).length - k) 0
   ⟨rfl, rfl, rfl, rfl, rfl, Nat.zero_le _, .x0, by simp [X, rf], by rw [X_get]; rfl, rfl⟩ ?_
  rintro k A1 W1 ⟨g0, g5, g28, g29, g30, gk, gE, gn, gr, ga⟩ _
  refine awp_startC gE.cl ?_
  by_cases hk1 : k < (nums r.2).length
  ·have hat := int_at hk1
   have hv := hrn _ (gmm hk1)
   have htk : (nums r.2).take (k + 1) = (nums r.2).take k ++ [(nums r.2)[k]] := by rw [tao, gEg hk1]; rfl
   generalize hvv : (nums r.2)[k] = v at hat hv htk
   simp (maxSteps:=9^9) (disch:=omega) only [c_counts_0, BX, ↓reduceIte, nE, reduceCtorEq, BM, BD, g0, g5, g28, g29, g30, clt, hk1, dT, hs.idx hat, gr]
   refine pc (who_c hP _ (hS.ex gE.X) r.1 v hr.1 hr.2 hv.1 hv.2) ?_
   cases hw : who s r.1 v with
   | none =>
    simp (maxSteps:=9^9) (disch:=omega) only [BX, ↓reduceIte, nE, BM, BD, nA, nL, nT, msV_one, lsV_one, Option.isSome_none, Option.getD_none, Tx.V, Tx.zero]
    refine ⟨_, rfl, _, W, gE.X.back hok rfl, lr _, ?_, rfl⟩
    have : (nums r.2).all (fun v => (who s r.1 v).isSome) = false := by
     rw [List.all_eq_false]
     exact ⟨v, by rw [← hvv]; exact gmm _, by simp [hw]⟩
    simp [countsR, this]
   | some t =>
    simp (maxSteps:=9^9) (disch:=omega) only [BX, ↓reduceIte, nE, reduceCtorEq, BM, BD, nA, nL, nT, msV_one, lsV_one, Option.isSome_some, Option.getD_some, Tx.V, g0, g5, g28, g29, g30, wadd1]
    refine ⟨k + 1, ⟨tt, tt, tt, tt, tt, tt, gE.X, ?_, ?_, ?_⟩, by omega, ?_⟩
    ·simp only [rf] at gn; (try simp only [rf]); omega
    ·first | exact gr | (rw [X_old gn]; exact gr)
    ·rw [htk, List.all_append, ga]; simp [hw]
    ·have := gE.nx; simp only [rf]; omega
  ·obtain rfl : k = (nums r.2).length := by omega
   rw [tkl] at ga
   simp (maxSteps:=9^9) (disch:=omega) only [c_counts_0, BX, ↓reduceIte, BM, BD, g29, g30, clt, hk1, dF]
   exact ⟨_, rfl, _, W, gE.X.back hok rfl, lr _, by simp [countsR, hb, ga], rfl⟩
theorem counts_c (hP : PE E) (W : AW) {p ra rw q : Nat} {s : Str} {os : Ods} (hS : St W p ra rw s) (hO : Od W q os) {r : Rd} (hr : 0 ≤ r.1 ∧ r.1 < 256) (hrl : (nums r.2).length < 2 ^ 40) (hrn : ∀ n ∈ nums r.2, 0 ≤ n ∧ n < 65536) :
  ACalls E 28 [.ptr p 0, .ptr q 0, rdV r] W fun Y W' => Y = .bool (countsR s os r) ∧ W' = W := counts_g hP W hS hO (elV_isEl r.2) hr hrl hrn
def c_build_B3_0 : AC := (.r [.b 52 (.bin .lss) 51 50] (.seq (.w 52 4) (.seq (.block 5 (.r [.b 53 (.idxp 2) 49 51,.u 54 (.load true 2) 53,.p 9 (.alloc [.int .u8 0,.nilsl]) [],⟨none,.store 2, [.t 9,.t 54], none⟩] (.r [.u 55 (.load false 1) 2,.u 56 (.load false 1) 3,.u 57 (.load true 2) 9,.p 58 (.call 28) [.t 55,.t 56,.t 57]] (.cond (.t 58) (.reg [.u 59 (.load true 3) 5,.u 60 (.fld 0) 7,.u 61 (.load false 1) 60,.u 62 (.load true 2) 9,.p 63 (.call 42) [.t 59,.t 61,.t 62]]) .skip)))) (.reg [.a 64 (.bin .add) 51 1,.m 51 64]))))
def c_build_B3 : AC := (.block 3 (.seq (.r [.u 32 (.load true 5) 7,.u 33 (.call 19) 32,.u 34 (.un .not) 33] (.cond (.t 34) (.exit 3) .skip)) (.seq (.par (.step 0 (.u 35 (.fld 2) 5) (.step 2 (.u 37 (.fld 2) 5) (.step 7 (.u 42 (.fld 0) 7) (.step 3 (.u 38 (.load false 1) 37) (.step 4 (.u 39 .nilck 38) (.step 5 (.u 40 (.fld 0) 39) (.step 6 (.u 41 (.load false 1) 40) (.step 8 (.u 43 (.load false 1) 42) (.step 9 (.u 44 (.bslice 1 1 (.int .u16 0) [0]) 43) (.alt (.step 1 (.u 36 (.load false 1) 35) (.step 10 (.b 45 (.append 1 2) 41 44) (.step 11 (.u 46 .nilck 36) (.step 12 (.u 47 (.fld 0) 46) (.step 13 ⟨none,.store 1, [.t 47,.t 45], none⟩ .done))))) (.step 10 (.b 45 (.append 1 2) 41 44) (.step 1 (.u 36 (.load false 1) 35) (.step 11 (.u 46 .nilck 36) (.step 12 (.u 47 (.fld 0) 46) (.step 13 ⟨none,.store 1, [.t 47,.t 45], none⟩ .done)))))))))))))))) (.r [.u 48 (.load true 5) 7,.u 49 (.call 36) 48,.u 50 (.len 1 0) 49,.v 51 (.int .i64 0)] (.block 4 (.loop c_build_B3_0))))))
def c_build_0 : AC := (.r [.p 23 (.bin .lss) [.t 22,.c (.int .u8 8)]] (.seq (.w 23 0) (.seq (.block 1 (.r [.m 24 22,.m 6 24] (.reg [.u 25 (.load true 3) 5,.m 26 6,.b 27 (.call 40) 25 26]))) (.reg [.p 28 (.bin .add) [.t 22,.c (.int .u8 1)],.m 22 28]))))
def c_build : AC := (.r [.u 2 .box 0,.u 3 .box 1,.v 4 (.nilptr)] (.seq (.r [.u 10 (.load false 1) 2,.p 11 (.eqn false 0) [.t 10,.c (.nilptr)],.m 12 11,.U 13 (.load false 1) 3 12 false,.P 14 (.eqn false 0) [.t 13,.c (.nilptr)] 12 false,.p 15 .pick [.t 12,.T,.t 14]] (.cond (.t 15) (.r [.v 4 (.nilptr)] .ret) .skip)) (.r [.u 16 (.load false 1) 2,.u 17 (.load false 1) 3,.p 18 .mkmap [],.u 19 (.build [.nilsl,.nilmap] [(1, 1)]) 18,.u 20 .box 19,.p 21 (.build [.nilptr,.nilptr,.nilptr] [(0, 1), (1, 1), (2, 1)]) [.t 16,.t 17,.t 20],.p 5 (.alloc [.nilptr,.nilptr,.nilptr]) [],⟨none,.store 3, [.t 5,.t 21], none⟩] (.seq (.r [.v 22 (.int .u8 0)] (.block 0 (.loop c_build_0))) (.seq (.r [.u 29 (.load false 1) 2,.u 30 (.call 41) 29] (.block 2 (.rangef (.t 30) [31] (.reg [.p 7 (.alloc [.int .u16 0,.int .u8 0,.nilsl,.nilsl,.int .u8 0]) [],⟨none,.store 5, [.t 7,.t 31], none⟩]) c_build_B3))) (.r [.u 65 (.fld 2) 5,.u 66 (.load false 1) 65,.m 4 66] .ret))))))
theorem ok_builde : compF Tryz.prog Tryz.f12 ⟨false, false, []⟩ = some (c_build, [.tmp 4], 67) := by kernel_rfl
def rf1 (s : Str) (os : Ods) (b : Int) (r : Rd) : List Ek := if countsR s os r = true then readP s os b r else []
theorem readP_ok {s : Str} (h : SOk s) (os : Ods) {b : Int} (hb : 0 ≤ b ∧ b < 65536) (r : Rd) : ∀ x ∈ readP s os b r, ekOk x := by
 intro x hx
 rcases List.mem_append.1 hx with hx | hx
 ·exact lastP_ok h hb r x hx
 ·exact nextP_ok h os hb r x hx
theorem rf1_ok {s : Str} (h : SOk s) (os : Ods) {b : Int} (hb : 0 ≤ b ∧ b < 65536) (r : Rd) : ∀ x ∈ rf1 s os b r, ekOk x := by
 unfold rf1
 split
 ·exact readP_ok h os hb r
 ·simp
theorem flat_snoc {α β : Type} {f : α → List β} {l : List α} {k : Nat} (h : k < l.length) : (l.take (k + 1)).flatMap f = (l.take k).flatMap f ++ f l[k] := by
 rw [tao, gEg h, List.flatMap_append]; simp [List.flatMap]
theorem flat_le {α β : Type} {f : α → List β} (l : List α) (k : Nat) : ((l.take k).flatMap f).length ≤ (l.flatMap f).length := by
 conv => rhs; rw [← List.take_append_drop k l, List.flatMap_append, lap]
 omega
theorem rdV_at {l : List Rd} {k : Nat} (h : k < l.length) : (l.map rdV)[k]? = some (rdV l[k]) := by simp [h]
theorem rdV_cells (r : Rd) : (rdV r).cells = [.int .u8 r.1, elV r.2] := rfl
theorem readsR_nums {t : Tx} (h : t.ok) : ∀ r ∈ readsR t, (nums r.2).length ≤ 32 ∧ ∀ n ∈ nums r.2, 0 ≤ n ∧ n < 65536 := by
 intro r hr
 unfold readsR at hr
 split at hr
 ·simp at hr
 ·exact h.ls _ (List.of_mem_zip (a := r.1) (b := r.2) hr).2
theorem readsR_len {t : Tx} (h : t.ok) : (readsR t).length ≤ 8 := by
 unfold readsR
 split
 ·simp
 ·rw [List.length_zip]; have := h.lsl; omega
theorem rds_go (hP : PE E) {W0 : AW} {p ra rw q g m b2 b3 b5 b7 : Nat} {s : Str} {os : Ods} {hn : V} {P : List Ek} (hC : Cl W0) (h : Bd W0 p ra rw q g m s os hn P) {t : Tx} (ht : t.ok) {r7 : List V}
  (hPl : (P ++ (readsR t).flatMap (rf1 s os t.id)).length < 2 ^ 40) {A : AFr} {Q : Exit → AFr → AW → Prop} (a2 : A 2 = some (.ptr b2 0)) (a3 : A 3 = some (.ptr b3 0)) (a5 : A 5 = some (.ptr b5 0)) (a7 : A 7 = some (.ptr b7 0)) (a49 : A 49 = some (nowGS 2 ((readsR t).map rdV))) (a50 : A 50 = some (.int .i64 (readsR t).length)) (a51 : A 51 = some (.int .i64 0))
  (g2 : W0.get b2 = some (.row [.ptr p 0])) (g3 : W0.get b3 = some (.row [.ptr q 0])) (g5 : W0.get b5 = some (.row [.ptr p 0, .ptr q 0, .ptr g 0])) (g7 : W0.get b7 = some (.row (.int .u16 t.id :: r7)))
  (l2 : b2 < W0.nx) (l3 : b3 < W0.nx) (l5 : b5 < W0.nx) (l7 : b7 < W0.nx)
  (hQ : ∀ A' W', Cl W' → W0.nx ≤ W'.nx → (∀ x, x < W0.nx → x ≠ m → W'.get x = W0.get x) → W'.get m = some (gmap (P ++ (readsR t).flatMap (rf1 s os t.id))) → Q (.exit 4) A' W') : ALoop (awp E c_build_B3_0) Q A W0 := by
 have hsl := nowGS_S 2 ((readsR t).map rdV)
 have htid := And.intro ht.id0 ht.id1
 have n2 : b2 ≠ m := by rintro rfl; have := g2.symm.trans h.hm; cases this
 have n3 : b3 ≠ m := by rintro rfl; have := g3.symm.trans h.hm; cases this
 have n5 : b5 ≠ m := by rintro rfl; have := g5.symm.trans h.hm; cases this
 have n7 : b7 ≠ m := by rintro rfl; have := g7.symm.trans h.hm; cases this
 have hlm := h.lm
 have hr8 := readsR_len ht
 have hpok : ∀ i, ∀ x ∈ P ++ ((readsR t).take i).flatMap (rf1 s os t.id), ekOk x := fun i x hx => by
  rcases List.mem_append.1 hx with hx | hx
  ·exact h.pk x hx
  ·obtain ⟨z, _, hz⟩ := List.mem_flatMap.1 hx
   exact rf1_ok h.st.ok os htid z x hz
 refine alp (fun (k : Nat) A1 W1 => A1 2 = some (.ptr b2 0) ∧ A1 3 = some (.ptr b3 0) ∧ A1 5 = some (.ptr b5 0) ∧ A1 7 = some (.ptr b7 0) ∧ A1 49 = some (nowGS 2 ((readsR t).map rdV)) ∧ A1 50 = some (.int .i64 (readsR t).length) ∧ A1 51 = some (.int .i64 k) ∧ k ≤ (readsR t).length ∧
  Cl W1 ∧ W0.nx ≤ W1.nx ∧ (∀ x, x < W0.nx → x ≠ m → W1.get x = W0.get x) ∧ W1.get m = some (gmap (P ++ ((readsR t).take k).flatMap (rf1 s os t.id)))) (fun k => (readsR t).length - k) 0
  ⟨a2, a3, a5, a7, a49, a50, a51, Nat.zero_le _, hC, lr _, fun _ _ _ => rfl, by simpa using h.hm⟩ ?_
 rintro k A1 W1 ⟨q2, q3, q5, q7, q49, q50, q51, qk, jC, jn, jg, jm⟩ _
 by_cases hk1 : k < (readsR t).length
 ·have hB := h.to (P' := P ++ ((readsR t).take k).flatMap (rf1 s os t.id)) jn jg jm (hpok k)
  have hrk := readsR_key ht.ms _ (gmm hk1)
  have hrn := readsR_nums ht _ (gmm hk1)
  have hst := flat_snoc (f := rf1 s os t.id) hk1
  have hat := rdV_at hk1
  have hle := flat_le (f := rf1 s os t.id) (readsR t) (k + 1)
  generalize (readsR t)[k] = r at hrk hrn hst hat
  have k2 := (jg _ l2 n2).trans g2
  have k3 := (jg _ l3 n3).trans g3
  have k5 := (jg _ l5 n5).trans g5
  have k7 := (jg _ l7 n7).trans g7
  have hm1 := hB.lm
  have hre := (elV_isEl r.2).isS
  refine awp_startC jC ?_
  simp (maxSteps:=9^9) (disch:=omega) only [c_build_B3_0, BX, ↓reduceIte, nE, BM, BD, nA, nL, nT, q2, q3, q49, q50, q51, clt, hk1, dT, hsl.idx hat, rdV_cells, hre.one, k2, k3]
  refine pc (counts_c hP _ (hB.st.ex .x0) (hB.od.ex .x0) (r := r) hrk (by have := hrn.1; omega) hrn.2) ?_
  cases hc : countsR s os r with
  | false =>
   have e : rf1 s os t.id r = [] := by simp [rf1, hc]
   rw [e, apn] at hst
   simp (maxSteps:=9^9) (disch:=omega) only [BS, BC, cond_if, ↓reduceIte, nE, BM, BD, q2, q3, q5, q7, q49, q50, q51, wadd1]
   refine ⟨k + 1, ⟨tt, tt, tt, tt, tt, tt, tt, tt, Cl.X, by simp only [rf]; omega, fun x hx hxm => by rw [X_old (by omega)]; exact jg x hx hxm, by (try rw [X_old hm1]); rw [hst]; exact jm⟩, by omega, by simp only [rf]; omega⟩
  | true =>
   have e : rf1 s os t.id r = readP s os t.id r := by simp [rf1, hc]
   rw [e] at hst
   simp (maxSteps:=9^9) (disch:=omega) only [BS, BC, cond_if, ↓reduceIte, nE, BM, BD, nA, nL, q5, q7, k5, k7]
   refine (bread_c hP _ (hB.ex .x0) htid (r := r) hrk (by have := hrn.1; omega) hrn.2 ?_).mono ?_
   ·rw [List.append_assoc, ← hst]
    rw [lap] at hPl ⊢
    omega
   rintro _ W3 ⟨rfl, rfl⟩
   simp (maxSteps:=9^9) (disch:=omega) only [BS, ↓reduceIte, nE, BM, BD, q2, q3, q5, q7, q49, q50, q51, wadd1]
   refine ⟨k + 1, ⟨tt, tt, tt, tt, tt, tt, tt, tt, Cl.X, by simp only [rf]; omega, fun x hx hxm => by rw [X_old (by omega), put_ne hxm]; exact jg x hx hxm, ?_⟩, by omega, by simp only [rf]; omega⟩
   (try rw [X_old hm1]); rw [put_at, hst, List.append_assoc]
 ·obtain rfl : k = (readsR t).length := by omega
  rw [tkl] at jm
  simp (maxSteps:=9^9) (disch:=omega) only [c_build_B3_0, BX, ↓reduceIte, q50, q51, clt, hk1, dF]
  exact hQ _ _ jC jn jg jm
theorem cells_buf {b : Bool} {r s n : Nat} : (V.buf b r s n).cells = [.buf b r s n] := id rfl
theorem one_buf {b : Bool} {r s n : Nat} : (V.buf b r s n).one = true := id rfl
theorem bs1 {W : AW} {K : V → AW → Prop} {a : Int} : sem E (.bslice 1 1 (.int .u16 0) [0]) [.int .u16 a] W K = K (.sl 1 true [.int .u16 a]) W := by
 simp [sem, rsem, tsem, fillE, V.cells]
theorem nowG.cells1 {W : AW} {h : V} {xs : List V} {s lo : Nat} (hn : nowG W h xs s lo) : h.cells = [h] ∧ h.one = true := by
 rcases hn with ⟨rfl, rfl⟩ | ⟨r, h1, h2, rfl, h4, h5⟩
 ·exact ⟨rfl, rfl⟩
 ·exact ⟨rfl, rfl⟩
theorem Bd.lo {W W1 : AW} {p ra rw q g m lo : Nat} {s : Str} {os : Ods} {hn hn' : V} {P P' : List Ek} (h : Bd W p ra rw q g m s os hn P) (hl : p < lo ∧ ra < lo ∧ rw < lo ∧ q < lo ∧ g < lo ∧ m < lo) (gne : g ≠ p ∧ g ≠ q ∧ g ≠ ra ∧ g ≠ rw) (hn1 : W.nx ≤ W1.nx) (hlo : lo ≤ W.nx) (hx : ∀ x, x < lo → x ≠ g → x ≠ m → W1.get x = W.get x)
  (hg : W1.get g = some (.row [hn', .map m])) (hm : W1.get m = some (gmap P')) (hk : ∀ x ∈ P', ekOk x) : Bd W1 p ra rw q g m s os hn' P' := by
 obtain ⟨n1, n2, n3⟩ := h.nem
 obtain ⟨e1, e2, e3, e4⟩ := gne
 obtain ⟨l1, l2, l3, l4, l5, l6⟩ := hl
 exact ⟨h.st.by hn1 (hx _ l1 e1.symm n1) (hx _ l2 e3.symm h.mra.symm) (hx _ l3 e4.symm h.mrw.symm), h.od.by hn1 (hx _ l4 e2.symm n2), hg, hm, by omega, by omega, h.mra, h.mrw, hk⟩
def nodeP (t : Tx) : List Int := if t.st = 2 then [] else [t.id]
theorem nodesR_eq (s : Str) : nodesR s = s.flatMap nodeP := by
 induction s with
 | nil => rfl
 | cons t s ih =>
  simp only [nodesR, List.filter_cons, List.flatMap_cons, nodeP] at ih ⊢
  rw [← ih]
  by_cases h : t.st = 2
  ·simp [h]
  ·simp [h]
theorem b3_go (hP : PE E) {W1 : AW} {p ra rw q g m b2 b3 b5 b7 lo : Nat} {s : Str} {os : Ods} {hn : V} {P : List Ek} {N : List Int} (hC : Cl W1) (h : Bd W1 p ra rw q g m s os hn P) (hnow : nowG W1 hn (intsV N) 1 lo) (hlo : lo ≤ W1.nx) (hgl : g < lo) (hml : m < lo) (hst : p < lo ∧ ra < lo ∧ rw < lo ∧ q < lo) (gne : g ≠ p ∧ g ≠ q ∧ g ≠ ra ∧ g ≠ rw) (hN : N.length < 2 ^ 20) {t : Tx} (ht : t.ok)
  (hPl : (P ++ txnP s os t).length < 2 ^ 40) {A : AFr} {Q : Exit → AFr → AW → Prop} (a2 : A 2 = some (.ptr b2 0)) (a3 : A 3 = some (.ptr b3 0)) (a5 : A 5 = some (.ptr b5 0)) (a7 : A 7 = some (.ptr b7 0))
  (g2 : W1.get b2 = some (.row [.ptr p 0])) (g3 : W1.get b3 = some (.row [.ptr q 0])) (g5 : W1.get b5 = some (.row [.ptr p 0, .ptr q 0, .ptr g 0])) (g7 : W1.get b7 = some (.row [.int .u16 t.id, .int .u8 t.client, msV t.ms, lsV t.ls, .int .u8 t.st]))
  (l2 : b2 < lo) (l3 : b3 < lo) (l5 : b5 < lo) (l7 : b7 < W1.nx) (n2 : b2 ≠ g) (n3 : b3 ≠ g) (n7 : b7 ≠ g)
  (hQ : ∀ A' W' hn', Cl W' → W1.nx ≤ W'.nx → (∀ x, x < W1.nx → x ≠ m → x ≠ g → (x < lo ∨ ∀ ys, W1.get x ≠ some (.buf true 1 ys)) → W'.get x = W1.get x) → W'.get g = some (.row [hn', .map m]) → W'.get m = some (gmap (P ++ txnP s os t)) → nowG W' hn' (intsV (N ++ nodeP t)) 1 lo → Q .normal A' W') : awp E c_build_B3 Q A W1 := by
 have hbv : ∀ x : V, V.agg [.int .u16 t.id, .int .u8 t.client, msV t.ms, lsV t.ls, .int .u8 t.st] = t.V := fun _ => rfl
 have n5 : b5 ≠ g := by rintro rfl; have := g5.symm.trans h.hg; simp at this
 simp only [c_build_B3, BZ, ↓reduceIte, BM, BD, nA, nL, a7, g7]
 refine pc (alive_c hP _ t) ?_
 by_cases hs2 : t.st = 2
 ·simp only [BS, cond_if, ↓reduceIte, BD, show decide (t.st ≠ 2) = false by simp [hs2]]
  have e1 : txnP s os t = [] := by simp [txnP, hs2]
  have e2 : nodeP t = [] := by simp [nodeP, hs2]
  rw [e1, e2, apn, apn] at hQ
  exact hQ _ _ hn hC (lr _) (fun _ _ _ _ _ => rfl) h.hg h.hm hnow
 ·have e1 : txnP s os t = (readsR t).flatMap (rf1 s os t.id) := by simp only [txnP, if_neg hs2]; rfl
  have e2 : nodeP t = [t.id] := by simp [nodeP, hs2]
  rw [e1] at hQ hPl
  rw [e2] at hQ
  have hg5 := h.hg
  have ones : (V.int IntKind.u16 t.id).cells.all V.one = true := rfl
  have hsn : intsV (N ++ [t.id]) = intsV N ++ [.int .u16 t.id] := by simp [intsV]
  have hlen : (intsV N).length = N.length := ints_len N
  -- what is left, behind the append
  have fin : ∀ (A' : AFr) (h' : V) (W' : AW), A' 2 = some (.ptr b2 0) → A' 3 = some (.ptr b3 0) → A' 5 = some (.ptr b5 0) → A' 7 = some (.ptr b7 0) → nowG W' h' (intsV N ++ [.int .u16 t.id]) 1 lo → Cl W' → W1.nx ≤ W'.nx → (∀ y, y < W1.nx → (y < lo ∨ ∀ ys, W1.get y ≠ some (.buf true 1 ys)) → W'.get y = W1.get y) →
    awp E (.seq (.reg [⟨(some 48), .load true 5, [.t 7], none⟩, ⟨(some 49), .call 36, [.t 48], none⟩, ⟨(some 50), .len 1 0, [.t 49], none⟩, ⟨(some 51), .mov, [.c (.int .i64 0)], none⟩]) (.block 4 (.loop c_build_B3_0))) (blockQ 3 Q) A' (W'.put g (.row [h', .map m])) := by
   intro A' h' W' q2 q3 q5 q7 gN gC gn gg
   have hgm : g ≠ m := h.nem.2.2
   have hB : Bd (W'.put g (.row [h', .map m])) p ra rw q g m s os h' P :=
    h.lo (lo := lo) ⟨hst.1, hst.2.1, hst.2.2.1, hst.2.2.2, hgl, hml⟩ gne (by rw [put_nx]; exact gn) hlo (fun x hx hxg _ => by rw [put_ne hxg]; exact gg x (by omega) (.inl hx)) put_at (by rw [put_ne hgm.symm, gg _ h.lm (.inl hml)]; exact h.hm) h.pk
   have k2 : (W'.put g (.row [h', .map m])).get b2 = some (.row [.ptr p 0]) := by rw [put_ne n2, gg _ (by omega) (.inl l2)]; exact g2
   have k3 : (W'.put g (.row [h', .map m])).get b3 = some (.row [.ptr q 0]) := by rw [put_ne n3, gg _ (by omega) (.inl l3)]; exact g3
   have k5 : (W'.put g (.row [h', .map m])).get b5 = some (.row [.ptr p 0, .ptr q 0, .ptr g 0]) := by rw [put_ne n5, gg _ (by omega) (.inl l5)]; exact g5
   have k7 : (W'.put g (.row [h', .map m])).get b7 = some (.row [.int .u16 t.id, .int .u8 t.client, msV t.ms, lsV t.ls, .int .u8 t.st]) := by rw [put_ne n7, gg _ l7 (.inr fun ys => by rw [g7]; simp)]; exact g7
   have hsl := nowGS_S 2 ((readsR t).map rdV)
   simp only [BZ, ↓reduceIte, BM, BD, nA, nL, q7, k7]
   refine pc (reads_c hP _ ht) ?_
   simp only [BS, ↓reduceIte, hsl.len, lmp]
   rw [e_loop]
   refine rds_go hP (gC.put (by omega)) hB ht hPl (b2 := b2) (b3 := b3) (b5 := b5) (b7 := b7) q2 q3 q5 q7 rfl rfl rfl k2 k3 k5 k7 (by rw [put_nx]; omega) (by rw [put_nx]; omega) (by rw [put_nx]; omega) (by rw [put_nx]; omega) ?_
   intro A'' W'' fC fn ff fm
   rw [put_nx] at fn
   simp only [BS, ↓reduceIte]
   have hgn : g < W'.nx := by omega
   refine hQ _ W'' h' fC (by omega) (fun x hx hxm hxg hc => ?_) ?_ fm ?_
   ·rw [ff x (by rw [put_nx]; omega) hxm, put_ne hxg]; exact gg x hx hc
   ·rw [ff g (by rw [put_nx]; omega) hgm, put_at]
   ·rw [hsn]
    refine gN.to fn fun r hr1 hr2 _ => ?_
    rw [ff r (by rw [put_nx]; omega) (by omega), put_ne (by omega)]
  have hlen2 : ((intsV N).length + 1) * 2 ≤ 2 ^ 46 := by rw [hlen]; omega
  simp only [BX, ↓reduceIte, nE, BM, BD, show decide (t.st ≠ 2) = true by simp [hs2], a5, a7, g5, g7, hg5, bs1]
  constructor
  ·refine app_now (lo := lo) hnow hC hlo (by decide) ones hlen2 ?_
   intro h' W' gN gC gn gg1 gg2
   have hg' : W'.get g = some (.row [hn, .map m]) := by rw [gg2 _ hgl]; exact hg5
   simp only [BS, ↓reduceIte, nE, BM, BD, nA, nL, gN.cells1.1, gN.cells1.2, hg']
   exact fin _ h' W' a2 a3 a5 a7 gN gC gn fun y hy hc => hc.elim (gg2 y) (gg1 y hy)
  ·refine app_now (lo := lo) hnow hC hlo (by decide) ones hlen2 ?_
   intro h' W' gN gC gn gg1 gg2
   have hg' : W'.get g = some (.row [hn, .map m]) := by rw [gg2 _ hgl]; exact hg5
   have h5' : W'.get b5 = some (.row [.ptr p 0, .ptr q 0, .ptr g 0]) := by rw [gg2 _ l5]; exact g5
   simp only [BS, BC, ↓reduceIte, nE, BM, BD, nA, nL, gN.cells1.1, gN.cells1.2, hg', h5']
   exact fin _ h' W' a2 a3 a5 a7 gN gC gn fun y hy hc => hc.elim (gg2 y) (gg1 y hy)
structure Gr (W : AW) (g m : Nat) (h : V) (P : List Ek) (N : List Int) (lo : Nat) : Prop where
 hg : W.get g = some (.row [h, .map m])
 hm : W.get m = some (gmap P)
 now : nowG W h (intsV N) 1 lo
 lg : g < W.nx
 lm : m < W.nx
 gg : lo ≤ g
 gm : lo ≤ m
 pk : ∀ x ∈ P, ekOk x
 pl : P.length < 2 ^ 32
 nl : N.length < 2 ^ 20
theorem edgeP_len (f t k : Int) : (edgeP f t k).length ≤ 1 := by unfold edgeP; split <;> simp
theorem lastP_len (s : Str) (b : Int) (r : Rd) : (lastP s b r).length ≤ 1 := by
 unfold lastP
 split
 ·split
  ·exact edgeP_len _ _ _
  ·simp
 ·simp
theorem nextP_len (s : Str) (os : Ods) (b : Int) (r : Rd) : (nextP s os b r).length ≤ 1 := by
 unfold nextP
 split
 ·split
  ·exact edgeP_len _ _ _
  ·simp
 ·simp
theorem flat_len {α β : Type} {f : α → List β} {n : Nat} : ∀ {l : List α}, (∀ x ∈ l, (f x).length ≤ n) → (l.flatMap f).length ≤ l.length * n
 | [], _ => by simp
 | x :: l, h => by
  have h1 := h x (by simp)
  have h2 := flat_len (l := l) (f := f) (n := n) fun y hy => h y (by simp [hy])
  rw [List.flatMap_cons, lap, lcs, Nat.add_mul]; omega
theorem txnP_len {s : Str} {os : Ods} {t : Tx} (h : t.ok) : (txnP s os t).length ≤ 16 := by
 unfold txnP
 split
 ·simp
 ·have := flat_len (f := fun r => if countsR s os r = true then readP s os t.id r else []) (n := 2) (l := readsR t) fun r _ => by
   split
   ·have h1 := lastP_len s t.id r
    have h2 := nextP_len s os t.id r
    rw [readP, lap]; omega
   ·simp
  have h8 := readsR_len h
  omega
theorem keyP_len {W : AW} {q : Nat} {s : Str} {os : Ods} (h : Od W q os) (k : Int) : (keyP s os k).length ≤ 32 := by
 have := flat_len (f := kf s k) (n := 1) (l := (keyO os k).zip (keyO os k).tail) fun x _ => by
  unfold kf
  split
  ·exact edgeP_len _ _ _
  ·simp
 have h1 := (keyO_ok h k).1
 have h2 : ((keyO os k).zip (keyO os k).tail).length ≤ 32 := by rw [List.length_zip]; omega
 have h3 : keyP s os k = ((keyO os k).zip (keyO os k).tail).flatMap (kf s k) := rfl
 rw [h3]; omega
theorem buildP_len {W : AW} {q : Nat} {s : Str} {os : Ods} (hs : SOk s) (h : Od W q os) : (buildP s os).length < 2 ^ 21 := by
 have h1 := flat_len (f := fun (k : Nat) => keyP s os (k : Int)) (n := 32) (l := List.range 8) fun k _ => keyP_len h k
 have h2 := flat_len (f := txnP s os) (n := 16) (l := s) fun t ht => txnP_len (hs.ok t ht)
 have h3 := st_len hs
 have h4 : (List.range 8).length = 8 := rfl
 rw [buildP, keysP, lap]
 omega
theorem buildP_ok {s : Str} {os : Ods} (hs : SOk s) : ∀ x ∈ buildP s os, ekOk x := by
 intro x hx
 rcases List.mem_append.1 hx with hx | hx
 ·obtain ⟨k, _, hx⟩ := List.mem_flatMap.1 hx
  obtain ⟨z, _, hz⟩ := List.mem_flatMap.1 hx
  exact kf_ok hs _ z x hz
 ·obtain ⟨t, ht, hx⟩ := List.mem_flatMap.1 hx
  have hto := hs.ok t ht
  unfold txnP at hx
  split at hx
  ·simp at hx
  ·obtain ⟨r, _, hr⟩ := List.mem_flatMap.1 hx
   exact rf1_ok hs os ⟨hto.id0, hto.id1⟩ r x hr
theorem nodes_len (s : Str) : (nodesR s).length ≤ s.length := by
 simp only [nodesR, lmp]; exact List.length_filter_le _ _
theorem prefix_ok {s : Str} {os : Ods} (hs : SOk s) {P' : List Ek} (h : P' <+: buildP s os) : ∀ x ∈ P', ekOk x := fun x hx => buildP_ok hs x (h.subset hx)
theorem u8add1 {k : Nat} (h : k < 100) : IntKind.u8.wrap ((k : Int) + 1) = ((k + 1 : Nat) : Int) := by
 simp only [IntKind.wrap, IntKind.signed, IntKind.bits]; simp; omega
theorem build_c (hP : PE E) (W : AW) {p ra rw q : Nat} {s : Str} {os : Ods} (hS : St W p ra rw s) (hO : Od W q os) :
  ACalls E 12 [.ptr p 0, .ptr q 0] W fun Y W' => ∃ g m h, Y = .ptr g 0 ∧ Gr W' g m h (buildP s os) (nodesR s) W.nx ∧ Ex W W' := by
 refine ACalls.of hP Tryz.func12 ok_builde (by simp) fun _ hok => ?_
 refine awp_start hok ?_
 have hlp := hS.lp
 have hla := hS.la
 have hlw := hS.lw
 have hlq := hO.lq
 have hbl := buildP_len hS.ok hO
 have hsl := st_len hS.ok
 simp only [c_build, BX, guard_if, ↓reduceIte, nE, BM, BD, nA, nL, nT]
 rw [e_loop]
 obtain ⟨W0, hW0⟩ : ∃ W0, W0 = X W W.nx [.row [.ptr p 0], .row [.ptr q 0], .map [] 0, .row [.nilsl, .map (rf W.nx 2)], .row [.ptr p 0, .ptr q 0, .ptr (rf W.nx 3) 0]] := ⟨_, rfl⟩
 rw [← hW0]
 have hE0 : Ex W W0 := by rw [hW0]; exact .x0
 have hn0 : W0.nx = W.nx + 5 := by rw [hW0]; rfl
 have r0 : rf W.nx 0 = W.nx := rfl
 have r1 : rf W.nx 1 = W.nx + 1 := rfl
 have r2 : rf W.nx 2 = W.nx + 2 := rfl
 have r3 : rf W.nx 3 = W.nx + 3 := rfl
 have r4 : rf W.nx 4 = W.nx + 4 := rfl
 have w0 : W0.get (rf W.nx 0) = some (.row [.ptr p 0]) := by rw [hW0, X_get]; rfl
 have w1 : W0.get (rf W.nx 1) = some (.row [.ptr q 0]) := by rw [hW0, X_get]; rfl
 have w2 : W0.get (rf W.nx 2) = some (gmap []) := by rw [hW0, X_get]; rfl
 have w3 : W0.get (rf W.nx 3) = some (.row [.nilsl, .map (rf W.nx 2)]) := by rw [hW0, X_get]; rfl
 have w4 : W0.get (rf W.nx 4) = some (.row [.ptr p 0, .ptr q 0, .ptr (rf W.nx 3) 0]) := by rw [hW0, X_get]; rfl
 have hB0 : Bd W0 p ra rw q (rf W.nx 3) (rf W.nx 2) s os .nilsl [] := ⟨hS.ex hE0, hO.ex hE0, w3, w2, by omega, by omega, by omega, by omega, by simp⟩
 clear hW0
 refine alp (fun (k : Nat) A1 W1 => A1 2 = some (.ptr (rf W.nx 0) 0) ∧ A1 3 = some (.ptr (rf W.nx 1) 0) ∧ A1 5 = some (.ptr (rf W.nx 4) 0) ∧ A1 22 = some (.int .u8 k) ∧ k ≤ 8 ∧ W1 = W0.put (rf W.nx 2) (gmap ((List.range k).flatMap fun (j : Nat) => keyP s os (j : Int)))) (fun k => 8 - k) 0
  ⟨rfl, rfl, rfl, rfl, Nat.zero_le _, (put_same w2).symm⟩ ?_
 rintro k A1 W1 ⟨q2, q3, q5, q22, qk, rfl⟩ _
 have hpre : ∀ j, j ≤ 8 → ((List.range j).flatMap fun (j : Nat) => keyP s os (j : Int)) <+: keysP s os := by
  intro j hj
  have : List.range 8 = List.range j ++ (List.range (8 - j)).map (j + ·) := by rw [← List.range_add]; congr 1; omega
  rw [keysP, this, List.flatMap_append]; exact List.prefix_append _ _
 have hkb : keysP s os <+: buildP s os := List.prefix_append _ _
 have hB1 : Bd (W0.put (rf W.nx 2) (gmap ((List.range k).flatMap fun (j : Nat) => keyP s os (j : Int)))) p ra rw q (rf W.nx 3) (rf W.nx 2) s os .nilsl ((List.range k).flatMap fun (j : Nat) => keyP s os (j : Int)) :=
  hB0.to (by rw [put_nx]; omega) (fun x _ hx => put_ne hx) put_at (prefix_ok hS.ok ((hpre k qk).trans hkb))
 have v4 : (W0.put (rf W.nx 2) (gmap ((List.range k).flatMap fun (j : Nat) => keyP s os (j : Int)))).get (rf W.nx 4) = some (.row [.ptr p 0, .ptr q 0, .ptr (rf W.nx 3) 0]) := by rw [put_ne (by omega)]; exact w4
 by_cases hk : k < 8
 ·have hk' : decide ((k : Int) < 8) = true := by simp; omega
  have hst : ((List.range (k + 1)).flatMap fun (j : Nat) => keyP s os (j : Int)) = ((List.range k).flatMap fun (j : Nat) => keyP s os (j : Int)) ++ keyP s os k := by
   rw [List.range_succ, List.flatMap_append]; simp [List.flatMap]
  have hle := ((hpre (k + 1) hk).trans hkb).length_le
  simp (maxSteps:=9^9) (disch:=omega) only [c_build_0, BX, ↓reduceIte, nE, BM, BD, nA, nL, q5, q22, hk', v4]
  refine (key_c hP _ hB1 k (by omega) (by omega) (by rw [← hst]; omega)).mono ?_
  rintro _ W3 ⟨rfl, rfl⟩
  simp (maxSteps:=9^9) (disch:=omega) only [BS, ↓reduceIte, nE, q2, q3, q5, q22, u8add1]
  refine ⟨k + 1, ⟨tt, tt, tt, tt, hk, ?_⟩, by omega, by simp only [put_nx]; omega⟩
  rw [put_put, hst]
 ·obtain rfl : k = 8 := by omega
  have hk' : decide (((8 : Nat) : Int) < 8) = false := by decide
  obtain ⟨W1, hW1⟩ : ∃ W1, W1 = W0.put (rf W.nx 2) (gmap ((List.range 8).flatMap fun (j : Nat) => keyP s os (j : Int))) := ⟨_, rfl⟩
  rw [← hW1] at hB1 v4 ⊢
  have hn1 : W1.nx = W.nx + 5 := by rw [hW1, put_nx]; exact hn0
  have hg1 : ∀ x, x ≠ rf W.nx 2 → W1.get x = W0.get x := fun x hx => by rw [hW1, put_ne hx]
  have v0 : W1.get (rf W.nx 0) = some (.row [.ptr p 0]) := by rw [hg1 _ (by omega)]; exact w0
  have v1 : W1.get (rf W.nx 1) = some (.row [.ptr q 0]) := by rw [hg1 _ (by omega)]; exact w1
  have hC1 : Cl W1 := by rw [hW1]; exact hE0.cl.put (by omega)
  have hE1 : Ex W W1 := ⟨hC1, by omega, fun x hx => by rw [hg1 _ (by omega)]; exact hE0.get x hx⟩
  clear hW1
  simp (maxSteps:=9^9) (disch:=omega) only [c_build_0, BX, ↓reduceIte, nE, BM, q2, q22, hk', v0]
  refine (all_c hP _ p).mono ?_
  rintro _ W2 ⟨rfl, rfl⟩
  simp (maxSteps:=9^9) (disch:=omega) only [BS]
  obtain ⟨W2, hW2⟩ : ∃ W2, W2 = W1.alloc (.row [.ptr p 0]) := ⟨_, rfl⟩
  rw [← hW2]
  have hn2 : W2.nx = W.nx + 6 := by rw [hW2, alloc_nx, hn1]
  have hq2 : W2.get W1.nx = some (.row [.ptr p 0]) := by rw [hW2, alloc_at]
  have hE12 : Ex W1 W2 := ⟨fun x hx => by rw [hW2, al_gets]; rw [hW2, alloc_nx] at hx; rw [if_neg (by omega)]; exact hC1 x (by omega), by omega, fun x hx => by rw [hW2, alloc_lt hx]⟩
  have hB2 := hB1.ex hE12
  have u0 := (hE12.get _ (by omega : rf W.nx 0 < W1.nx)).trans v0
  have u1 := (hE12.get _ (by omega : rf W.nx 1 < W1.nx)).trans v1
  have u4 := (hE12.get _ (by omega : rf W.nx 4 < W1.nx)).trans v4
  have hE2 := hE1.trans hE12
  have hb8 : keysP s os = (List.range 8).flatMap fun (j : Nat) => keyP s os (j : Int) := rfl
  rw [← hb8] at hB2
  have hpreb : ∀ i, (keysP s os ++ (s.take i).flatMap (txnP s os)) <+: buildP s os := fun i => by
   refine List.prefix_append_right_inj _ |>.2 ?_
   generalize txnP s os = f
   conv => rhs; rw [← List.take_append_drop i s, List.flatMap_append]
   exact List.prefix_append _ _
  refine range_all hP (q := W1.nx) (s := s) (W0 := W2) (by simp only [ev_t]; exact if_pos rfl) hq2 (by omega) hE2.cl (hS.ex hE2)
   (fun i W' => Cl W' ∧ (∀ x, x < W2.nx → x ≠ rf W.nx 2 → x ≠ rf W.nx 3 → W'.get x = W2.get x) ∧ W'.get (rf W.nx 2) = some (gmap (keysP s os ++ (s.take i).flatMap (txnP s os))) ∧ ∃ hn, W'.get (rf W.nx 3) = some (.row [hn, .map (rf W.nx 2)]) ∧ nowG W' hn (intsV ((s.take i).flatMap nodeP)) 1 W2.nx) ?_ ?_ ?_ ?_
  ·intro W' hE
   refine ⟨hE.cl, fun x hx _ _ => hE.get x hx, ?_, .nilsl, ?_, .inl ⟨rfl, rfl⟩⟩
   ·rw [hE.get _ (by omega), hB2.hm]; simp
   ·rw [hE.get _ (by omega), hB2.hg]
  ·rintro i W' ⟨j0, j1, _⟩
   exact ⟨j0, j1 _ (by omega) (by omega) (by omega), j1 _ (by omega) (by omega) (by omega), j1 _ (by omega) (by omega) (by omega)⟩
  ·rintro i hi W' ⟨j0, j1, j2, hn, j3, j4⟩ hl hnn
   have hto := hS.ok.ok s[i] (gmm hi)
   have st1 := flat_snoc (f := txnP s os) hi
   have st2 := flat_snoc (f := nodeP) hi
   have hpi := hpreb (i + 1)
   rw [st1, ← List.append_assoc] at hpi
   have hnl : ((s.take i).flatMap nodeP).length < 2 ^ 20 := by
    have := flat_len (f := nodeP) (n := 1) (l := s.take i) fun t _ => by unfold nodeP; split <;> simp
    have h2 : (s.take i).length ≤ s.length := by simp; omega
    omega
   generalize s[i] = t at hto st1 st2 hpi
   refine awp_startC j0 ?_
   simp (maxSteps:=9^9) (disch:=omega) only [BS, BC, ↓reduceIte, nE, BM, BD, nA, nL, nT, msV_one, lsV_one, Tx.V, hl]
   refine ⟨tt, ?_⟩
   have hB : Bd (X (W'.put W2.nx (.loop .busy none)) W'.nx [.row [.int .u16 t.id, .int .u8 t.client, msV t.ms, lsV t.ls, .int .u8 t.st]]) p ra rw q (rf W.nx 3) (rf W.nx 2) s os hn (keysP s os ++ (s.take i).flatMap (txnP s os)) :=
    hB2.lo (lo := W2.nx) (by omega) (by omega) (by simp only [X_nx, rf]; omega) (lr _) (fun x hx h3 h2 => by rw [X_old (by omega), put_ne (by omega)]; exact j1 x hx h2 h3) (by rw [X_old (by omega), put_ne (by omega)]; exact j3) (by rw [X_old (by omega), put_ne (by omega)]; exact j2) (prefix_ok hS.ok (hpreb i))
   refine b3_go hP (lo := W2.nx) (b2 := rf W.nx 0) (b3 := rf W.nx 1) (b5 := rf W.nx 4) (b7 := rf W'.nx 0) (N := (s.take i).flatMap nodeP) (t := t) Cl.X hB (j4.to (by simp only [X_nx, rf]; omega) fun r h1 h2 ⟨ys, hy⟩ => by rw [X_old h2, put_ne (by rintro rfl; rw [hl] at hy; cases hy)]) (by simp only [X_nx, rf]; omega) (by omega) (by omega) (by omega) (by omega) hnl hto (by have := hpi.length_le; omega) q2 q3 q5 rfl ?_ ?_ ?_ (by rw [X_get]; rfl) (by omega) (by omega) (by omega) (by simp [X_nx, rf]) (by omega) (by omega) (by simp only [rf]; omega) ?_
   ·rw [X_old (by omega), put_ne (by omega), j1 _ (by omega) (by omega) (by omega)]; exact u0
   ·rw [X_old (by omega), put_ne (by omega), j1 _ (by omega) (by omega) (by omega)]; exact u1
   ·rw [X_old (by omega), put_ne (by omega), j1 _ (by omega) (by omega) (by omega)]; exact u4
   intro A'' W'' hn' fC fn ff fg fm fnow
   simp only [X_nx, rf, lcs, List.length_nil] at fn
   have hloop : W''.get W2.nx = some (.loop .busy none) := by
    rw [ff W2.nx (by simp only [X_nx, rf]; omega) (by omega) (by omega) (.inr fun ys => by rw [X_old (by omega), put_at]; simp), X_old (by omega), put_at]
   refine ⟨rfl, hloop, by omega, fC.put (by omega), fun x hx h2 h3 => ?_, ?_, hn', ?_, ?_⟩
   ·rw [put_ne (by omega), ff x (by simp only [X_nx, rf]; omega) h2 h3 (.inl hx), X_old (by omega), put_ne (by omega)]
    exact j1 x hx h2 h3
   ·rw [put_ne (by omega), fm, st1, List.append_assoc]
   ·rw [put_ne (by omega), fg]
   ·rw [st2]
    exact fnow.to (by rw [put_nx]; exact lr _) fun r h1 h2 ⟨ys, hy⟩ => put_ne (by rintro rfl; rw [hloop] at hy; cases hy)
  ·rintro W' ⟨j0, j1, j2, hn, j3, j4⟩ hl hnn
   rw [tkl] at j2 j4
   rw [← nodesR_eq] at j4
   have k4 : (W'.put W2.nx (.loop .exhausted none)).get (rf W.nx 4) = some (.row [.ptr p 0, .ptr q 0, .ptr (rf W.nx 3) 0]) := by rw [put_ne (by omega), j1 _ (by omega) (by omega) (by omega)]; exact u4
   simp (maxSteps:=9^9) (disch:=omega) only [BZ, ↓reduceIte, nE, BM, BD, q5, k4]
   have hnl := nodes_len s
   have hbp : buildP s os = keysP s os ++ s.flatMap (txnP s os) := rfl
   refine ⟨_, rfl, _, _, .weak weak_id, by rw [put_nx]; omega, rf W.nx 3, rf W.nx 2, hn, rfl, ⟨by rw [put_ne (by omega)]; exact j3, by rw [put_ne (by omega)]; exact j2, ?_, by rw [put_nx]; omega, by rw [put_nx]; omega, by omega, by omega, buildP_ok hS.ok, by omega, by omega⟩, j0.put (by omega), by rw [put_nx]; omega, fun x hx => by rw [put_ne (by omega), j1 x (by omega) (by omega) (by omega)]; exact hE2.get x hx⟩
   rcases j4 with j4 | ⟨r, h1, h2, h3, h4, h5⟩
   ·exact .inl j4
   ·exact .inr ⟨r, by omega, by rw [put_nx]; exact h2, h3, h4, by rw [put_ne (by rintro rfl; rw [hl] at h5; cases h5)]; exact h5⟩
open Go Go.AL Go.AL.SE Go.Proofs
def c_nodes : AC := (.r [.v 2 (.nilsl)] (.seq (.r [.m 3 0,.p 4 (.eqn false 0) [.t 3,.c (.nilptr)]] (.cond (.t 4) (.r [.v 2 (.nilsl)] .ret) .skip)) (.r [.m 5 0,.u 6 .nilck 5,.u 7 (.fld 0) 6,.u 8 (.load false 1) 7,.u 9 (.call 44) 8,.m 2 9] .ret)))
theorem ok_nodese : compF Tryz.prog Tryz.f15 ⟨false, false, []⟩ = some (c_nodes, [.tmp 2], 10) := by kernel_rfl
def c_sorted : AC := (.r [.v 2 (.nilsl)] (.seq (.r [.m 3 0,.p 4 (.eqn false 0) [.t 3,.c (.nilptr)]] (.cond (.t 4) (.r [.v 2 (.nilsl)] .ret) .skip)) (.r [.m 5 0,.u 6 .nilck 5,.u 7 (.fld 1) 6,.u 8 (.load false 1) 7,.u 9 (.call 108) 8,.p 10 (.call 107) [.t 9,.f 109],.m 2 10] .ret)))
theorem ok_sortede : compF Tryz.prog Tryz.f87 ⟨false, false, []⟩ = some (c_sorted, [.tmp 2], 11) := by kernel_rfl
def c_edges : AC := (.r [.u 1 .box 0,.v 2 (.nilfn)] (.r [.u 3 (.mkfn (.func 86) 0) 1,.m 2 3] .ret))
theorem ok_edgese : compF Tryz.prog Tryz.f43 ⟨false, false, []⟩ = some (c_edges, [.tmp 2], 4) := by kernel_rfl
def c_edges1_0 : AC := (.r [.b 9 (.bin .lss) 8 7] (.seq (.w 9 0) (.seq (.block 1 (.r [.b 10 (.idxp 3) 6 8,.u 11 (.load true 3) 10,.p 4 (.alloc [.int .u16 0,.int .u16 0,.int .u8 0]) [],⟨none,.store 3, [.t 4,.t 11], none⟩] (.r [.m 12 0,.u 13 (.load true 3) 4,.b 14 .callv 12 13,.u 15 (.un .not) 14] (.cond (.t 15) .ret .skip)))) (.reg [.a 16 (.bin .add) 8 1,.m 8 16]))))
def c_edges1 : AC := (.r [.u 5 (.load false 1) 1,.u 6 (.call 87) 5,.u 7 (.len 1 0) 6,.v 8 (.int .i64 0)] (.block 0 (.loop c_edges1_0)))
theorem ok_edges1e : compF Tryz.prog Tryz.f86 ⟨false, false, []⟩ = some (c_edges1, [], 17) := by kernel_rfl
def c_hasG : AC := (.r [.u 3 .box 1,.v 4 (.bool false)] (.seq (.par (.step 0 (.m 5 0) (.step 1 (.p 6 (.eqn true 0) [.t 5,.c (.nilptr)]) (.step 2 (.m 7 6) (.step 3 (.M 8 0 7 true) (.step 4 (.U 9 .nilck 8 7 true) (.step 5 (.U 10 (.fld 1) 9 7 true) (.step 6 (.U 11 (.load false 1) 10 7 true) (.step 7 (.U 12 (.load true 3) 3 7 true) (.step 8 (.B 13 (.lookup (true, [.i .u16,.i .u16,.i .u8]) (.int .i64 0) false) 11 12 7 true) (.step 9 (.P 14 (.bin .gtr) [.t 13,.i 0] 7 true) (.step 10 (.p 15 .pick [.t 7,.t 14,.F]) (.step 11 (.m 4 15) .done))))))))))))) .ret))
theorem ok_hasGe : compF Tryz.prog Tryz.f16 ⟨false, false, []⟩ = some (c_hasG, [.tmp 4], 16) := by kernel_rfl
theorem gs_clone (l : List Int) : cloneV 1 (nowGS 1 (intsV l)) = nowGS 1 (intsV l) := by
 cases l with
 | nil => rfl
 | cons a l => rfl
theorem nodes_c (hP : PE E) (W : AW) {g m lo : Nat} {h : V} {P : List Ek} {N : List Int} (hG : Gr W g m h P N lo) : ACalls E 15 [.ptr g 0] W fun Y W' => Y = nowGS 1 (intsV N) ∧ W' = W := by
 refine ACalls.of hP Tryz.func15 ok_nodese (by simp) fun _ hok => ?_
 simp only [c_nodes, BX, ↓reduceIte, reduceCtorEq, BM, BD, hG.hg, hG.now.frz]
 have hs := nowGS_S 1 (intsV N)
 refine pc (clone39_c hP W _ _ hs (belL_ints _ _) (by rw [ints_len]; have := hG.nl; omega)) ?_
 rw [gs_clone]
 simp only [BS, BC, ↓reduceIte, hs.frz]
 exact ⟨_, rfl, _, _, .weak weak_id, lr _, rfl, rfl⟩
theorem keys35_c (hP : PE E) (W : AW) (m : Nat) : ACalls E 108 [.map m] W fun Y W' => Y = .fn (.func 125) [] [.ptr W.nx 0] ∧ W' = W.alloc (.row [.map m]) := by
 refine ACalls.of hP Tryz.func108 ok_e35e (by simp) fun _ hok => ?_
 simp only [c_e35, BZ, ↓reduceIte, nE, BM, BD]
 exact ⟨_, rfl, _, _, .weak weak_id, by rw [alloc_nx]; omega, rfl, rfl⟩
theorem g_edOf (l : List (Ek × Int)) : ∀ n, (gFrom n l).map edOf = (keysE l).map toEd := by
 induction l with
 | nil => intro n; rfl
 | cons x l ih => intro n; simp only [gFrom, mcs, ih, keysE]; rfl
theorem g_key (l : List (Ek × Int)) : ∀ n, ∀ e ∈ gFrom n l, e.1 = (edOf e).V := by
 induction l with
 | nil => intro n e he; simp [gFrom] at he
 | cons x l ih =>
  intro n e he
  rcases List.mem_cons.1 he with rfl | he
  ·rfl
  ·exact ih _ e he
theorem g_len (l : List (Ek × Int)) : ∀ n, (gFrom n l).length = l.length := by
 induction l with
 | nil => intro n; rfl
 | cons x l ih => intro n; simp [gFrom, ih]
theorem g_fresh (l : List (Ek × Int)) : ∀ n, (∀ e ∈ gFrom n l, n ≤ e.2.2 ∧ e.2.2 < n + l.length) ∧ (stamps (gFrom n l)).Nodup := by
 induction l with
 | nil => intro n; exact ⟨fun _ h => by simp [gFrom] at h, List.nodup_nil⟩
 | cons x l ih =>
  intro n
  obtain ⟨h1, h2⟩ := ih (n + 1)
  refine ⟨fun e he => ?_, ?_⟩
  ·rcases List.mem_cons.1 he with rfl | he
   ·simp
   ·have := h1 e he; simp only [lcs]; omega
  ·refine List.nodup_cons.2 ⟨fun h => ?_, h2⟩
   obtain ⟨e, he, h3⟩ := List.mem_map.1 h
   have := h1 e he
   simp only at h3
   omega
def edsV (l : List Ed) : V := if l = [] then .nilsl else .sl 3 false (l.map Ed.V)
theorem edsV_S (l : List Ed) : isS 3 (edsV l) (l.map Ed.V) := by
 unfold edsV
 split
 ·rename_i h; subst h; exact .nil
 ·exact .mk
theorem sorted_eq (P : List Ek) : sortedEV ((gFrom 0 (tally P)).map edOf) = edsV (edL P) := by
 rw [g_edOf, sortedEV, edsV]
 by_cases h : (keysE (tally P)).map toEd = []
 ·have : edL P = [] := by rw [edL, h]; exact (sortL_perm []).eq_nil
  rw [if_pos h, if_pos this]
 ·have : edL P ≠ [] := by
   intro e
   apply h
   have := edL_perm P
   rw [e] at this
   exact this.symm.eq_nil
  rw [if_neg h, if_neg this]; rfl
theorem bel_eds (l : List Ed) (n : Nat) : (edsV l).bel n = true := (edsV_S l).lens (bel_edV n l)
theorem sorted27_c (hP : PE E) (W : AW) {g m lo : Nat} {h : V} {P : List Ek} {N : List Int} (hG : Gr W g m h P N lo) : ACalls E 87 [.ptr g 0] W fun Y W' => Y = edsV (edL P) ∧ W' = W := by
 refine ACalls.of hP Tryz.func87 ok_sortede (by simp) fun _ hok => ?_
 simp only [c_sorted, BX, ↓reduceIte, reduceCtorEq, BM, BD, hG.hg]
 refine (keys35_c hP _ m).mono ?_
 rintro _ W1 ⟨rfl, rfl⟩
 simp only [BS, BC, ↓reduceIte]
 have hf := g_fresh (tally P) 0
 have hlm := hG.lm
 have hE : Ex W (W.alloc (.row [.map m])) := ⟨fun x hx => by rw [alloc_nx] at hx; rw [al_gets, if_neg (by omega)]; exact ok_Cl hok x (by omega), by rw [alloc_nx]; omega, fun x hx => alloc_lt hx⟩
 refine pc (sortedE_c hP (pb := W.nx) (m := m) alloc_at (by rw [alloc_lt hlm]; exact hG.hm) ⟨hf.2, fun e he => by have := (hf.1 e he).2; omega⟩ (by rw [alloc_nx]; omega) (by rw [alloc_nx]; omega) (g_key _ 0) (by rw [g_len]; have := tally_len P; have := hG.pl; omega)) ?_
 rw [sorted_eq]
 have hs := edsV_S (edL P)
 simp only [BS, BC, ↓reduceIte, hs.frz]
 exact ⟨_, rfl, _, W, hE.back hok (bel_eds _ _), lr _, rfl, rfl⟩
theorem edges_c (hP : PE E) (W : AW) (g : Nat) : ACalls E 43 [.ptr g 0] W fun Y W' => ∃ q, Y = .fn (.func 86) [] [.ptr q 0] ∧ W'.get q = some (.row [.ptr g 0]) ∧ q < W'.nx ∧ Ex W W' := by
 refine ACalls.of hP Tryz.func43 ok_edgese (by simp) fun _ hok => ?_
 refine awp_start hok ?_
 simp only [c_edges, BZ, ↓reduceIte, nE, BM, BD]
 exact ⟨_, rfl, _, _, .weak weak_id, by simp [X], rf W.nx 0, rfl, by rw [X_get]; rfl, by simp [X, rf], .x0⟩
theorem ed_at {l : List Ed} {k : Nat} (h : k < l.length) : (l.map Ed.V)[k]? = some (l[k]).V := by simp [h]
theorem ed_cells (e : Ed) : e.V.cells = [.int .u16 e.fr, .int .u16 e.to, .int .u8 e.kd] := rfl
theorem edL_lt {W : AW} {g m lo : Nat} {h : V} {P : List Ek} {N : List Int} (hG : Gr W g m h P N lo) : (edL P).length < 2 ^ 32 := by
 have := edL_le P; have := hG.pl; omega
theorem edges_iter (hP : PE E) {W : AW} {y q g m lo : Nat} {h : V} {P : List Ek} {N : List Int} (hq : W.get q = some (.row [.ptr g 0])) (hG : Gr W g m h P N lo) (J : Nat → AW → Prop)
  (h0 : J 0 W) (hJ : ∀ i W1, J i W1 → Cl W1 ∧ W.nx ≤ W1.nx) (hmono : ∀ (vs : List V) (W1 : AW) (K K' : V → AW → Prop), (∀ v W', K v W' → K' v W') → E.yield y vs W1 K → E.yield y vs W1 K')
  (hy : ∀ i (hi : i < (edL P).length) W1 l, J i W1 → E.yield y [(edL P)[i].V] (X W1 W1.nx l) (fun Y W2 => Y = .bool true ∧ J (i + 1) W2)) :
  ACalls E 86 [.yld y, .ptr q 0] W fun Y W' => Y = .tuple [] ∧ J (edL P).length W' := by
 refine ACalls.of hP Tryz.func86 ok_edges1e (by simp) fun _ hok => ?_
 have hs := edsV_S (edL P)
 have hl := edL_lt hG
 simp (maxSteps:=9^9) (disch:=omega) only [c_edges1, BZ, ↓reduceIte, BM, hq]
 refine pc (sorted27_c hP _ hG) ?_
 simp (maxSteps:=9^9) (disch:=omega) only [BS, ↓reduceIte, hs.len, lmp]
 rw [e_loop]
 refine alp (fun (i : Nat) A1 W1 => A1 0 = some (.yld y) ∧ A1 6 = some (edsV (edL P)) ∧ A1 7 = some (.int .i64 (edL P).length) ∧ A1 8 = some (.int .i64 i) ∧ i ≤ (edL P).length ∧ J i W1) (fun i => (edL P).length - i) 0
  ⟨rfl, rfl, rfl, rfl, Nat.zero_le _, h0⟩ ?_
 rintro i A1 W1 ⟨g0, g6, g7, g8, gi, gJ⟩ hn
 by_cases hi : i < (edL P).length
 ·have hat := ed_at hi
  have hyi := fun l => hy i hi W1 l gJ
  generalize (edL P)[i] = e at hat hyi
  refine awp_startC (hJ _ _ gJ).1 ?_
  simp (maxSteps:=9^9) (disch:=omega) only [c_edges1_0, BX, ↓reduceIte, nE, reduceCtorEq, BM, BD, nA, nL, nT, g0, g6, g7, g8, clt, hi, dT, hs.idx hat, ed_cells, sem_yield]
  refine hmono _ _ _ _ ?_ (hyi _)
  rintro Y W2 ⟨rfl, g⟩
  simp (maxSteps:=9^9) (disch:=omega) only [BS, BC, cond_if, ↓reduceIte, nE, reduceCtorEq, BD, g0, g6, g7, g8, wadd1]
  exact ⟨i + 1, ⟨tt, tt, tt, tt, by omega, g⟩, by omega, (hJ _ _ g).2⟩
 ·obtain rfl : i = (edL P).length := by omega
  simp (maxSteps:=9^9) (disch:=omega) only [c_edges1_0, BX, ↓reduceIte, g7, g8, clt, hi, dF]
  exact ⟨_, rfl, _, _, .weak weak_id, (hJ _ _ gJ).2, rfl, gJ⟩
theorem Gr.ex {W W1 : AW} {g m lo : Nat} {h : V} {P : List Ek} {N : List Int} (hG : Gr W g m h P N lo) (hE : Ex W W1) : Gr W1 g m h P N lo := by
 have := hG.lg
 have := hG.lm
 have := hE.nx
 exact ⟨(hE.get _ hG.lg).trans hG.hg, (hE.get _ hG.lm).trans hG.hm, hG.now.to hE.nx fun r _ hr _ => hE.get r hr, by omega, by omega, hG.gg, hG.gm, hG.pk, hG.pl, hG.nl⟩
theorem range_edges (hP : PE E) {W0 : AW} {A : AFr} {q pv g m lo : Nat} {h : V} {P : List Ek} {N : List Int} {gx : AX} {asg body : AC} {Q : Exit → AFr → AW → Prop} (hg : gx.ev E A = some (.fn (.func 86) [] [.ptr q 0])) (hq : W0.get q = some (.row [.ptr g 0])) (hqn : q < W0.nx) (hC : Cl W0) (hG : Gr W0 g m h P N lo)
  (J : Nat → AW → Prop) (h0 : ∀ W1, Ex W0 W1 → W0.nx < W1.nx → J 0 W1) (hJ : ∀ i W1, J i W1 → Cl W1 ∧ W0.nx < W1.nx)
  (hb : ∀ i (hi : i < (edL P).length) W1 W1', J i W1 → Ex W1 W1' → W1'.get W0.nx = some (.loop .ready none) →
   awp E asg (thenQ (fun A1 W2 => W2.get W0.nx = some (.loop .ready none) ∧ awp E body (fun e _ W3 => e = .normal ∧ W3.get W0.nx = some (.loop .busy none) ∧ J (i + 1) (W3.put W0.nx (.loop .ready none))) A1 (W2.put W0.nx (.loop .busy none))) (fun _ _ _ => False)) (A.put pv (edL P)[i].V) W1')
  (hQ : ∀ W1, J (edL P).length W1 → W1.get W0.nx = some (.loop .ready none) → Q .normal A (W1.put W0.nx (.loop .exhausted none))) : awp E (.rangef gx [pv] asg body) Q A W0 := by
 rw [awp_rangef', hg]
 intro E' eP eG ey _
 have hP' : E'.P = Tryz.prog := eP.trans hP
 have hE : Ex W0 (W0.alloc (.loop .ready none)) := ⟨fun r hr => by rw [alloc_nx] at hr; rw [al_gets, if_neg (by omega)]; exact hC r (by omega), by rw [alloc_nx]; omega, fun x hx => alloc_lt hx⟩
 simp only [mcs, List.map_nil, frz_ptr]
 refine (edges_iter (E := E') hP' (y := W0.nx) (q := q) (by rw [alloc_lt hqn]; exact hq) (hG.ex hE) (fun k W1 => J k W1 ∧ W1.get W0.nx = some (.loop .ready none)) ⟨h0 _ hE (by rw [alloc_nx]; omega), alloc_at⟩ (fun i W1 g => ⟨(hJ _ _ g.1).1, by rw [alloc_nx]; exact (hJ _ _ g.1).2⟩) (fun vs W1 K K' hk hy => E'.yieldMono _ _ _ _ _ hk hy) ?_).mono ?_
 ·rintro i hi W1 l ⟨g1, g2⟩
  have hlt := (hJ _ _ g1).2
  refine ey _ _ _ ⟨by rw [X_old hlt]; exact g2, rfl, ?_⟩
  refine awp_mono _ ?_ (hb i hi W1 _ g1 ((Ex.refl (hJ _ _ g1).1).X (l := l)) (by rw [X_old hlt]; exact g2))
  intro e A1 W2 hh
  cases e with
  | normal =>
   refine ⟨hh.1, awp_mono _ ?_ hh.2⟩
   rintro e A3 W3 ⟨rfl, h2, h3⟩
   exact ⟨h2, rfl, h3, put_at⟩
  | _ => exact hh
 ·rintro Y W1 ⟨_, g1, g2⟩
  simp only [doneQ, g2]
  exact hQ _ g1 g2
def inP (P : List Ek) (e : Ed) : Bool := decide (ofEd e ∈ P)
theorem hasG_c (hP : PE E) (W : AW) {g m lo : Nat} {h : V} {P : List Ek} {N : List Int} (hG : Gr W g m h P N lo) (e : Ed) (he : ekOk (ofEd e)) : ACalls E 16 [.ptr g 0, e.V] W fun Y W' => Y = .bool (inP P e) ∧ W' = W := by
 refine ACalls.of hP Tryz.func16 ok_hasGe (by simp) fun _ hok => ?_
 refine awp_start hok ?_
 have hlm := hG.lm
 have hlg := hG.lg
 have hks := g_keys (tally_ok hG.pk) he 0
 have hlk : ∀ l K, sem E (.lookup shE (.int .i64 0) false) [.map m, .agg [.int .u16 e.fr, .int .u16 e.to, .int .u8 e.kd]] (X W W.nx l) K = K (.int .i64 ((getE (tally P) (ofEd e)).getD 0)) (X W W.nx l) := fun l K => by
  rw [show V.agg [.int .u16 e.fr, .int .u16 e.to, .int .u8 e.kd] = ekV (ofEd e) from rfl, m_lookup (by rw [X_old hlm]; exact hG.hm) hks, lookK_g]
 have hd : decide ((getE (tally P) (ofEd e)).getD 0 > 0) = inP P e := by
  rw [tally_get, inP]
  by_cases hm : ofEd e ∈ P
  ·have := List.count_pos_iff.2 hm
   simp [hm]
  ·simp [hm]
 simp (maxSteps:=9^9) (disch:=omega) only [c_hasG, BZ, guard_if, ↓reduceIte, nE, reduceCtorEq, BM, BD, nA, nL, Ed.V, hG.hg, hlk, hd]
 exact ⟨_, rfl, _, W, backX hok rfl, lr _, rfl, rfl⟩
end Go.AL.S
namespace Go.AL.S
open Go Go.AL Go.Proofs
def c_idx8 : AC := (.r [.v 4 (.int .i64 0)] (.seq (.r [.m 6 0,.u 7 (.len 1 0) 6,.v 8 (.int .i64 0)] (.block 0 (.loop (.r [.b 9 (.bin .lss) 8 7] (.seq (.w 9 0) (.seq (.block 1 (.r [.m 10 8,.m 5 10] (.r [.m 11 1,.m 12 0,.m 13 5,.b 14 (.idxp 1) 12 13,.u 15 (.load false 1) 14,.b 16 (.bin .eql) 11 15] (.cond (.t 16) (.r [.m 17 5,.m 4 17] .ret) .skip)))) (.reg [.a 18 (.bin .add) 8 1,.m 8 18]))))))) (.r [.v 4 (.int .i64 (-1))] .ret)))
theorem ok_idx8e : compF Tryz.prog Tryz.f98 ⟨false, false, []⟩ = some (c_idx8, [.tmp 4], 19) := by kernel_rfl
def c_has8 : AC := (.r [.v 4 (.bool false)] (.r [.m 5 0,.m 6 1,.b 7 (.call 98) 5 6,.a 8 (.bin .geq) 7 0,.m 4 8] .ret))
theorem ok_has8e : compF Tryz.prog Tryz.f69 ⟨false, false, []⟩ = some (c_has8, [.tmp 4], 9) := by kernel_rfl
def c_idxI : AC := (.r [.v 4 (.int .i64 0)] (.seq (.r [.m 6 0,.u 7 (.len 1 0) 6,.v 8 (.int .i64 0)] (.block 0 (.loop (.r [.b 9 (.bin .lss) 8 7] (.seq (.w 9 0) (.seq (.block 1 (.r [.m 10 8,.m 5 10] (.r [.m 11 1,.m 12 0,.m 13 5,.b 14 (.idxp 1) 12 13,.u 15 (.load false 1) 14,.b 16 (.bin .eql) 11 15] (.cond (.t 16) (.r [.m 17 5,.m 4 17] .ret) .skip)))) (.reg [.a 18 (.bin .add) 8 1,.m 8 18]))))))) (.r [.v 4 (.int .i64 (-1))] .ret)))
theorem ok_idxIe : compF Tryz.prog Tryz.f99 ⟨false, false, []⟩ = some (c_idxI, [.tmp 4], 19) := by kernel_rfl
def c_hasI : AC := (.r [.v 4 (.bool false)] (.r [.m 5 0,.m 6 1,.b 7 (.call 99) 5 6,.a 8 (.bin .geq) 7 0,.m 4 8] .ret))
theorem ok_hasIe : compF Tryz.prog Tryz.f70 ⟨false, false, []⟩ = some (c_hasI, [.tmp 4], 9) := by kernel_rfl
def c_bs16_0 : AC := (.seq (.r [.m 13 7,.m 14 8,.b 15 (.bin .lss) 13 14] (.w 15 0)) (.block 1 (.r [.m 16 7,.m 17 8,.b 18 (.bin .add) 16 17,.u 19 (.conv .u64) 18,.p 20 (.bin .shr) [.t 19,.c (.int .u64 1)],.u 21 (.conv .i64) 20,.m 9 21] (.r [.m 22 0,.m 23 9,.b 24 (.idxp 1) 22 23,.u 25 (.load false 1) 24,.m 26 1,.b 27 (.call 96) 25 26] (.cond (.t 27) (.reg [.m 28 9,.a 29 (.bin .add) 28 1,.m 7 29]) (.reg [.m 30 9,.m 8 30]))))))
def c_bs16 : AC := (.r [.v 4 (.int .i64 0),.v 5 (.bool false)] (.r [.m 10 0,.u 11 (.len 1 0) 10,.m 6 11] (.r [.m 12 6,.v 7 (.int .i64 0),.m 8 12] (.seq (.block 0 (.loop c_bs16_0)) (.r [.m 31 7,.m 32 7,.m 33 6,.b 34 (.bin .lss) 32 33,.m 35 34,.M 36 0 35 true,.M 37 7 35 true,.B 38 (.idxp 1) 36 37 35 true,.U 39 (.load false 1) 38 35 true,.M 40 1 35 true,.B 41 (.bin .eql) 39 40 35 true,.M 42 41 35 true,.M 43 0 42 false,.M 44 7 42 false,.B 45 (.idxp 1) 43 44 42 false,.U 46 (.load false 1) 45 42 false,.U 47 (.call 97) 46 42 false,.M 48 47 42 false,.M 49 1 48 true,.U 50 (.call 97) 49 48 true,.P 51 .pick [.t 48,.t 50,.F] 42 false,.P 52 .pick [.t 42,.T,.t 51] 35 true,.p 53 .pick [.t 35,.t 52,.F],.m 4 31,.m 5 53] .ret)))))
theorem ok_bs16e : compF Tryz.prog Tryz.f68 ⟨false, false, []⟩ = some (c_bs16, [.tmp 4, .tmp 5], 54) := by kernel_rfl
def c_snan : AC := (.r [.v 2 (.bool false)] (.r [.m 3 0,.m 4 0,.b 5 (.bin .neq) 3 4,.m 2 5] .ret))
theorem ok_snane : compF Tryz.prog Tryz.f97 ⟨false, false, []⟩ = some (c_snan, [.tmp 2], 6) := by kernel_rfl
variable {E : Env}
def u8s (l : List Int) : List V := l.map (V.int .u8)
def i64s (l : List Int) : List V := l.map (V.int .i64)
theorem u8s_at {l : List Int} {k : Nat} (h : k < l.length) : (u8s l)[k]? = some (.int .u8 l[k]) := by simp [u8s, h]
theorem i64s_at {l : List Int} {k : Nat} (h : k < l.length) : (i64s l)[k]? = some (.int .i64 l[k]) := by simp [i64s, h]
theorem u8s_len (l : List Int) : (u8s l).length = l.length := by simp [u8s]
theorem i64s_len (l : List Int) : (i64s l).length = l.length := by simp [i64s]
theorem idx8_c (hP : PE E) (W : AW) {v : V} {l : List Int} (h : isS 1 v (u8s l)) (hl : l.length < 2 ^ 40) (n : Int) :
  ACalls E 98 [v, .int .u8 n] W fun Y W' => Y = .int .i64 (idxV (fun x => decide (n = x)) l) ∧ W' = W := by
 refine ACalls.of hP Tryz.func98 ok_idx8e (by simp) fun _ hok => ?_
 simp only [c_idx8, BZ, ↓reduceIte, reduceCtorEq, h.len, u8s_len]
 rw [e_loop]
 refine alp (fun (k : Nat) A1 W1 => A1 0 = some v ∧ A1 1 = some (.int .u8 n) ∧ A1 7 = some (.int .i64 l.length) ∧ A1 8 = some (.int .i64 k) ∧ k ≤ l.length ∧ W1 = W ∧ ∀ i (hi : i < l.length), i < k → decide (n = l[i]) = false) (fun k => l.length - k) 0
  ⟨rfl, rfl, rfl, rfl, Nat.zero_le _, rfl, fun _ _ h => by omega⟩ ?_
 rintro k A1 W1 ⟨g0, g1, g7, g8, gk, rfl, ge⟩ _
 by_cases hk1 : k < l.length
 ·cases hb : decide (n = l[k])
  ·simp (maxSteps:=9^9) (disch:=omega) only [BX, ↓reduceIte, nE, reduceCtorEq, BM, g0, g1, g7, g8, clt, hk1, dT, h.idx (u8s_at hk1), cmpeq, hb, wadd1]
   refine ⟨k + 1, ⟨tt, tt, tt, tt, tt, tt, fun i hi hk => ?_⟩, by omega, lr _⟩
   by_cases e : i = k
   ·subst e; exact hb
   ·exact ge i hi (by omega)
  ·simp (maxSteps:=9^9) (disch:=omega) only [BX, ↓reduceIte, nE, reduceCtorEq, BM, g0, g1, g7, g8, clt, hk1, dT, h.idx (u8s_at hk1), cmpeq, hb]
   exact ⟨_, rfl, _, _, .weak weak_id, lr _, by rw [idxV_hit hk1 hb ge], rfl⟩
 ·obtain rfl : k = l.length := by omega
  simp only [BX, ↓reduceIte, g7, g8, clt, hk1, dF]
  exact ⟨_, rfl, _, _, .weak weak_id, lr _, by rw [idxV_none fun i hi => ge i hi hi], rfl⟩
theorem has8_c (hP : PE E) (W : AW) {v : V} {l : List Int} (h : isS 1 v (u8s l)) (hl : l.length < 2 ^ 40) (n : Int) :
  ACalls E 69 [v, .int .u8 n] W fun Y W' => Y = .bool (l.any fun x => decide (n = x)) ∧ W' = W := by
 refine ACalls.of hP Tryz.func69 ok_has8e (by simp) fun _ hok => ?_
 simp only [c_has8, BZ, ↓reduceIte, nE, reduceCtorEq, h.frz]
 refine pc (idx8_c hP W h hl n) ?_
 simp only [BS, BC, ↓reduceIte, idxV_ge]
 exact ⟨_, rfl, _, _, .weak weak_id, lr _, rfl, rfl⟩
theorem idxI_c (hP : PE E) (W : AW) {v : V} {l : List Int} (h : isS 1 v (i64s l)) (hl : l.length < 2 ^ 40) (n : Int) :
  ACalls E 99 [v, .int .i64 n] W fun Y W' => Y = .int .i64 (idxV (fun x => decide (n = x)) l) ∧ W' = W := by
 refine ACalls.of hP Tryz.func99 ok_idxIe (by simp) fun _ hok => ?_
 simp only [c_idxI, BZ, ↓reduceIte, reduceCtorEq, h.len, i64s_len]
 rw [e_loop]
 refine alp (fun (k : Nat) A1 W1 => A1 0 = some v ∧ A1 1 = some (.int .i64 n) ∧ A1 7 = some (.int .i64 l.length) ∧ A1 8 = some (.int .i64 k) ∧ k ≤ l.length ∧ W1 = W ∧ ∀ i (hi : i < l.length), i < k → decide (n = l[i]) = false) (fun k => l.length - k) 0
  ⟨rfl, rfl, rfl, rfl, Nat.zero_le _, rfl, fun _ _ h => by omega⟩ ?_
 rintro k A1 W1 ⟨g0, g1, g7, g8, gk, rfl, ge⟩ _
 by_cases hk1 : k < l.length
 ·cases hb : decide (n = l[k])
  ·simp (maxSteps:=9^9) (disch:=omega) only [BX, ↓reduceIte, nE, reduceCtorEq, BM, g0, g1, g7, g8, clt, hk1, dT, h.idx (i64s_at hk1), cmpeq, hb, wadd1]
   refine ⟨k + 1, ⟨tt, tt, tt, tt, tt, tt, fun i hi hk => ?_⟩, by omega, lr _⟩
   by_cases e : i = k
   ·subst e; exact hb
   ·exact ge i hi (by omega)
  ·simp (maxSteps:=9^9) (disch:=omega) only [BX, ↓reduceIte, nE, reduceCtorEq, BM, g0, g1, g7, g8, clt, hk1, dT, h.idx (i64s_at hk1), cmpeq, hb]
   exact ⟨_, rfl, _, _, .weak weak_id, lr _, by rw [idxV_hit hk1 hb ge], rfl⟩
 ·obtain rfl : k = l.length := by omega
  simp only [BX, ↓reduceIte, g7, g8, clt, hk1, dF]
  exact ⟨_, rfl, _, _, .weak weak_id, lr _, by rw [idxV_none fun i hi => ge i hi hi], rfl⟩
theorem hasI_c (hP : PE E) (W : AW) {v : V} {l : List Int} (h : isS 1 v (i64s l)) (hl : l.length < 2 ^ 40) (n : Int) :
  ACalls E 70 [v, .int .i64 n] W fun Y W' => Y = .bool (l.any fun x => decide (n = x)) ∧ W' = W := by
 refine ACalls.of hP Tryz.func70 ok_hasIe (by simp) fun _ hok => ?_
 simp only [c_hasI, BZ, ↓reduceIte, nE, reduceCtorEq, h.frz]
 refine pc (idxI_c hP W h hl n) ?_
 simp only [BS, BC, ↓reduceIte, idxV_ge]
 exact ⟨_, rfl, _, _, .weak weak_id, lr _, rfl, rfl⟩
theorem snan_c (hP : PE E) (W : AW) (a : Int) : ACalls E 97 [.int .u16 a] W fun X W' => X = .bool false ∧ W' = W := by
 refine ACalls.of hP Tryz.func97 ok_snane (by simp) fun _ hok => ?_
 simp (maxSteps:=9^9) (disch:=omega) only [BZ, ↓reduceIte, nE, reduceCtorEq, c_snan, cmpne, show decide (a ≠ a) = false by simp]
 exact ⟨_, rfl, _, _, .weak weak_id, lr _, rfl, rfl⟩
def lowB (l : List Int) (x : Int) : Nat := (l.takeWhile fun y => decide (y < x)).length
theorem lowB_of {l : List Int} {x : Int} {k : Nat} (hk : k ≤ l.length) (h1 : ∀ i (h : i < l.length), i < k → l[i] < x) (h2 : ∀ (h : k < l.length), ¬ l[k] < x) : lowB l x = k := by
 induction l generalizing k with
 | nil => simp at hk; subst hk; rfl
 | cons a l ih =>
  cases k with
  | zero =>
   have := h2 (by simp)
   simp only [List.getElem_cons_zero] at this
   simp [lowB, this]
  | succ k =>
   have h0 := h1 0 (by simp) (by omega)
   simp only [List.getElem_cons_zero] at h0
   have := ih (k := k) (by simpa using hk) (fun i h hi => by have := h1 (i + 1) (by simpa using h) (by omega); simpa using this) (fun h => by have := h2 (by simpa using h); simpa using this)
   simp only [lowB, List.takeWhile_cons, decide_eq_true h0, if_true, lcs] at this ⊢
   omega
theorem half {a b : Nat} (h : a + b < 2 ^ 41) : IntKind.i64.wrap ((a : Int) + b) = ((a + b : Nat) : Int) := by
 rw [show (a : Int) + b = ((a + b : Nat) : Int) by omega]; exact wrapn (by omega) (by omega)
theorem wrapu {n : Nat} (h : n < 2 ^ 41) : IntKind.u64.wrap (n : Int) = n := by
 simp only [IntKind.wrap, IntKind.signed, IntKind.bits]
 simp
 omega
theorem bs16_c (hP : PE E) (W : AW) {v : V} {l : List Int} (h : isS 1 v (intsV l)) (hs : l.Pairwise fun a b => a < b) (hl : l.length < 2 ^ 40) (x : Int) :
  ACalls E 68 [v, .int .u16 x] W fun Y W' => Y = .tuple [.int .i64 (lowB l x), .bool (decide (x ∈ l))] ∧ W' = W := by
 refine ACalls.of hP Tryz.func68 ok_bs16e (by simp) fun _ hok => ?_
 simp (maxSteps:=9^9) (disch:=omega) only [BZ, ↓reduceIte, nE, reduceCtorEq, c_bs16, h.len, ints_len]
 rw [e_loop]
 refine alp (fun (σ : Nat × Nat) A1 W1 => A1 0 = some v ∧ A1 1 = some (.int .u16 x) ∧ A1 6 = some (.int .i64 l.length) ∧ A1 7 = some (.int .i64 σ.1) ∧ A1 8 = some (.int .i64 σ.2) ∧ σ.1 ≤ σ.2 ∧ σ.2 ≤ l.length ∧ W1 = W ∧ (∀ i (hi : i < l.length), i < σ.1 → l[i] < x) ∧ (∀ i (hi : i < l.length), σ.2 ≤ i → ¬ l[i] < x)) (fun σ => σ.2 - σ.1) (0, l.length)
  ⟨rfl, rfl, rfl, rfl, rfl, Nat.zero_le _, lr _, rfl, fun _ _ h => by simp at h, fun i hi h => by simp at h; omega⟩ ?_
 rintro ⟨i, j⟩ A1 W1 ⟨g0, g1, g6, g7, g8, gij, gj, rfl, gl, gh⟩ _
 simp only at g7 g8 gij gj gl gh
 by_cases hij : i < j
 ·have hm : (i + j) / 2 ^ 1 < l.length := by simp; omega
  have hm' : (i + j) / 2 ^ 1 < j ∧ i ≤ (i + j) / 2 ^ 1 := by simp; omega
  generalize hmm : (i + j) / 2 ^ 1 = m at hm hm'
  have hsh : ∀ K, sem E (.bin .shr) [.int .u64 ((i + j : Nat) : Int), .int .u64 1] W1 K = K (.int .u64 (m : Int)) W1 := fun K => by rw [← hmm]; exact shrN 1 (by decide)
  have hcm : IntKind.i64.wrap (m : Int) = m := wrapn (by omega) (by omega)
  simp (maxSteps:=9^9) (disch:=omega) only [BX, ↓reduceIte, nE, reduceCtorEq, BM, c_bs16_0, g0, g1, g7, g8, clt, hij, dT, half (a := i) (b := j) (by omega), wrapu, hsh, hcm, h.idx (int_at hm)]
  refine pc (less_c hP _ _ _) ?_
  by_cases hx : l[m] < x
  ·simp (maxSteps:=9^9) (disch:=omega) only [BS, cond_if, ↓reduceIte, nE, reduceCtorEq, g0, g1, g6, g8, decide_eq_true hx, wadd1]
   refine ⟨(m + 1, j), ⟨tt, tt, tt, tt, tt, by show m + 1 ≤ j; omega, gj, tt, fun i' hi' h' => ?_, gh⟩, by show j - (m + 1) < j - i; omega, lr _⟩
   by_cases e : i' = m
   ·subst e; exact hx
   ·have := List.pairwise_iff_getElem.1 hs i' m hi' hm (by simp only at h'; omega)
    omega
  ·simp (maxSteps:=9^9) (disch:=omega) only [BS, BC, cond_if, ↓reduceIte, nE, reduceCtorEq, g0, g1, g6, g7, decide_eq_false hx]
   refine ⟨(i, m), ⟨tt, tt, tt, tt, tt, hm'.2, by show m ≤ l.length; omega, tt, gl, fun i' hi' h' => ?_⟩, by show m - i < j - i; omega, lr _⟩
   by_cases e : i' = m
   ·subst e; exact hx
   ·have := List.pairwise_iff_getElem.1 hs m i' hm hi' (by simp only at h'; omega)
    omega
 ·obtain rfl : i = j := by omega
  have hlb := lowB_of (x := x) gj gl (fun h => gh i h (lr _))
  by_cases hil : i < l.length
  ·have hni : decide (x ∈ l) = decide (l[i] = x) := by
    refine decide_eq_decide.2 ⟨fun hx => ?_, fun e => by rw [← e]; exact gmm _⟩
    obtain ⟨k, hk, rfl⟩ := List.mem_iff_getElem.1 hx
    rcases Nat.lt_trichotomy k i with h1 | h1 | h1
    ·have := gl k hk h1; omega
    ·subst h1; rfl
    ·have h2 := List.pairwise_iff_getElem.1 hs i k hil hk h1
     have := gh i hil (lr _); omega
   by_cases he : l[i] = x
   ·simp (maxSteps:=9^9) (disch:=omega) only [BX, ↓reduceIte, nE, c_bs16_0, g6, g7, g8, clt, hij, hil, dT, dF]
    repeat (rw [guard_if]; simp (maxSteps:=9^9) (disch:=omega) only [BS, BC, ↓reduceIte, nE, reduceCtorEq, BM, g0, g1, g7, h.idx (int_at hil), cmpeq, decide_eq_true he])
    exact ⟨_, rfl, _, _, .weak weak_id, lr _, by rw [hlb, hni, decide_eq_true he], rfl⟩
   ·simp (maxSteps:=9^9) (disch:=omega) only [BX, ↓reduceIte, nE, c_bs16_0, g6, g7, g8, clt, hij, hil, dT, dF]
    repeat (rw [guard_if]; simp (maxSteps:=9^9) (disch:=omega) only [BS, BC, ↓reduceIte, nE, reduceCtorEq, BM, g0, g1, g7, h.idx (int_at hil), cmpeq, decide_eq_false he])
    refine pc (snan_c hP _ _) ?_
    simp (maxSteps:=9^9) (disch:=omega) only [BS]
    repeat (rw [guard_if]; simp (maxSteps:=9^9) (disch:=omega) only [BS, BC, ↓reduceIte, nE, BM])
    exact ⟨_, rfl, _, _, .weak weak_id, lr _, by rw [hlb, hni, decide_eq_false he], rfl⟩
  ·have hni : decide (x ∈ l) = false := by
    refine decide_eq_false fun hx => ?_
    obtain ⟨k, hk, rfl⟩ := List.mem_iff_getElem.1 hx
    have := gl k hk (by omega); omega
   simp (maxSteps:=9^9) (disch:=omega) only [BX, ↓reduceIte, nE, c_bs16_0, g6, g7, g8, clt, hij, hil, dF]
   repeat (rw [guard_if]; simp (maxSteps:=9^9) (disch:=omega) only [BS, BC, ↓reduceIte, nE, BM])
   exact ⟨_, rfl, _, _, .weak weak_id, lr _, by rw [hlb, hni], rfl⟩
open Go Go.AL Go.AL.SE Go.Proofs
def c_next_B1 : AC := (.block 1 (.seq (.par (.step 4 (.u 27 (.fld 0) 6) (.step 0 (.u 23 (.load false 1) 2) (.step 1 (.u 24 .nilck 23) (.step 2 (.u 25 (.fld 0) 24) (.step 3 (.u 26 (.load false 1) 25) (.step 5 (.u 28 (.load false 1) 27) (.step 6 (.b 29 (.call 68) 26 28) (.step 7 (.m 22 29) (.step 8 (.u 30 (.ext 0) 22) (.step 9 (.u 31 (.ext 1) 22) (.step 10 (.m 7 30) (.step 11 (.m 8 31) .done))))))))))))) (.seq (.par (.step 4 (.u 37 (.fld 1) 6) (.step 0 (.u 33 (.load false 1) 2) (.step 1 (.u 34 .nilck 33) (.step 2 (.u 35 (.fld 0) 34) (.step 3 (.u 36 (.load false 1) 35) (.step 5 (.u 38 (.load false 1) 37) (.step 6 (.b 39 (.call 68) 36 38) (.step 7 (.m 32 39) (.step 8 (.u 40 (.ext 0) 32) (.step 9 (.u 41 (.ext 1) 32) (.step 10 (.m 9 40) (.step 11 (.m 10 41) .done))))))))))))) (.r [.u 42 (.load false 1) 3,.u 43 (.fld 2) 6,.u 44 (.load false 1) 43,.b 45 (.call 69) 42 44,.m 46 45,.U 47 (.load false 1) 5 46 true,.M 48 7 46 true,.B 49 (.idxp 1) 47 48 46 true,.U 50 (.load false 1) 49 46 true,.M 51 9 46 true,.B 52 (.call 70) 50 51 46 true,.U 53 (.un .not) 52 46 true,.p 54 .pick [.t 46,.t 53,.F]] (.cond (.t 54) (.par (.step 1 (.m 56 7) (.step 3 (.m 58 7) (.step 6 (.m 61 9) (.step 7 (.u 62 (.bslice 1 1 (.int .i64 0) [0]) 61) (.step 2 (.u 57 (.load false 1) 5) (.step 4 (.b 59 (.idxp 1) 57 58) (.step 5 (.u 60 (.load false 1) 59) (.alt (.step 0 (.u 55 (.load false 1) 5) (.step 8 (.b 63 (.append 1 8) 60 62) (.step 9 (.b 64 (.idxp 1) 55 56) (.step 10 ⟨none,.store 1, [.t 64,.t 63], none⟩ .done)))) (.step 8 (.b 63 (.append 1 8) 60 62) (.step 0 (.u 55 (.load false 1) 5) (.step 9 (.b 64 (.idxp 1) 55 56) (.step 10 ⟨none,.store 1, [.t 64,.t 63], none⟩ .done))))))))))))) .skip)))))
def c_next : AC := (.r [.u 2 .box 0,.u 3 .box 1,.v 4 (.nilsl)] (.seq (.r [.u 11 (.load false 1) 2,.p 12 (.eqn false 0) [.t 11,.c (.nilptr)]] (.cond (.t 12) (.r [.v 4 (.nilsl)] .ret) .skip)) (.r [.u 13 (.load false 1) 2,.u 14 .nilck 13,.u 15 (.fld 0) 14,.u 16 (.load false 1) 15,.u 17 (.len 1 0) 16,.b 18 (.makesl 1 24 [.nilsl]) 17 17,.p 5 (.alloc [.nilsl]) [],⟨none,.store 1, [.t 5,.t 18], none⟩] (.seq (.r [.u 19 (.load false 1) 2,.u 20 (.call 43) 19] (.block 0 (.rangef (.t 20) [21] (.reg [.p 6 (.alloc [.int .u16 0,.int .u16 0,.int .u8 0]) [],⟨none,.store 3, [.t 6,.t 21], none⟩]) c_next_B1))) (.r [.u 65 (.load false 1) 5,.m 4 65] .ret)))))
theorem ok_nexte : compF Tryz.prog Tryz.f31 ⟨false, false, []⟩ = some (c_next, [.tmp 4], 66) := by kernel_rfl
theorem app_now2 {W : AW} {K : V → AW → Prop} {h x : V} {xs : List V} {s lo by' : Nat} (hn : nowG W h xs s lo) (hC : Cl W) (hlo : lo ≤ W.nx) (hs : 0 < s) (hx : x.cells.all V.one = true) (hb : (xs.length + 1) * by' ≤ 2 ^ 46)
  (hK : ∀ r W', nowG W' (.buf true r s (xs.length + 1)) (xs ++ [x]) s lo → Cl W' → W.nx ≤ W'.nx → (r = W.nx ∨ h = .buf true r s xs.length) → (∀ y, y < W.nx → y ≠ r → W'.get y = W.get y) → K (.buf true r s (xs.length + 1)) W') : sem E (.append s by') [h, .sl s true [x]] W K := by
 rcases hn with ⟨rfl, rfl⟩ | ⟨r, h1, h2, rfl, h4, h5⟩
 ·have e : sem E (.append s by') [.nilsl, .sl s true [x]] W K = K (.buf true W.nx s 1) (W.alloc (.buf true s [x])) := by
   simp [sem, elemsV, hs]
   intro; simp at hb; omega
  rw [e]
  refine hK _ _ (.inr ⟨W.nx, hlo, by rw [alloc_nx]; omega, rfl, by simp, alloc_at⟩) ?_ (by rw [alloc_nx]; omega) (.inl rfl) (fun y hy _ => alloc_lt hy)
  intro y hy
  rw [alloc_nx] at hy
  rw [al_gets, if_neg (by omega)]
  exact hC y (by omega)
 ·have e : sem E (.append s by') [.buf true r s xs.length, .sl s true [x]] W K = K (.buf true r s (xs.length + 1)) (W.put r (.buf true s (xs ++ [x]))) := by
   simp only [sem, elemsV, if_true, h5, lcs, List.length_nil, Nat.zero_add, List.all_cons, List.all_nil, Bool.and_true, hx]
   exact propext ⟨fun h => h.2.2.2.2.2.2.2, fun h => ⟨hs, tt, tt, tt, tt, hb, tt, h⟩⟩
  rw [e]
  exact hK _ _ (.inr ⟨r, h1, by rw [put_nx]; exact h2, by simp, by simp, put_at⟩) (hC.put h2) (by rw [put_nx]; omega) (.inr rfl) (fun y _ hne => put_ne hne)
structure Gc (W : AW) (cs : List V) (out : List (List Int)) (lo : Nat) : Prop where
 len : cs.length = out.length
 now : ∀ i (h : i < cs.length) (h' : i < out.length), nowG W cs[i] (i64s out[i]) 1 lo
 ne : ∀ i j (h : i < cs.length) (h' : j < cs.length), i ≠ j → ∀ r n m, cs[i] = .buf true r 1 n → cs[j] ≠ .buf true r 1 m
theorem Gc.start (W : AW) (n lo : Nat) : Gc W (List.replicate n .nilsl) (List.replicate n []) lo where
 len := by simp
 now := fun i h h' => .inl ⟨by simp, by simp [i64s]⟩
 ne := fun i j h h' _ r n m e => by simp at e
theorem Gc.to {W W' : AW} {cs : List V} {out : List (List Int)} {lo : Nat} (h : Gc W cs out lo) (hx : W.nx ≤ W'.nx) (hg : ∀ r, lo ≤ r → r < W.nx → (∃ ys, W.get r = some (.buf true 1 ys)) → W'.get r = W.get r) : Gc W' cs out lo :=
 ⟨h.len, fun i h1 h2 => (h.now i h1 h2).to hx hg, h.ne⟩
theorem Gc.app {W W' : AW} {cs : List V} {out : List (List Int)} {lo f r : Nat} {x : Int} (h : Gc W cs out lo) (hf : f < cs.length) (hf' : f < out.length) (hn : nowG W' (.buf true r 1 ((i64s out[f]).length + 1)) (i64s out[f] ++ [.int .i64 x]) 1 lo) (hx : W.nx ≤ W'.nx) (hr : r = W.nx ∨ cs[f] = .buf true r 1 (i64s out[f]).length) (hg : ∀ y, y < W.nx → y ≠ r → W'.get y = W.get y) :
  Gc W' (cs.set f (.buf true r 1 ((i64s out[f]).length + 1))) (out.set f (out[f] ++ [x])) lo := by
 have hlen := h.len
 have hne : ∀ j (hj : j < cs.length), j ≠ f → ∀ m, cs[j] ≠ .buf true r 1 m := by
  intro j hj hjf m e
  rcases hr with rfl | hr
  ·rcases h.now j hj (by omega) with ⟨e1, _⟩ | ⟨r', h1, h2, h3, _⟩
   ·rw [e] at e1; cases e1
   ·rw [e] at h3; cases h3; omega
  ·exact h.ne f j hf hj (fun e => hjf e.symm) r _ m hr e
 refine ⟨by simp [hlen], fun i h1 h2 => ?_, fun i j h1 h2 hij r' n m e1 e2 => ?_⟩
 ·have h1' : i < cs.length := by simpa using h1
  have h2' : i < out.length := by simpa using h2
  by_cases e : i = f
  ·subst e
   rw [List.getElem_set_self, List.getElem_set_self, show i64s (out[i] ++ [x]) = i64s out[i] ++ [.int .i64 x] by simp [i64s]]
   exact hn
  ·rw [List.getElem_set_ne (by omega), List.getElem_set_ne (by omega)]
   rcases h.now i h1' h2' with g | ⟨r', g1, g2, g3, g4, g5⟩
   ·exact .inl g
   ·refine .inr ⟨r', g1, by omega, g3, g4, ?_⟩
    rw [hg r' g2 (by rintro rfl; exact hne i h1' e _ g3)]; exact g5
 ·have h1' : i < cs.length := by simpa using h1
  have h2' : j < cs.length := by simpa using h2
  rw [List.getElem_set] at e1 e2
  by_cases ei : f = i
  ·rw [if_pos ei] at e1
   rw [if_neg (by omega)] at e2
   have : r = r' := by injection e1
   subst this
   exact hne j h2' (by omega) _ e2
  ·rw [if_neg ei] at e1
   by_cases ej : f = j
   ·rw [if_pos ej] at e2
    have : r = r' := by injection e2
    subst this
    exact hne i h1' (by omega) _ e1
   ·rw [if_neg ej] at e2
    exact h.ne i j h1' h2' hij r' n m e1 e2
theorem Gc.frz {W : AW} {cs : List V} {out : List (List Int)} {lo : Nat} (h : Gc W cs out lo) : cs.map W.frz = out.map fun l => nowGS 1 (i64s l) := by
 refine List.ext_getElem (by simp [h.len]) fun i h1 h2 => ?_
 rw [List.getElem_map, List.getElem_map]
 exact (h.now i (by simpa using h1) (by simpa using h2)).frz
def nextStep (N kinds : List Int) (out : List (List Int)) (x : Ed) : List (List Int) :=
 if (kinds.any fun k => decide (x.kd = k)) = true ∧ ((out.getD (lowB N x.fr) []).any fun t => decide ((lowB N x.to : Int) = t)) = false then out.set (lowB N x.fr) (out.getD (lowB N x.fr) [] ++ [(lowB N x.to : Int)]) else out
def nextR (P : List Ek) (N kinds : List Int) : List (List Int) := (edL P).foldl (nextStep N kinds) (List.replicate N.length [])
theorem nextStep_len (N kinds : List Int) (out : List (List Int)) (x : Ed) : (nextStep N kinds out x).length = out.length := by
 unfold nextStep; split <;> simp
theorem lowB_lt {l : List Int} {x : Int} (h : x ∈ l) : lowB l x < l.length := by
 induction l with
 | nil => simp at h
 | cons a l ih =>
  simp only [lowB, List.takeWhile_cons]
  split
  ·rename_i hd
   rcases List.mem_cons.1 h with rfl | h
   ·simp at hd
   ·have := ih h; simp only [lowB] at this; simp; omega
  ·simp
theorem ix1 {W : AW} {K : V → AW → Prop} {r n i : Nat} {kk : IntKind} (h : i < n) : sem E (.idxp 1) [.slr r 0 n 1, .int kk (i : Int)] W K = K (.vptr r i) W := by
 rw [sem_idxp_slr (by omega) (by omega)]; simp
theorem ldv {W : AW} {K : V → AW → Prop} {r i : Nat} {cs : List V} {c : V} (h : W.get r = some (.vec 1 cs)) (hc : cs[i]? = some c) : sem E (.load false 1) [.vptr r i] W K = K c W := by
 have hp : partV cs i 1 false = some c := by simp [partV, hc]
 exact sem_load_vec (g := false) h hp
theorem stv {W : AW} {K : V → AW → Prop} {r i : Nat} {cs : List V} {c : V} (h : W.get r = some (.vec 1 cs)) (hi : i < cs.length) (h1 : c.cells = [c]) (h2 : c.one = true) : sem E (.store 1) [.vptr r i, c] W K = K .undef (W.put r (.vec 1 (cs.set i c))) := by
 rw [sem_store_vec (s := 1) (x := c) h (by rw [h1]; rfl) (by rw [h1]; simp [h2]) (by omega), h1, List.set_eq_take_append_cons_drop, if_pos hi]
 simp
theorem bsI {W : AW} {K : V → AW → Prop} {a : Int} : sem E (.bslice 1 1 (.int .i64 0) [0]) [.int .i64 a] W K = K (.sl 1 true [.int .i64 a]) W := by
 simp [sem, rsem, tsem, fillE, V.cells]
theorem next1_go (hP : PE E) {W1 : AW} {g m lo0 b2 b3 b5 b6 rv lo : Nat} {h kv : V} {P : List Ek} {N kinds : List Int} (hC : Cl W1) (hG : Gr W1 g m h P N lo0) (hNs : N.Pairwise fun a b => a < b) (hkv : isS 1 kv (u8s kinds)) (hkl : kinds.length < 2 ^ 40) {x : Ed} (hx1 : x.fr ∈ N) (hx2 : x.to ∈ N) {cs : List V} {out : List (List Int)} (hcs : Gc W1 cs out lo) (hrv : W1.get rv = some (.vec 1 cs)) (hout : out.length = N.length) (hol : ∀ l ∈ out, l.length < 2 ^ 40) (hlo : lo ≤ W1.nx)
  {A : AFr} {Q : Exit → AFr → AW → Prop} (a2 : A 2 = some (.ptr b2 0)) (a3 : A 3 = some (.ptr b3 0)) (a5 : A 5 = some (.ptr b5 0)) (a6 : A 6 = some (.ptr b6 0))
  (g2 : W1.get b2 = some (.row [.ptr g 0])) (g3 : W1.get b3 = some (.row [kv])) (g5 : W1.get b5 = some (.row [.slr rv 0 N.length 1])) (g6 : W1.get b6 = some (.row [.int .u16 x.fr, .int .u16 x.to, .int .u8 x.kd])) (l5 : b5 < W1.nx) (lrv : rv < W1.nx)
  (hQ : ∀ A' W' cs', Cl W' → W1.nx ≤ W'.nx → Gc W' cs' (nextStep N kinds out x) lo → W'.get rv = some (.vec 1 cs') → (∀ y, y < W1.nx → y ≠ rv → (∀ ys, W1.get y ≠ some (.buf true 1 ys)) → W'.get y = W1.get y) → (∀ y, y < lo → y ≠ rv → W'.get y = W1.get y) → Q .normal A' W') : awp E c_next_B1 Q A W1 := by
 have hf := lowB_lt hx1
 have ht := lowB_lt hx2
 have hN := hG.nl
 have hns := nowGS_S 1 (intsV N)
 have hcl := hcs.len
 have hfc : lowB N x.fr < cs.length := by omega
 have hfo : lowB N x.fr < out.length := by omega
 have hnow := hcs.now _ hfc hfo
 have hat : cs[lowB N x.fr]? = some cs[lowB N x.fr] := gEg _
 have hgd : out.getD (lowB N x.fr) [] = out[lowB N x.fr] := by rw [List.getD_eq_getElem?_getD, gEg hfo]; rfl
 have hos := nowGS_S 1 (i64s out[lowB N x.fr])
 have holf := hol _ (gmm hfo)
 simp (maxSteps:=9^9) (disch:=omega) only [BZ, ↓reduceIte, nE, BM, BD, c_next_B1, a2, a6, g2, g6, hG.hg, hG.now.frz]
 refine pc (bs16_c hP _ hns hNs (by omega) x.fr) ?_
 simp (maxSteps:=9^9) (disch:=omega) only [BZ, ↓reduceIte, nE, BM, BD, a2, a6, g2, g6, hG.hg, hG.now.frz]
 refine pc (bs16_c hP _ hns hNs (by omega) x.to) ?_
 simp (maxSteps:=9^9) (disch:=omega) only [BZ, ↓reduceIte, nE, BM, BD, a3, a6, g3, g6, hkv.frz]
 refine pc (has8_c hP _ hkv hkl x.kd) ?_
 cases hk : kinds.any fun k => decide (x.kd = k) with
 | false =>
  have hst : nextStep N kinds out x = out := by simp [nextStep, hk]
  rw [hst] at hQ
  simp (maxSteps:=9^9) (disch:=omega) only [BS, ↓reduceIte]
  repeat (rw [guard_if]; simp (maxSteps:=9^9) (disch:=omega) only [BS, BC, cond_if, ↓reduceIte, nE, BM])
  exact hQ _ _ cs hC (lr _) hcs hrv (fun _ _ _ _ => rfl) (fun _ _ _ => rfl)
 | true =>
  simp (maxSteps:=9^9) (disch:=omega) only [BS, ↓reduceIte]
  repeat (rw [guard_if]; simp (maxSteps:=9^9) (disch:=omega) only [BS, BC, ↓reduceIte, nE, BM, a5, g5, ix1 hf, ldv hrv hat, hnow.frz])
  refine pc (hasI_c hP _ hos holf _) ?_
  cases hi : out[lowB N x.fr].any fun t => decide ((lowB N x.to : Int) = t) with
  | true =>
   have hst : nextStep N kinds out x = out := by simp only [nextStep, hk, hgd, hi]; simp
   rw [hst] at hQ
   simp (maxSteps:=9^9) (disch:=omega) only [BS]
   repeat (rw [guard_if]; simp (maxSteps:=9^9) (disch:=omega) only [BS, BC, cond_if, ↓reduceIte, nE, BD])
   exact hQ _ _ cs hC (lr _) hcs hrv (fun _ _ _ _ => rfl) (fun _ _ _ => rfl)
  | false =>
   have hst : nextStep N kinds out x = out.set (lowB N x.fr) (out[lowB N x.fr] ++ [(lowB N x.to : Int)]) := by simp only [nextStep, hk, hgd, hi]; simp
   rw [hst] at hQ
   simp (maxSteps:=9^9) (disch:=omega) only [BS]
   repeat (rw [guard_if]; simp (maxSteps:=9^9) (disch:=omega) only [BS, BC, cond_if, ↓reduceIte, nE, BM, BD, a5, g5, ix1 hf, ldv hrv hat, bsI])
   have hnr : ∀ r, (r = W1.nx ∨ cs[lowB N x.fr] = .buf true r 1 (i64s out[lowB N x.fr]).length) → b5 ≠ r ∧ rv ≠ r ∧ b2 ≠ r := by
    have l2 : b2 < W1.nx := Classical.byContradiction fun hn => by rw [hC b2 (by omega)] at g2; cases g2
    intro r hr
    rcases hr with rfl | hr
    ·omega
    ·rcases hnow with ⟨e1, _⟩ | ⟨r', c1, c2, c3, c4, c5⟩
     ·rw [hr] at e1; cases e1
     ·rw [hr] at c3; cases c3
      refine ⟨?_, ?_, ?_⟩ <;> rintro rfl
      ·rw [g5] at c5; cases c5
      ·rw [hrv] at c5; cases c5
      ·rw [g2] at c5; cases c5
   have hap : ∀ (r : Nat) (W' : AW), nowG W' (.buf true r 1 ((i64s out[lowB N x.fr]).length + 1)) (i64s out[lowB N x.fr] ++ [.int .i64 (lowB N x.to)]) 1 lo → Cl W' → W1.nx ≤ W'.nx → (r = W1.nx ∨ cs[lowB N x.fr] = .buf true r 1 (i64s out[lowB N x.fr]).length) → (∀ y, y < W1.nx → y ≠ r → W'.get y = W1.get y) → ∀ A', Q .normal A' (W'.put rv (.vec 1 (cs.set (lowB N x.fr) (.buf true r 1 ((i64s out[lowB N x.fr]).length + 1))))) := by
    intro r W' gN gC gn hr gg A'
    obtain ⟨n5, nv, _⟩ := hnr r hr
    have hrv' : W'.get rv = some (.vec 1 cs) := by rw [gg rv lrv nv]; exact hrv
    have hg1 := hcs.app (f := lowB N x.fr) (r := r) (x := (lowB N x.to : Int)) hfc hfo gN gn hr gg
    refine hQ A' _ _ (gC.put (by omega)) (by rw [put_nx]; exact gn) (hg1.to (by rw [put_nx]; exact lr _) fun y _ _ ⟨ys, hy⟩ => put_ne (by rintro rfl; rw [hrv'] at hy; cases hy)) put_at (fun y hy hyr hyb => ?_) (fun y hy hyr => ?_)
    ·rw [put_ne hyr, gg y hy]
     rintro rfl
     rcases hr with e | hr
     ·omega
     ·rcases hnow with ⟨e1, _⟩ | ⟨r', c1, c2, c3, c4, c5⟩
      ·rw [hr] at e1; cases e1
      ·rw [hr] at c3; cases c3; exact hyb _ c5
    ·rw [put_ne hyr, gg y (by omega)]
     rintro rfl
     rcases hr with e | hr
     ·omega
     ·rcases hnow with ⟨e1, _⟩ | ⟨r', c1, c2, c3, c4, c5⟩
      ·rw [hr] at e1; cases e1
      ·rw [hr] at c3; cases c3; omega
   have hbl : ((i64s out[lowB N x.fr]).length + 1) * 8 ≤ 2 ^ 46 := by rw [i64s_len]; omega
   constructor
   ·refine app_now2 (lo := lo) hnow hC hlo (by decide) rfl hbl ?_
    intro r W' gN gC gn hr gg
    obtain ⟨n5, nv, _⟩ := hnr r hr
    have hrv' : W'.get rv = some (.vec 1 cs) := by rw [gg rv lrv nv]; exact hrv
    simp (maxSteps:=9^9) (disch:=omega) only [BS, ↓reduceIte, nE, BM, ix1 hf, stv hrv' hfc (c := .buf true r 1 ((i64s out[lowB N x.fr]).length + 1)) rfl rfl]
    exact hap r W' gN gC gn hr gg _
   ·refine app_now2 (lo := lo) hnow hC hlo (by decide) rfl hbl ?_
    intro r W' gN gC gn hr gg
    obtain ⟨n5, nv, _⟩ := hnr r hr
    have hrv' : W'.get rv = some (.vec 1 cs) := by rw [gg rv lrv nv]; exact hrv
    have g5' : W'.get b5 = some (.row [.slr rv 0 N.length 1]) := by rw [gg b5 l5 n5]; exact g5
    simp (maxSteps:=9^9) (disch:=omega) only [BS, BC, ↓reduceIte, nE, BM, a5, g5', ix1 hf, stv hrv' hfc (c := .buf true r 1 ((i64s out[lowB N x.fr]).length + 1)) rfl rfl]
    exact hap r W' gN gC gn hr gg _
def c_obeg_0 : AC := (.seq (.r [.m 11 5,.m 12 0,.u 13 (.len 1 0) 12,.b 14 (.bin .lss) 11 13] (.w 14 0)) (.seq (.block 1 (.seq (.par (.step 0 (.m 17 0) (.step 1 (.m 18 5) (.step 4 (.m 21 1) (.step 5 (.m 22 5) (.step 2 (.b 19 (.idxp 1) 17 18) (.step 3 (.u 20 (.load false 1) 19) (.step 6 (.b 23 (.idxp 1) 21 22) (.step 7 (.u 24 (.load false 1) 23) (.step 8 (.b 25 (.bin .neq) 20 24) .done)))))))))) (.cond (.t 25) (.r [.v 4 (.bool false)] .ret) .skip))) (.reg [.m 15 5,.a 16 (.bin .add) 15 1,.m 5 16])))
def c_obeg : AC := (.r [.v 4 (.bool false)] (.seq (.r [.m 6 0,.u 7 (.len 1 0) 6,.m 8 1,.u 9 (.len 1 0) 8,.b 10 (.bin .gtr) 7 9] (.cond (.t 10) (.r [.v 4 (.bool false)] .ret) .skip)) (.seq (.r [.v 5 (.int .i64 0)] (.block 0 (.loop c_obeg_0))) (.r [.v 4 (.bool true)] .ret))))
theorem ok_obege : compF Tryz.prog Tryz.f61 ⟨false, false, []⟩ = some (c_obeg, [.tmp 4], 26) := by kernel_rfl
def c_oTwice_1 : AC := (.seq (.r [.m 13 4,.m 14 0,.u 15 (.len 1 0) 14,.b 16 (.bin .lss) 13 15] (.w 16 2)) (.seq (.block 3 (.seq (.par (.step 0 (.m 19 0) (.step 1 (.m 20 3) (.step 4 (.m 23 0) (.step 5 (.m 24 4) (.step 2 (.b 21 (.idxp 1) 19 20) (.step 3 (.u 22 (.load false 1) 21) (.step 6 (.b 25 (.idxp 1) 23 24) (.step 7 (.u 26 (.load false 1) 25) (.step 8 (.b 27 (.bin .eql) 22 26) .done)))))))))) (.cond (.t 27) (.r [.v 2 (.bool true)] .ret) .skip))) (.reg [.m 17 4,.a 18 (.bin .add) 17 1,.m 4 18])))
def c_oTwice_0 : AC := (.seq (.r [.m 5 3,.m 6 0,.u 7 (.len 1 0) 6,.b 8 (.bin .lss) 5 7] (.w 8 0)) (.seq (.block 1 (.r [.m 11 3,.a 12 (.bin .add) 11 1,.m 4 12] (.block 2 (.loop c_oTwice_1)))) (.reg [.m 9 3,.a 10 (.bin .add) 9 1,.m 3 10])))
def c_oTwice : AC := (.r [.v 2 (.bool false)] (.seq (.r [.v 3 (.int .i64 0)] (.block 0 (.loop c_oTwice_0))) (.r [.v 2 (.bool false)] .ret)))
theorem ok_oTwicee : compF Tryz.prog Tryz.f92 ⟨false, false, []⟩ = some (c_oTwice, [.tmp 2], 28) := by kernel_rfl
def c_oOf_0 : AC := (.seq (.r [.m 7 1,.p 8 (.bin .leq) [.t 7,.c (.int .u8 7)],.m 9 8,.M 10 6 9 true,.M 11 0 9 true,.M 12 1 9 true,.U 13 .nilck 11 9 true,.U 14 (.fld 0) 13 9 true,.B 15 (.idxa 8 1) 14 12 9 true,.U 16 (.load false 1) 15 9 true,.U 17 (.len 1 0) 16 9 true,.B 18 (.bin .lss) 10 17 9 true,.p 19 .pick [.t 9,.t 18,.F]] (.w 19 0)) (.seq (.block 1 (.r [.m 22 0,.m 23 1,.u 24 .nilck 22,.u 25 (.fld 0) 24,.b 26 (.idxa 8 1) 25 23,.u 27 (.load false 1) 26,.m 28 6,.b 29 (.idxp 1) 27 28,.u 30 (.load false 1) 29,.u 31 (.len 1 0) 30,.m 32 5,.u 33 (.len 1 0) 32,.b 34 (.bin .gtr) 31 33] (.cond (.t 34) (.reg [.m 35 0,.m 36 1,.u 37 .nilck 35,.u 38 (.fld 0) 37,.b 39 (.idxa 8 1) 38 36,.u 40 (.load false 1) 39,.m 41 6,.b 42 (.idxp 1) 40 41,.u 43 (.load false 1) 42,.m 5 43]) .skip))) (.reg [.m 20 6,.a 21 (.bin .add) 20 1,.m 6 21])))
def c_oOf : AC := (.r [.v 4 (.nilsl)] (.r [.v 5 (.nilsl)] (.seq (.r [.v 6 (.int .i64 0)] (.block 0 (.loop c_oOf_0))) (.r [.m 44 5,.m 4 44] .ret))))
theorem ok_oOfe : compF Tryz.prog Tryz.f62 ⟨false, false, []⟩ = some (c_oOf, [.tmp 4], 45) := by kernel_rfl
theorem obeg_c (hP : PE E) (W : AW) {v v' : V} {l l' : List Int} (h : isS 1 v (intsV l)) (h' : isS 1 v' (intsV l')) (hl : l.length < 2 ^ 40) :
  ACalls E 61 [v, v'] W fun Y W' => Y = .bool (begins l l') ∧ W' = W := by
 refine ACalls.of hP Tryz.func61 ok_obege (by simp) fun _ hok => ?_
 by_cases hc : l.length > l'.length
 ·simp (maxSteps:=9^9) (disch:=omega) only [BX, ↓reduceIte, nE, reduceCtorEq, c_obeg, h.len, h'.len, ints_len, cgt, hc, dT]
  exact ⟨_, rfl, _, _, .weak weak_id, lr _, by rw [begins, show decide (l.length ≤ l'.length) = false from decide_eq_false (by omega)]; rfl, rfl⟩
 ·simp (maxSteps:=9^9) (disch:=omega) only [BX, ↓reduceIte, nE, reduceCtorEq, c_obeg, h.len, h'.len, ints_len, cgt, hc, dF]
  rw [e_loop]
  refine alp (fun (i : Nat) A1 W1 => A1 0 = some v ∧ A1 1 = some v' ∧ A1 5 = some (.int .i64 i) ∧ i ≤ l.length ∧ W1 = W ∧ l.take i = l'.take i) (fun k => l.length - k) 0
   ⟨rfl, rfl, rfl, Nat.zero_le _, rfl, by simp⟩ ?_
  rintro i A1 W1 ⟨g0, g1, g5, gi, rfl, ge⟩ _
  by_cases hi : i < l.length
  ·have hi' : i < l'.length := by omega
   by_cases he : l[i] = l'[i]
   ·simp (maxSteps:=9^9) (disch:=omega) only [BX, ↓reduceIte, nE, reduceCtorEq, BM, c_obeg_0, g0, g1, g5, h.len, ints_len, clt, hi, dT, h.idx (int_at hi), h'.idx (int_at hi'), he, bne_self_eq_false, wadd1]
    exact ⟨i + 1, ⟨tt, tt, tt, hi, tt, take_ext ge hi hi' he⟩, by omega, lr _⟩
   ·have hne : (l[i] != l'[i]) = true := by simpa using he
    simp (maxSteps:=9^9) (disch:=omega) only [BX, ↓reduceIte, nE, reduceCtorEq, BM, c_obeg_0, g0, g1, g5, h.len, ints_len, clt, hi, dT, h.idx (int_at hi), h'.idx (int_at hi'), hne]
    refine ⟨_, rfl, _, _, .weak weak_id, lr _, ?_, rfl⟩
    have : begins l l' = false := by
     rw [← Bool.not_eq_true, begins_iff]
     rintro ⟨t, rfl⟩
     exact he (by rw [List.getElem_append_left hi])
    rw [this]
  ·obtain rfl : i = l.length := by omega
   simp (maxSteps:=9^9) (disch:=omega) only [BX, ↓reduceIte, nE, reduceCtorEq, c_obeg_0, g0, g5, h.len, ints_len, clt, hi, dF]
   refine ⟨_, rfl, _, _, .weak weak_id, lr _, ?_, rfl⟩
   rw [tkl] at ge
   rw [begins_iff.2 (by rw [ge]; exact List.take_prefix _ _)]
theorem twice_at {l : List Int} : twiceB l = true ↔ ∃ i j, ∃ (hi : i < l.length) (hj : j < l.length), i < j ∧ l[i] = l[j] := by
 rw [twiceB, Bool.not_eq_true', decide_eq_false_iff_not, List.Nodup, List.pairwise_iff_getElem]
 constructor
 ·intro h
  refine Classical.byContradiction fun hn => h fun i j hi hj hlt he => hn ⟨i, j, hi, hj, hlt, he⟩
 ·rintro ⟨i, j, hi, hj, hlt, he⟩ h
  exact h i j hi hj hlt he
theorem oTwice_c (hP : PE E) (W : AW) {v : V} {l : List Int} (h : isS 1 v (intsV l)) (hl : l.length < 2 ^ 40) :
  ACalls E 92 [v] W fun Y W' => Y = .bool (twiceB l) ∧ W' = W := by
 refine ACalls.of hP Tryz.func92 ok_oTwicee (by simp) fun _ hok => ?_
 simp (maxSteps:=9^9) (disch:=omega) only [BS, e_seq, c_oTwice]
 rw [e_loop]
 refine alp (fun (i : Nat) A1 W1 => A1 0 = some v ∧ A1 3 = some (.int .i64 i) ∧ i ≤ l.length ∧ W1 = W ∧ ∀ a b (ha : a < l.length) (hb : b < l.length), a < i → a < b → l[a] ≠ l[b]) (fun k => l.length - k) 0
  ⟨rfl, rfl, Nat.zero_le _, rfl, fun a b _ _ h => by omega⟩ ?_
 rintro i A1 W1 ⟨g0, g3, gi, rfl, gn⟩ _
 by_cases hi : i < l.length
 ·simp (maxSteps:=9^9) (disch:=omega) only [BS, e_seq, cond_if, ↓reduceIte, nE, reduceCtorEq, c_oTwice_0, g0, g3, h.len, ints_len, clt, hi, dT, wadd1]
  rw [e_loop]
  refine alp (fun (j : Nat) A2 W2 => A2 0 = some v ∧ A2 3 = some (.int .i64 i) ∧ A2 4 = some (.int .i64 j) ∧ i < j ∧ j ≤ l.length ∧ W2 = W1 ∧ ∀ b (hb : b < l.length), i < b → b < j → l[i] ≠ l[b]) (fun k => l.length - k) (i + 1)
   ⟨tt, tt, rfl, by omega, hi, rfl, fun b _ h1 h2 => by omega⟩ ?_
  rintro j A2 W2 ⟨q0, q3, q4, qj, qj2, rfl, qn⟩ _
  by_cases hj : j < l.length
  ·by_cases he : l[i] = l[j]
   ·simp (maxSteps:=9^9) (disch:=omega) only [BX, ↓reduceIte, nE, reduceCtorEq, BM, c_oTwice_1, q0, q3, q4, h.len, ints_len, clt, hj, dT, h.idx (int_at hi), h.idx (int_at hj), he, cmpeq]
    exact ⟨_, rfl, _, _, .weak weak_id, lr _, by rw [twice_at.2 ⟨i, j, hi, hj, qj, he⟩], rfl⟩
   ·simp (maxSteps:=9^9) (disch:=omega) only [BX, ↓reduceIte, nE, reduceCtorEq, BM, c_oTwice_1, q0, q3, q4, h.len, ints_len, clt, hj, dT, h.idx (int_at hi), h.idx (int_at hj), cmpeq, he, dF, wadd1]
    refine ⟨j + 1, ⟨tt, tt, tt, by omega, hj, tt, fun b hb h1 h2 => ?_⟩, by omega, lr _⟩
    by_cases e : b = j
    ·subst e; exact he
    ·exact qn b hb h1 (by omega)
  ·obtain rfl : j = l.length := by omega
   simp (maxSteps:=9^9) (disch:=omega) only [BX, ↓reduceIte, nE, reduceCtorEq, c_oTwice_1, q0, q3, q4, h.len, ints_len, clt, hj, dF, wadd1]
   refine ⟨i + 1, ⟨tt, tt, hi, tt, fun a b ha hb h1 h2 => ?_⟩, by omega, lr _⟩
   by_cases e : a = i
   ·subst e; exact qn b hb h2 hb
   ·exact gn a b ha hb (by omega) h2
 ·obtain rfl : i = l.length := by omega
  simp (maxSteps:=9^9) (disch:=omega) only [BX, ↓reduceIte, nE, reduceCtorEq, c_oTwice_0, g0, g3, h.len, ints_len, clt, hi, dF]
  refine ⟨_, rfl, _, _, .weak weak_id, lr _, ?_, rfl⟩
  have : twiceB l = false := by
   rw [← Bool.not_eq_true, twice_at]
   rintro ⟨a, b, ha, hb, hlt, he⟩
   exact gn a b ha hb ha hlt he
  rw [this]
structure LsV (W : AW) (c : V) (ll : List (List Int)) (lo : Nat) (es : List V) : Prop where
 now : nowG W c es 1 lo
 len : es.length = ll.length
 el : ∀ j (h : j < es.length) (h' : j < ll.length), nowG W es[j] (intsV ll[j]) 1 lo
theorem nowG.idx' {W : AW} {K : V → AW → Prop} {h : V} {xs : List V} {s lo k : Nat} {kk : IntKind} {x : V} (hn : nowG W h xs s lo) (hx : xs[k]? = some x) : sem E (.idxp s) [h, .int kk (k : Int)] W K = K (.cptr x.cells) W := by
 have hk : k < xs.length := by
  by_cases h : k < xs.length
  ·exact h
  ·rw [List.getElem?_eq_none (by omega)] at hx; cases hx
 rw [gEg hk] at hx
 cases hx
 rcases hn with ⟨_, rfl⟩ | ⟨r, _, _, rfl, _, hg⟩
 ·simp at hk
 ·simp [sem, rsem, hg, hk]
theorem nowG.cellsX {W : AW} {h : V} {xs : List V} {s lo : Nat} (hn : nowG W h xs s lo) : h.cells = [h] ∧ h.one = true := by
 rcases hn with ⟨rfl, _⟩ | ⟨r, _, _, rfl, _⟩ <;> exact ⟨rfl, rfl⟩
theorem LsV.to {W W' : AW} {c : V} {ll : List (List Int)} {lo : Nat} {es : List V} (h : LsV W c ll lo es) (hx : W.nx ≤ W'.nx) (hg : ∀ r, lo ≤ r → r < W.nx → (∃ ys, W.get r = some (.buf true 1 ys)) → W'.get r = W.get r) : LsV W' c ll lo es :=
 ⟨h.now.to hx hg, h.len, fun j a b => (h.el j a b).to hx hg⟩
structure Ro (W : AW) (q : Nat) (L : List (List (List Int))) (lo : Nat) (cs : List V) (es : List (List V)) (N : Nat) : Prop where
 hp : W.get q = some (.row cs)
 lp : q < W.nx
 c8 : cs.length = 8
 l8 : L.length = 8
 e8 : es.length = 8
 ls : ∀ k (h : k < cs.length) (h' : k < L.length) (h'' : k < es.length), LsV W cs[k] L[k] lo es[k]
 rg : ∀ ll ∈ L, ll.length ≤ N ∧ ∀ l ∈ ll, l.length ≤ 32 ∧ ∀ n ∈ l, 0 ≤ n ∧ n < 65536
def ofL (ll : List (List Int)) : List Int := ll.foldl (fun out x => if x.length > out.length then x else out) []
def keyL (L : List (List (List Int))) (k : Int) : List (List Int) := if k ≥ 8 then [] else L.getD k.toNat []
theorem ofL_take {ll : List (List Int)} {k : Nat} (h : k < ll.length) : ofL (ll.take (k + 1)) = if ll[k].length > (ofL (ll.take k)).length then ll[k] else ofL (ll.take k) := by
 unfold ofL
 rw [tao, gEg h, Option.toList_some, List.foldl_append]; rfl
theorem oOf_c (hP : PE E) (W : AW) {q lo : Nat} {L : List (List (List Int))} {cs : List V} {es : List (List V)} {N : Nat} (hO : Ro W q L lo cs es N) (hN : N < 2 ^ 30) (k : Int) (k0 : 0 ≤ k) :
  ACalls E 62 [.ptr q 0, .int .u8 k] W fun Y W' => Y = nowGS 1 (intsV (ofL (keyL L k))) ∧ W' = W := by
 refine ACalls.of hP Tryz.func62 ok_oOfe (by simp) fun _ hok => ?_
 simp (maxSteps:=9^9) (disch:=omega) only [BS, e_seq, c_oOf]
 rw [e_loop]
 by_cases hk : k ≤ 7
 ·have hkn : k.toNat < 8 := by omega
  have hc := hO.c8
  have hl := hO.l8
  have he := hO.e8
  have hls := hO.ls k.toNat (by omega) (by omega) (by omega)
  have hix : ∀ K, sem E (.idxa 8 1) [.ptr q 0, .int .u8 k] W K = K (.ptr q k.toNat) W := fun K => by
   rw [m_idxa, if_pos (by omega), Nat.mul_one, Nat.zero_add]
  have hat : cs[k.toNat]? = some (cs[k.toNat]'(by omega)) := gEg (by omega)
  have hkL : keyL L k = L[k.toNat]'(by omega) := by
   rw [keyL, if_neg (by omega), List.getD_eq_getElem?_getD, gEg (by omega)]; rfl
  have hrg := hO.rg _ (gmm (show k.toNat < L.length by omega))
  rw [hkL]
  generalize cs[k.toNat]'(by omega) = c at hls hat
  generalize L[k.toNat]'(by omega) = ll at hls hrg
  generalize es[k.toNat]'(by omega) = ee at hls
  refine alp (fun (i : Nat) A1 W1 => A1 0 = some (.ptr q 0) ∧ A1 1 = some (.int .u8 k) ∧ A1 6 = some (.int .i64 i) ∧ i ≤ ll.length ∧ W1 = W ∧ ∃ o, A1 5 = some o ∧ nowG W o (intsV (ofL (ll.take i))) 1 lo) (fun i => ll.length - i) 0
   ⟨rfl, rfl, rfl, Nat.zero_le _, rfl, .nilsl, rfl, .inl ⟨rfl, rfl⟩⟩ ?_
  rintro i A1 W1 ⟨g0, g1, g6, gi, rfl, o, g5, go⟩ _
  by_cases hi : i < ll.length
  ·have hie : i < ee.length := by have := hls.len; omega
   have hel := hls.el i hie hi
   have hate : ee[i]? = some ee[i] := gEg hie
   obtain ⟨x1, x2⟩ := hel.cellsX
   have hot := ofL_take hi
   generalize ee[i] = e at hel hate x1 x2
   have hld : ∀ K, sem E (.load false 1) [.cptr e.cells] W1 K = K e W1 := fun K => by rw [x1]; rfl
   by_cases hgt : ll[i].length > (ofL (ll.take i)).length
   ·rw [if_pos hgt] at hot
    simp (maxSteps:=9^9) (disch:=omega) only [BS, e_seq, ↓reduceIte, c_oOf_0, g1, show decide (k ≤ 7) = true from decide_eq_true hk]
    repeat (rw [guard_if]; simp (maxSteps:=9^9) (disch:=omega) only [BS, e_seq, cond_if, ↓reduceIte, nE, reduceCtorEq, BM, BD, g0, g1, g5, g6, hix, hO.hp, hat, hls.now.len, hls.len, clt, hi, dT, hls.now.idx' hate, hld, hel.len, go.len, ints_len, hgt, wadd1])
    exact ⟨i + 1, ⟨tt, tt, tt, hi, tt, e, rfl, by rw [hot]; exact hel⟩, by omega, lr _⟩
   ·rw [if_neg hgt] at hot
    simp (maxSteps:=9^9) (disch:=omega) only [BS, e_seq, ↓reduceIte, c_oOf_0, g1, show decide (k ≤ 7) = true from decide_eq_true hk]
    repeat (rw [guard_if]; simp (maxSteps:=9^9) (disch:=omega) only [BX, ↓reduceIte, nE, reduceCtorEq, BM, BD, g0, g1, g5, g6, hix, hO.hp, hat, hls.now.len, hls.len, clt, hi, dT, hls.now.idx' hate, hld, hel.len, go.len, ints_len, hgt, dF, wadd1])
    exact ⟨i + 1, ⟨tt, tt, tt, hi, tt, o, tt, by rw [hot]; exact go⟩, by omega, lr _⟩
  ·obtain rfl : i = ll.length := by omega
   rw [tkl] at go
   simp (maxSteps:=9^9) (disch:=omega) only [BS, e_seq, ↓reduceIte, c_oOf_0, g1, show decide (k ≤ 7) = true from decide_eq_true hk]
   repeat (rw [guard_if]; simp (maxSteps:=9^9) (disch:=omega) only [BX, ↓reduceIte, nE, reduceCtorEq, BM, BD, g0, g1, g5, g6, hix, hO.hp, hat, hls.now.len, hls.len, clt, hi, dF])
   rw [go.frz]
   exact ⟨_, rfl, _, _, .weak weak_id, lr _, rfl, rfl⟩
 ·refine alp (fun (_ : Unit) A1 W1 => A1 1 = some (.int .u8 k) ∧ A1 5 = some .nilsl ∧ W1 = W) (fun _ => 0) ()
   ⟨rfl, rfl, rfl⟩ ?_
  rintro _ A1 W1 ⟨g1, g5, rfl⟩ _
  simp (maxSteps:=9^9) (disch:=omega) only [BS, e_seq, ↓reduceIte, nT, c_oOf_0, g1, show decide (k ≤ 7) = false from decide_eq_false hk]
  repeat (rw [guard_if]; simp (maxSteps:=9^9) (disch:=omega) only [BX, ↓reduceIte, nE, BM, g5])
  exact ⟨_, rfl, _, _, .weak weak_id, lr _, by rw [keyL, if_pos (by omega)]; rfl, rfl⟩
end Go.AL.S
namespace Go.AL.S
open Go Go.AL Go.Proofs
variable {E : Env}
def appR (l : List Mi) (k : Int) : List Int := (l.filter fun m => !m.read && decide (m.key = k)).map (·.v)
theorem appR_take {l : List Mi} {i : Nat} (h : i < l.length) (k : Int) : appR (l.take (i + 1)) k = appR (l.take i) k ++ (if (!l[i].read && decide (l[i].key = k)) = true then [l[i].v] else []) := by
 unfold appR
 rw [tao, gEg h, Option.toList_some, List.filter_append, mpp, List.filter_cons]
 split <;> simp
theorem appR_len (l : List Mi) (k : Int) : (appR l k).length ≤ l.length := by simp only [appR, lmp]; exact List.length_filter_le _ _
theorem appR_mem {l : List Mi} {k v : Int} (h : v ∈ appR l k) : ∃ m ∈ l, m.v = v ∧ m.read = false ∧ m.key = k := by
 obtain ⟨m, hm, rfl⟩ := List.mem_map.1 h
 obtain ⟨h1, h2⟩ := List.mem_filter.1 hm
 simp only [Bool.and_eq_true, Bool.not_eq_true', decide_eq_true_eq] at h2
 exact ⟨m, h1, rfl, h2.1, h2.2⟩
theorem bsU {W : AW} {K : V → AW → Prop} {a : Int} : sem E (.bslice 1 1 (.int .u16 0) [0]) [.int .u16 a] W K = K (.sl 1 true [.int .u16 a]) W := by
 simp [sem, rsem, tsem, fillE, V.cells]
theorem ints_bel (l : List Int) (n : Nat) : (nowGS 1 (intsV l)).bel n = true := by
 unfold nowGS
 split
 ·rfl
 ·exact belL_ints _ _
def c_rAt_0 : AC := (.seq (.r [.m 6 5,.m 7 0,.u 8 .nilck 7,.u 9 (.fld 0) 8,.u 10 (.load false 1) 9,.u 11 (.len 1 0) 10,.b 12 (.bin .lss) 6 11] (.w 12 0)) (.seq (.block 1 (.r [.m 15 0,.u 16 .nilck 15,.u 17 (.fld 0) 16,.u 18 (.load false 1) 17,.m 19 5,.b 20 (.idxp 5) 18 19,.u 21 (.fld 0) 20,.u 22 (.load false 1) 21,.m 23 1,.b 24 (.bin .eql) 22 23] (.cond (.t 24) (.r [.m 25 5,.m 4 25] .ret) .skip))) (.reg [.m 13 5,.a 14 (.bin .add) 13 1,.m 5 14])))
def c_rAt : AC := (.r [.v 4 (.int .i64 0)] (.seq (.r [.v 5 (.int .i64 0)] (.block 0 (.loop c_rAt_0))) (.r [.v 4 (.int .i64 (-1))] .ret)))
theorem ok_rAte : compF Tryz.prog Tryz.f53 ⟨false, false, []⟩ = some (c_rAt, [.tmp 4], 26) := by kernel_rfl
def c_rApp_0 : AC := (.seq (.r [.m 7 6,.u 8 (.fld 2) 2,.u 9 (.load false 1) 8,.u 10 (.len 1 0) 9,.b 11 (.bin .lss) 7 10] (.w 11 0)) (.seq (.block 1 (.r [.u 14 (.fld 2) 2,.u 15 (.load false 1) 14,.m 16 6,.b 17 (.idxp 3) 15 16,.u 18 (.fld 0) 17,.u 19 (.load false 1) 18,.u 20 (.un .not) 19,.m 21 20,.U 22 (.fld 2) 2 21 true,.U 23 (.load false 1) 22 21 true,.M 24 6 21 true,.B 25 (.idxp 3) 23 24 21 true,.U 26 (.fld 1) 25 21 true,.U 27 (.load false 1) 26 21 true,.M 28 1 21 true,.B 29 (.bin .eql) 27 28 21 true,.p 30 .pick [.t 21,.t 29,.F]] (.cond (.t 30) (.reg [.m 31 5,.u 32 (.fld 2) 2,.u 33 (.load false 1) 32,.m 34 6,.b 35 (.idxp 3) 33 34,.u 36 (.fld 2) 35,.u 37 (.load false 1) 36,.u 38 (.bslice 1 1 (.int .u16 0) [0]) 37,.b 39 (.append 1 2) 31 38,.m 5 39]) .skip))) (.reg [.m 12 6,.a 13 (.bin .add) 12 1,.m 6 13])))
def c_rApp : AC := (.r [.u 2 .box 0,.v 4 (.nilsl)] (.r [.v 5 (.nilsl)] (.seq (.r [.v 6 (.int .i64 0)] (.block 0 (.loop c_rApp_0))) (.r [.m 40 5,.m 4 40] .ret))))
theorem ok_rAppe : compF Tryz.prog Tryz.f95 ⟨false, false, []⟩ = some (c_rApp, [.tmp 4], 41) := by kernel_rfl
def c_rWho_1 : AC := (.seq (.r [.m 28 9,.m 29 8,.u 30 (.len 1 0) 29,.b 31 (.bin .lss) 28 30] (.w 31 2)) (.seq (.block 3 (.r [.m 34 8,.m 35 9,.b 36 (.idxp 1) 34 35,.u 37 (.load false 1) 36,.m 38 2,.b 39 (.bin .eql) 37 38] (.cond (.t 39) (.r [.m 40 7,.m 6 40] .ret) .skip))) (.reg [.m 32 9,.a 33 (.bin .add) 32 1,.m 9 33])))
def c_rWho_0 : AC := (.seq (.r [.m 10 7,.m 11 0,.u 12 .nilck 11,.u 13 (.fld 0) 12,.u 14 (.load false 1) 13,.u 15 (.len 1 0) 14,.b 16 (.bin .lss) 10 15] (.w 16 0)) (.seq (.block 1 (.r [.m 19 0,.u 20 .nilck 19,.u 21 (.fld 0) 20,.u 22 (.load false 1) 21,.m 23 7,.b 24 (.idxp 5) 22 23,.u 25 (.load true 5) 24,.m 26 1,.b 27 (.call 95) 25 26,.m 8 27] (.r [.v 9 (.int .i64 0)] (.block 2 (.loop c_rWho_1))))) (.reg [.m 17 7,.a 18 (.bin .add) 17 1,.m 7 18])))
def c_rWho : AC := (.r [.v 6 (.int .i64 0)] (.seq (.r [.v 7 (.int .i64 0)] (.block 0 (.loop c_rWho_0))) (.r [.v 6 (.int .i64 (-1))] .ret)))
theorem ok_rWhoe : compF Tryz.prog Tryz.f63 ⟨false, false, []⟩ = some (c_rWho, [.tmp 6], 41) := by kernel_rfl
structure Rt where
 tx : Tx
 mv : V
 lv : V
def Rt.cs (t : Rt) : List V := [.int .u16 t.tx.id, .int .u8 t.tx.client, t.mv, t.lv, .int .u8 t.tx.st]
def Rt.V (t : Rt) : V := .agg t.cs
structure Rt.ok (t : Rt) : Prop where
 tx : t.tx.ok
 ms : isMs t.mv t.tx.ms
 ls : isLs t.lv t.tx.ls
 bel : t.lv.bel 0 = true
def cellsT (l : List Rt) : List V := l.flatMap Rt.cs
def txs (l : List Rt) : Str := l.map (·.tx)
theorem cellsT_len (l : List Rt) : (cellsT l).length = l.length * 5 := by
 induction l with
 | nil => rfl
 | cons t l ih => rw [cellsT, List.flatMap_cons, lap, ← cellsT, ih, lcs, Nat.succ_mul]; simp [Rt.cs]; omega
theorem cellsT_drop : ∀ (l : List Rt) {k : Nat} (hk : k < l.length), (cellsT l).drop (k * 5) = l[k].cs ++ cellsT (l.drop (k + 1))
 | t :: l, 0, _ => by simp [cellsT]
 | t :: l, k + 1, h => by
  have h5 : t.cs.length = 5 := rfl
  have : (cellsT (t :: l)).drop ((k + 1) * 5) = (cellsT l).drop (k * 5) := by
   rw [cellsT, List.flatMap_cons, ← cellsT, List.drop_append, List.drop_eq_nil_of_le (by omega), List.nil_append]; congr 1; omega
  rw [this, cellsT_drop l (by simpa using h)]
  rfl
theorem cellsT_at {l : List Rt} {k j : Nat} (hk : k < l.length) (hj : j < 5) : (cellsT l)[k * 5 + j]? = (l[k].cs)[j]? := by
 rw [← List.getElem?_drop, cellsT_drop l hk, List.getElem?_append_left (by show j < 5; exact hj)]
structure Rs (W : AW) (sp : Nat) (h : V) (l : List Rt) (lo : Nat) : Prop where
 hp : W.get sp = some (.row [h])
 lp : sp < W.nx
 el : (h = .nilsl ∧ l = []) ∨ ∃ r, lo ≤ r ∧ r < W.nx ∧ h = .slr r 0 l.length 5 ∧ l ≠ [] ∧ W.get r = some (.vec 5 (cellsT l))
 ok : ∀ t ∈ l, t.ok
 so : SOk (txs l)
section
variable {W : AW} {K : V → AW → Prop} {sp lo : Nat} {h : V} {l : List Rt}
theorem Rs.len (hR : Rs W sp h l lo) {W1 : AW} {n : Nat} : sem E (.len 1 n) [h] W1 K = K (.int .i64 l.length) W1 := by
 rcases hR.el with ⟨rfl, rfl⟩ | ⟨r, _, _, rfl, _⟩ <;> rfl
theorem Rs.small (hR : Rs W sp h l lo) : l.length ≤ 65536 := by
 have := st_len hR.so
 simpa [txs] using this
theorem Rs.at (hR : Rs W sp h l lo) {k : Nat} (hk : k < l.length) : ∃ r, lo ≤ r ∧ r < W.nx ∧ h = .slr r 0 l.length 5 ∧ W.get r = some (.vec 5 (cellsT l)) := by
 rcases hR.el with ⟨_, rfl⟩ | ⟨r, h1, h2, h3, _, h5⟩
 ·simp at hk
 ·exact ⟨r, h1, h2, h3, h5⟩
theorem ix5 {r n k : Nat} {kk : IntKind} (h : k < n) : sem E (.idxp 5) [.slr r 0 n 5, .int kk (k : Int)] W K = K (.vptr r (k * 5)) W := by
 simp [sem, rsem, tsem, h]
theorem ld5 {r k : Nat} (hg : W.get r = some (.vec 5 (cellsT l))) (hk : k < l.length) : sem E (.load true 5) [.vptr r (k * 5)] W K = K l[k].V W := by
 have h1 : k * 5 + 5 ≤ (cellsT l).length := by rw [cellsT_len]; omega
 have h2 : ((cellsT l).drop (k * 5)).take 5 = l[k].cs := by rw [cellsT_drop l hk]; rfl
 simp only [sem, rsem, hg, partV, if_true, if_pos h1, h2]
 rfl
theorem ldc {r k j : Nat} {c : V} (hg : W.get r = some (.vec 5 (cellsT l))) (hk : k < l.length) (hj : j < 5) (hc : (l[k].cs)[j]? = some c) : sem E (.load false 1) [.vptr r (k * 5 + j)] W K = K c W := by
 have := cellsT_at hk hj
 rw [hc] at this
 simp [sem, rsem, hg, partV, this]
theorem ldc0 {r k : Nat} (hg : W.get r = some (.vec 5 (cellsT l))) (hk : k < l.length) : sem E (.load false 1) [.vptr r (k * 5)] W K = K (.int .u16 l[k].tx.id) W := ldc (j := 0) hg hk (by decide) rfl
end
def atR (s : Str) (i : Int) : Int := idxV (fun t => decide (t.id = i)) s
theorem rAt_c (hP : PE E) (W : AW) {sp lo : Nat} {h : V} {l : List Rt} (hR : Rs W sp h l lo) (i : Int) : ACalls E 53 [.ptr sp 0, .int .u16 i] W fun Y W' => Y = .int .i64 (atR (txs l) i) ∧ W' = W := by
 refine ACalls.of hP Tryz.func53 ok_rAte (by simp) fun _ hok => ?_
 have hs := hR.small
 simp (maxSteps:=9^9) (disch:=omega) only [BS, e_seq, c_rAt]
 rw [e_loop]
 refine alp (fun (k : Nat) A1 W1 => A1 0 = some (.ptr sp 0) ∧ A1 1 = some (.int .u16 i) ∧ A1 5 = some (.int .i64 k) ∧ k ≤ l.length ∧ W1 = W ∧ ∀ j (hj : j < (txs l).length), j < k → decide ((txs l)[j].id = i) = false) (fun k => l.length - k) 0
  ⟨rfl, rfl, rfl, Nat.zero_le _, rfl, fun j _ hj => by omega⟩ ?_
 rintro k A1 W1 ⟨g0, g1, g5, gk, rfl, gj⟩ _
 have htl : (txs l).length = l.length := by simp [txs]
 by_cases hk : k < l.length
 ·obtain ⟨r, r1, r2, rfl, r4⟩ := hR.at hk
  have hti : (txs l)[k].id = l[k].tx.id := by simp [txs]
  by_cases he : l[k].tx.id = i
  ·simp (maxSteps:=9^9) (disch:=omega) only [BX, ↓reduceIte, nE, reduceCtorEq, BM, BD, c_rAt_0, g0, g1, g5, hR.hp, hR.len, clt, hk, dT, ix5 hk, ldc0 r4 hk, cmpeq, he]
   exact ⟨_, rfl, _, _, .weak weak_id, lr _, by rw [atR, idxV_hit (by omega) (by rw [hti]; exact decide_eq_true he) gj], rfl⟩
  ·simp (maxSteps:=9^9) (disch:=omega) only [BX, ↓reduceIte, nE, reduceCtorEq, BM, BD, c_rAt_0, g0, g1, g5, hR.hp, hR.len, clt, hk, dT, dF, ix5 hk, ldc0 r4 hk, cmpeq, he, wadd1]
   refine ⟨k + 1, ⟨tt, tt, tt, hk, tt, fun j hj hjk => ?_⟩, by omega, lr _⟩
   by_cases e1 : j = k
   ·subst e1; rw [hti]; exact decide_eq_false he
   ·exact gj j hj (by omega)
 ·obtain rfl : k = l.length := by omega
  simp (maxSteps:=9^9) (disch:=omega) only [BX, ↓reduceIte, nE, reduceCtorEq, BM, BD, c_rAt_0, g0, g5, hR.hp, hR.len, clt, hk, dF]
  exact ⟨_, rfl, _, _, .weak weak_id, lr _, by rw [atR, idxV_none fun j hj => gj j hj (by omega)], rfl⟩
theorem rApp_c (hP : PE E) (W : AW) {t : Rt} (ht : t.ok) (k : Int) : ACalls E 95 [t.V, .int .u8 k] W fun Y W' => Y = nowGS 1 (intsV (appR t.tx.ms k)) ∧ W' = W := by
 refine ACalls.of hP Tryz.func95 ok_rAppe (by simp) fun _ hok => ?_
 refine awp_start hok ?_
 have hms : isS 3 t.mv (t.tx.ms.map Mi.V) := ht.ms
 obtain ⟨xs, hls, _⟩ := ht.ls
 have hml := ht.tx.msl
 simp (maxSteps:=9^9) (disch:=omega) only [BZ, BM, BD, c_rApp, Rt.V, Rt.cs]
 rw [e_loop]
 refine alp (fun (i : Nat) A1 W1 => A1 1 = some (.int .u8 k) ∧ A1 2 = some (.ptr (rf W.nx 0) 0) ∧ A1 6 = some (.int .i64 i) ∧ i ≤ t.tx.ms.length ∧ Cl W1 ∧ W.nx < W1.nx ∧ (∀ x, x < W.nx → W1.get x = W.get x) ∧ W1.get (rf W.nx 0) = some (.row [.int .u16 t.tx.id, .int .u8 t.tx.client, t.mv, t.lv, .int .u8 t.tx.st]) ∧
  ∃ h, A1 5 = some h ∧ nowG W1 h (intsV (appR (t.tx.ms.take i) k)) 1 (W.nx + 1)) (fun i => t.tx.ms.length - i) 0
  ⟨rfl, rfl, rfl, Nat.zero_le _, Cl.X, by simp [X], fun x hx => X_old hx, by rw [X_get]; rfl, .nilsl, rfl, .inl ⟨rfl, rfl⟩⟩ ?_
 rintro i A1 W1 ⟨g1, g2, g6, gk, gC, gn, gW, gr, h, g5, gh⟩ _
 have r0 : rf W.nx 0 = W.nx + 0 := rfl
 by_cases hk1 : i < t.tx.ms.length
 ·have hrt := appR_take hk1 k
  have hrl := appR_len (t.tx.ms.take i) k
  have hrl' : (t.tx.ms.take i).length ≤ i := by simp; omega
  have hmi : ∀ K, sem E (.idxp 3) [t.mv, .int .i64 (i : Int)] W1 K = K (.cptr [.bool (t.tx.ms[i]).read, .int .u8 (t.tx.ms[i]).key, .int .u16 (t.tx.ms[i]).v]) W1 := fun K => hms.idx (mi_at hk1)
  generalize t.tx.ms[i] = m at hrt hmi
  cases hm : m.read with
  | true =>
   rw [hm] at hmi
   rw [hm, if_neg (by simp), apn] at hrt
   simp (maxSteps:=9^9) (disch:=omega) only [BX, ↓reduceIte, nE, BM, BD, nA, nL, c_rApp_0, g2, g6, gr, hms.len, lmp, clt, hk1, dT, hmi]
   repeat (rw [guard_if]; simp (maxSteps:=9^9) (disch:=omega) only [BS, BC, cond_if, ↓reduceIte, nE, BM, g1, g2, g5, g6, wadd1])
   refine ⟨i + 1, ⟨tt, tt, tt, by omega, gC, gn, gW, (by first | exact gr | trivial), h, rfl, ?_⟩, by omega, by simp only [rf]; omega⟩
   rw [hrt]; exact gh
  | false =>
   rw [hm] at hmi
   by_cases hkk : m.key = k
   ·rw [hm, hkk, if_pos (by simp)] at hrt
    rw [hkk] at hmi
    simp (maxSteps:=9^9) (disch:=omega) only [BX, ↓reduceIte, nE, BM, BD, nA, nL, c_rApp_0, g2, g6, gr, hms.len, lmp, clt, hk1, dT, hmi]
    repeat (rw [guard_if]; simp (maxSteps:=9^9) (disch:=omega) only [BS, BC, cond_if, ↓reduceIte, nE, BM, BD, nA, nL, g1, g2, g5, g6, gr, hmi, cmpeq, dT, bsU])
    refine app_now (lo := W.nx + 1) gh gC (by omega) (by omega) rfl (by rw [ints_len]; omega) ?_
    intro h' W' gh' gC' gx gk1 gk2
    simp (maxSteps:=9^9) (disch:=omega) only [BS, ↓reduceIte, nE, g1, g2, g6, wadd1]
    refine ⟨i + 1, ⟨tt, tt, tt, by omega, gC', by omega, fun x hx => (gk2 x (by omega)).trans (gW x hx), (gk2 _ (by omega)).trans gr, h', rfl, ?_⟩, by omega, by simp only [rf]; omega⟩
    rw [hrt, intsV, mpp]
    exact gh'
   ·rw [hm, if_neg (by simp [hkk]), apn] at hrt
    simp (maxSteps:=9^9) (disch:=omega) only [BX, ↓reduceIte, nE, BM, BD, nA, nL, c_rApp_0, g2, g6, gr, hms.len, lmp, clt, hk1, dT, hmi]
    repeat (rw [guard_if]; simp (maxSteps:=9^9) (disch:=omega) only [BS, BC, cond_if, ↓reduceIte, nE, BM, BD, nA, nL, g1, g2, g5, g6, gr, hmi, cmpeq, hkk, dF, wadd1])
    refine ⟨i + 1, ⟨tt, tt, tt, by omega, gC, gn, gW, (by first | exact gr | trivial), h, rfl, ?_⟩, by omega, by simp only [rf]; omega⟩
    rw [hrt]; exact gh
 ·obtain rfl : i = t.tx.ms.length := by omega
  rw [tkl] at gh
  simp (maxSteps:=9^9) (disch:=omega) only [BX, ↓reduceIte, nE, BM, BD, c_rApp_0, g2, g5, g6, gr, hms.len, lmp, clt, hk1, dF]
  rw [gh.frz]
  exact ⟨_, rfl, _, W, .weak (weak_back hok (ints_bel _ _) gW), lr _, rfl, rfl⟩
def c_rReads_0 : AC := (.seq (.r [.m 5 4,.u 6 (.fld 2) 1,.u 7 (.load false 1) 6,.u 8 (.len 1 0) 7,.b 9 (.bin .lss) 5 8,.m 10 9,.U 11 (.fld 4) 1 10 true,.U 12 (.load false 1) 11 10 true,.P 13 (.bin .eql) [.t 12,.c (.int .u8 1)] 10 true,.p 14 .pick [.t 10,.t 13,.F]] (.w 14 0)) (.seq (.block 1 (.r [.u 17 (.fld 2) 1,.u 18 (.load false 1) 17,.m 19 4,.b 20 (.idxp 3) 18 19,.u 21 (.fld 0) 20,.u 22 (.load false 1) 21,.m 23 22,.M 24 3 23 true,.U 25 (.len 1 0) 24 23 true,.U 26 (.fld 3) 1 23 true,.U 27 (.load false 1) 26 23 true,.U 28 (.len 1 0) 27 23 true,.B 29 (.bin .lss) 25 28 23 true,.p 30 .pick [.t 23,.t 29,.F]] (.cond (.t 30) (.par (.step 0 (.m 31 3) (.step 1 (.u 32 (.fld 2) 1) (.step 3 (.m 34 4) (.step 7 (.u 38 (.fld 3) 1) (.step 9 (.m 40 3) (.step 2 (.u 33 (.load false 1) 32) (.step 4 (.b 35 (.idxp 3) 33 34) (.step 5 (.u 36 (.fld 1) 35) (.step 6 (.u 37 (.load false 1) 36) (.step 8 (.u 39 (.load false 1) 38) (.step 10 (.u 41 (.len 1 0) 40) (.step 11 (.b 42 (.idxp 1) 39 41) (.step 12 (.u 43 (.load false 1) 42) (.step 13 (.b 44 (.build [.int .u8 0,.nilsl] [(0, 1), (1, 1)]) 37 43) (.step 14 (.u 45 (.bslice 2 1 (.agg [.int .u8 0,.nilsl]) [0]) 44) (.step 15 (.b 46 (.append 2 32) 31 45) (.step 16 (.m 3 46) .done)))))))))))))))))) .skip))) (.reg [.m 15 4,.a 16 (.bin .add) 15 1,.m 4 16])))
def c_rReads : AC := (.r [.u 1 .box 0,.v 2 (.nilsl)] (.r [.v 3 (.nilsl)] (.seq (.r [.v 4 (.int .i64 0)] (.block 0 (.loop c_rReads_0))) (.r [.m 47 3,.m 2 47] .ret))))
theorem ok_rReadse : compF Tryz.prog Tryz.f54 ⟨false, false, []⟩ = some (c_rReads, [.tmp 2], 48) := by kernel_rfl
theorem appR_has {t : Tx} {k v : Int} : (appR t.ms k).any (fun x => decide (x = v)) = S.has t k v := by
 rw [Bool.eq_iff_iff, aet, S.has, aet]
 constructor
 ·rintro ⟨x, hx, hxv⟩
  obtain ⟨m, hm, rfl, h1, h2⟩ := appR_mem hx
  exact ⟨m, hm, by simpa [h1, h2] using hxv⟩
 ·rintro ⟨m, hm, h⟩
  simp only [Bool.and_eq_true, Bool.not_eq_true', decide_eq_true_eq] at h
  exact ⟨m.v, List.mem_map.2 ⟨m, List.mem_filter.2 ⟨hm, by simp [h.1, h.2.1]⟩, rfl⟩, by simp [h.2.2]⟩
def whoX (s : Str) (k v : Int) : Int := idxV (fun t => S.has t k v) s
theorem rWho_c (hP : PE E) (W : AW) {sp lo : Nat} {h : V} {l : List Rt} (hR : Rs W sp h l lo) (k v : Int) : ACalls E 63 [.ptr sp 0, .int .u8 k, .int .u16 v] W fun Y W' => Y = .int .i64 (whoX (txs l) k v) ∧ W' = W := by
 refine ACalls.of hP Tryz.func63 ok_rWhoe (by simp) fun _ hok => ?_
 have hs := hR.small
 have htl : (txs l).length = l.length := by simp [txs]
 simp (maxSteps:=9^9) (disch:=omega) only [BS, e_seq, c_rWho]
 rw [e_loop]
 refine alp (fun (i : Nat) A1 W1 => A1 0 = some (.ptr sp 0) ∧ A1 1 = some (.int .u8 k) ∧ A1 2 = some (.int .u16 v) ∧ A1 7 = some (.int .i64 i) ∧ i ≤ l.length ∧ W1 = W ∧ ∀ j (hj : j < (txs l).length), j < i → S.has (txs l)[j] k v = false) (fun k => l.length - k) 0
  ⟨rfl, rfl, rfl, rfl, Nat.zero_le _, rfl, fun j _ hj => by omega⟩ ?_
 rintro i A1 W1 ⟨g0, g1, g2, g7, gi, rfl, gj⟩ _
 by_cases hi : i < l.length
 ·obtain ⟨r, r1, r2, rfl, r4⟩ := hR.at hi
  have hti : (txs l)[i] = l[i].tx := by simp [txs]
  have hto := hR.ok l[i] (gmm hi)
  simp (maxSteps:=9^9) (disch:=omega) only [BX, ↓reduceIte, nE, reduceCtorEq, BM, BD, c_rWho_0, g0, g1, g7, hR.hp, hR.len, clt, hi, dT, ix5 hi, ld5 r4 hi]
  refine pc (rApp_c hP _ hto k) ?_
  have hgs := nowGS_S 1 (intsV (appR l[i].tx.ms k))
  have hal := appR_len l[i].tx.ms k
  have hml := hto.tx.msl
  have hhas : S.has (txs l)[i] k v = (appR l[i].tx.ms k).any fun x => decide (x = v) := by rw [hti]; exact appR_has.symm
  simp (maxSteps:=9^9) (disch:=omega) only [BS, e_seq, ↓reduceIte]
  generalize appR l[i].tx.ms k = al at hgs hal hhas
  rw [e_loop]
  refine alp (fun (j : Nat) A2 W2 => A2 0 = some (.ptr sp 0) ∧ A2 1 = some (.int .u8 k) ∧ A2 2 = some (.int .u16 v) ∧ A2 7 = some (.int .i64 i) ∧ A2 8 = some (nowGS 1 (intsV al)) ∧ A2 9 = some (.int .i64 j) ∧ j ≤ al.length ∧ W2 = W1 ∧ ∀ x (hx : x < al.length), x < j → decide (al[x] = v) = false) (fun j => al.length - j) 0
   ⟨tt, tt, tt, tt, tt, rfl, Nat.zero_le _, rfl, fun j _ hj => by omega⟩ ?_
  rintro j A2 W2 ⟨q0, q1, q2, q7, q8, q9, qj, rfl, qx⟩ _
  by_cases hj : j < al.length
  ·by_cases he : al[j] = v
   ·simp (maxSteps:=9^9) (disch:=omega) only [BX, ↓reduceIte, nE, BM, c_rWho_1, q2, q7, q8, q9, hgs.len, ints_len, clt, hj, dT, hgs.idx (int_at hj), cmpeq, he]
    exact ⟨_, rfl, _, _, .weak weak_id, lr _, by rw [whoX, idxV_hit (by omega) (by rw [hhas]; exact List.any_eq_true.2 ⟨_, gmm hj, decide_eq_true he⟩) gj], rfl⟩
   ·simp (maxSteps:=9^9) (disch:=omega) only [BX, ↓reduceIte, nE, reduceCtorEq, BM, c_rWho_1, q0, q1, q2, q7, q8, q9, hgs.len, ints_len, clt, hj, dT, dF, hgs.idx (int_at hj), cmpeq, he, wadd1]
    refine ⟨j + 1, ⟨tt, tt, tt, tt, tt, tt, hj, tt, fun x hx hxj => ?_⟩, by omega, lr _⟩
    by_cases e1 : x = j
    ·subst e1; exact decide_eq_false he
    ·exact qx x hx (by omega)
  ·obtain rfl : j = al.length := by omega
   simp (maxSteps:=9^9) (disch:=omega) only [BX, ↓reduceIte, nE, reduceCtorEq, c_rWho_1, q0, q1, q2, q7, q8, q9, hgs.len, ints_len, clt, hj, dF, wadd1]
   refine ⟨i + 1, ⟨tt, tt, tt, tt, hi, tt, fun x hx hxi => ?_⟩, by omega, lr _⟩
   by_cases e1 : x = i
   ·subst e1
    rw [hhas, List.any_eq_false]
    intro y hy
    obtain ⟨n, hn, rfl⟩ := List.getElem_of_mem hy
    rw [qx n hn hn]; decide
   ·exact gj x hx (by omega)
 ·obtain rfl : i = l.length := by omega
  simp (maxSteps:=9^9) (disch:=omega) only [BX, ↓reduceIte, nE, reduceCtorEq, BM, BD, c_rWho_0, g0, g7, hR.hp, hR.len, clt, hi, dF]
  exact ⟨_, rfl, _, _, .weak weak_id, lr _, by rw [whoX, idxV_none fun j hj => gj j hj (by omega)], rfl⟩
def rdE (r : Int × V) : V := .agg [.int .u8 r.1, r.2]
def slEl : V → List V
 | .sl _ _ xs => xs
 | _ => []
theorem isS.slEl {s : Nat} {v : V} {xs : List V} (h : isS s v xs) : S.slEl v = xs := by
 rcases h with ⟨rfl, rfl⟩ | ⟨rfl, rfl⟩ | ⟨f, rfl⟩ <;> rfl
def rsOf (t : Rt) : List (Int × V) := if t.tx.st = 1 then (rkeys t.tx.ms).zip (slEl t.lv) else []
theorem bsRd {W : AW} {K : V → AW → Prop} {a : Int} {v : V} : sem E (.bslice 2 1 (.agg [.int .u8 0, .nilsl]) [0]) [.agg [.int .u8 a, v]] W K = K (.sl 2 true [rdE (a, v)]) W := by
 simp [sem, rsem, tsem, fillE, V.cells, rdE]
theorem zip_is {l : List Int} {xs : List V} {ls : List (Option (List Int))} (hl : xs.length = ls.length) (h : ∀ k (h : k < xs.length) (h' : k < ls.length), isEl xs[k] ls[k]) : (l.zip xs).length = (l.zip ls).length ∧ ∀ k (h : k < (l.zip xs).length) (h' : k < (l.zip ls).length), (l.zip xs)[k].1 = (l.zip ls)[k].1 ∧ isEl (l.zip xs)[k].2 (l.zip ls)[k].2 := by
 refine ⟨by simp [hl], fun k hk hk' => ?_⟩
 simp only [List.length_zip] at hk hk'
 rw [List.getElem_zip, List.getElem_zip]
 exact ⟨rfl, h k (by omega) (by omega)⟩
theorem isEl.one1 {v : V} {o : Option (List Int)} (h : isEl v o) : v.cells = [v] ∧ v.one = true := ⟨h.isS.cells, h.isS.one⟩
theorem belL_mem {n : Nat} : ∀ {l : List V}, V.belL n l = true → ∀ x ∈ l, x.bel n = true
 | [], _, _, h => by cases h
 | y :: l, h, x, hx => by
  simp only [V.belL, Bool.and_eq_true] at h
  rcases List.mem_cons.1 hx with rfl | hx
  ·exact h.1
  ·exact belL_mem h.2 x hx
theorem belL_all' {n : Nat} : ∀ {l : List V}, (∀ x ∈ l, x.bel n = true) → V.belL n l = true
 | [], _ => rfl
 | y :: l, h => by
  simp only [V.belL, Bool.and_eq_true]
  exact ⟨h y (by simp), belL_all' fun x hx => h x (by simp [hx])⟩
theorem rsOf_ok {t : Rt} (ht : t.ok) : (rsOf t).length = (readsR t.tx).length ∧ (∀ k (h : k < (rsOf t).length) (h' : k < (readsR t.tx).length), (rsOf t)[k].1 = (readsR t.tx)[k].1 ∧ isEl (rsOf t)[k].2 (readsR t.tx)[k].2) := by
 obtain ⟨xs, hls, hxl, hxe⟩ := ht.ls
 have hse := hls.slEl
 by_cases h1 : t.tx.st = 1
 ·have := zip_is (l := rkeys t.tx.ms) hxl hxe
  simp only [rsOf, readsR, h1, ne_eq, not_true, if_false, if_true, hse]
  exact this
 ·simp only [rsOf, readsR, h1, ne_eq, not_false_eq_true, if_true, if_false]
  exact ⟨rfl, fun k h => by simp at h⟩
theorem rReads_c (hP : PE E) (W : AW) {t : Rt} (ht : t.ok) : ACalls E 54 [t.V] W fun Y W' => Y = nowGS 2 ((rsOf t).map rdE) ∧ W' = W := by
 refine ACalls.of hP Tryz.func54 ok_rReadse (by simp) fun _ hok => ?_
 refine awp_start hok ?_
 have hms : isS 3 t.mv (t.tx.ms.map Mi.V) := ht.ms
 obtain ⟨xs, hls, hxl, hxe⟩ := ht.ls
 have hml := ht.tx.msl
 have hll := ht.tx.lsl
 simp (maxSteps:=9^9) (disch:=omega) only [BZ, BM, BD, c_rReads, Rt.V, Rt.cs]
 rw [e_loop]
 refine alp (fun (i : Nat) A1 W1 => A1 1 = some (.ptr (rf W.nx 0) 0) ∧ A1 4 = some (.int .i64 i) ∧ i ≤ t.tx.ms.length ∧ Cl W1 ∧ W.nx < W1.nx ∧ (∀ x, x < W.nx → W1.get x = W.get x) ∧ W1.get (rf W.nx 0) = some (.row [.int .u16 t.tx.id, .int .u8 t.tx.client, t.mv, t.lv, .int .u8 t.tx.st]) ∧ (t.tx.st ≠ 1 → i = 0) ∧
  ∃ h, A1 3 = some h ∧ nowG W1 h (((rkeys (t.tx.ms.take i)).zip xs).map rdE) 2 (W.nx + 1)) (fun i => t.tx.ms.length - i) 0
  ⟨rfl, rfl, Nat.zero_le _, Cl.X, by simp [X], fun x hx => X_old hx, by rw [X_get]; rfl, fun _ => rfl, .nilsl, rfl, .inl ⟨rfl, rfl⟩⟩ ?_
 rintro i A1 W1 ⟨g1, g4, gk, gC, gn, gW, gr, gst, h, g3, gh⟩ _
 have r0 : rf W.nx 0 = W.nx := rfl
 have hse := hls.slEl
 by_cases hk1 : i < t.tx.ms.length
 ·by_cases hst : t.tx.st = 1
  ·have hrt := rkeys_take hk1
   have hrl := rkeys_len (t.tx.ms.take i)
   have hrl' : (t.tx.ms.take i).length ≤ i := by simp; omega
   have hmi : ∀ K, sem E (.idxp 3) [t.mv, .int .i64 (i : Int)] W1 K = K (.cptr [.bool (t.tx.ms[i]).read, .int .u8 (t.tx.ms[i]).key, .int .u16 (t.tx.ms[i]).v]) W1 := fun K => hms.idx (mi_at hk1)
   generalize t.tx.ms[i] = m at hrt hmi
   have hzl : (((rkeys (t.tx.ms.take i)).zip xs).map rdE).length = min (rkeys (t.tx.ms.take i)).length xs.length := by simp
   cases hm : m.read with
   | false =>
    rw [hm] at hmi
    rw [hm, if_neg (by simp), apn] at hrt
    simp (maxSteps:=9^9) (disch:=omega) only [BZ, ↓reduceIte, nE, BM, BD, c_rReads_0, g1, g4, gr, hms.len, lmp, clt, hk1, dT]
    repeat (rw [guard_if]; simp (maxSteps:=9^9) (disch:=omega) only [BX, ↓reduceIte, nE, BM, BD, nA, nL, g1, g3, g4, gr, cmpeq, hst, dT, hmi, wadd1])
    refine ⟨i + 1, ⟨tt, tt, by omega, gC, gn, gW, (by first | exact gr | trivial), (fun h => absurd rfl h), h, rfl, ?_⟩, by omega, by simp only [rf]; omega⟩
    rw [hrt]; exact gh
   | true =>
    rw [hm] at hmi
    rw [hm, if_pos rfl] at hrt
    by_cases hlt : ((rkeys (t.tx.ms.take i)).zip xs).length < xs.length
    ·have hat : xs[((rkeys (t.tx.ms.take i)).zip xs).length]? = some xs[((rkeys (t.tx.ms.take i)).zip xs).length] := gEg hlt
     obtain ⟨o1, o2⟩ := (hxe _ hlt (by omega)).one1
     have hzs := zip_snoc (a := m.key) hlt (by have := hlt; simp only [List.length_zip] at this; omega)
     have hlen : ((rkeys (t.tx.ms.take i)).zip xs).length = (rkeys (t.tx.ms.take i)).length := by have := hlt; simp only [List.length_zip] at this ⊢; omega
     have hoo : xs[((rkeys (t.tx.ms.take i)).zip xs).length] = xs[(rkeys (t.tx.ms.take i)).length]'(by omega) := by congr 1
     rw [← hoo] at hzs
     generalize xs[((rkeys (t.tx.ms.take i)).zip xs).length] = x at hat o1 o2 hzs
     simp (maxSteps:=9^9) (disch:=omega) only [BZ, ↓reduceIte, nE, BM, BD, c_rReads_0, g1, g4, gr, hms.len, lmp, clt, hk1, dT]
     repeat (rw [guard_if]; simp (maxSteps:=9^9) (disch:=omega) only [BX, ↓reduceIte, nE, BM, BD, nA, nL, g1, g3, g4, gr, cmpeq, hst, dT, hmi, gh.len, hls.len, clt, lmp, hlt, hls.idx hat, o1, bsRd])
     refine app_now (lo := W.nx + 1) gh gC (by omega) (by omega) (by show (V.one (.int .u8 m.key) && (V.one x && true)) = true; rw [o2]; rfl) (by rw [lmp, hlen]; omega) ?_
     intro h' W' gh' gC' gx gk1 gk2
     simp (maxSteps:=9^9) (disch:=omega) only [BS, ↓reduceIte, nE, g1, g4, wadd1]
     refine ⟨i + 1, ⟨tt, tt, by omega, gC', by omega, fun x hx => (gk2 x (by omega)).trans (gW x hx), (by rw [hst] at gr; exact (gk2 _ (by omega)).trans gr), (fun h => absurd rfl h), h', rfl, ?_⟩, by omega, by simp only [rf]; omega⟩
     rw [hrt, hzs, mpp]
     exact gh'
    ·simp (maxSteps:=9^9) (disch:=omega) only [BZ, ↓reduceIte, nE, BM, BD, c_rReads_0, g1, g4, gr, hms.len, lmp, clt, hk1, dT]
     repeat (rw [guard_if]; simp (maxSteps:=9^9) (disch:=omega) only [BX, ↓reduceIte, nE, BM, BD, nA, nL, g1, g3, g4, gr, cmpeq, hst, dT, hmi, gh.len, hls.len, clt, lmp, hlt, dF, wadd1])
     have hov : ((rkeys (t.tx.ms.take i)) ++ [m.key]).zip xs = (rkeys (t.tx.ms.take i)).zip xs := zip_over (by simp at hlt; omega)
     refine ⟨i + 1, ⟨tt, tt, by omega, gC, gn, gW, (by first | exact gr | trivial), (fun h => absurd rfl h), h, rfl, ?_⟩, by omega, by simp only [rf]; omega⟩
     rw [hrt, hov]; exact gh
  ·obtain rfl := gst hst
   simp (maxSteps:=9^9) (disch:=omega) only [BZ, ↓reduceIte, nE, BM, BD, c_rReads_0, g1, g4, gr, hms.len, lmp, clt, hk1, dT]
   repeat (rw [guard_if]; simp (maxSteps:=9^9) (disch:=omega) only [BX, ↓reduceIte, nE, BM, BD, g1, g3, gr, cmpeq, hst, dF])
   have hz : ((rkeys (t.tx.ms.take 0)).zip xs).map rdE = [] := rfl
   rw [hz] at gh
   rw [gh.frz]
   exact ⟨_, rfl, _, W, .weak (weak_back hok rfl gW), lr _, by rw [rsOf, if_neg hst]; rfl, rfl⟩
 ·obtain rfl : i = t.tx.ms.length := by omega
  simp (maxSteps:=9^9) (disch:=omega) only [BZ, ↓reduceIte, nE, BM, BD, c_rReads_0, g1, g4, gr, hms.len, lmp, clt, hk1, dF]
  repeat (rw [guard_if]; simp (maxSteps:=9^9) (disch:=omega) only [BX, ↓reduceIte, nE, BM, g3])
  rw [tkl] at gh
  rw [gh.frz]
  have hfin : rsOf t = (rkeys t.tx.ms).zip xs := by
   by_cases hst : t.tx.st = 1
   ·rw [rsOf, if_pos hst, hse]
   ·have := gst hst
    have : t.tx.ms = [] := List.eq_nil_of_length_eq_zero this
    rw [rsOf, if_neg hst, this]; rfl
  refine ⟨_, rfl, _, W, .weak (weak_back hok ?_ gW), lr _, by rw [hfin], rfl⟩
  have hxb : ∀ x ∈ xs, x.bel W.nx = true := by
   have hb := ht.bel
   rcases hls with ⟨_, rfl⟩ | ⟨_, rfl⟩ | ⟨f, e⟩
   ·simp
   ·simp
   ·rw [e] at hb
    exact fun x hx => bel_up (Nat.zero_le _) _ (belL_mem hb x hx)
  unfold nowGS
  split
  ·rfl
  ·refine belL_all' fun y hy => ?_
   obtain ⟨r, hr, rfl⟩ := List.mem_map.1 hy
   have := hxb r.2 (List.of_mem_zip hr).2
   show (V.bel W.nx (.int .u8 r.1) && (V.bel W.nx r.2 && true)) = true
   rw [this]; rfl
open Go Go.AL Go.AL.SE Go.Proofs
def c_gAlive : AC := (.r [.u 1 .box 0,.v 2 (.bool false)] (.r [.u 3 (.fld 4) 1,.u 4 (.load false 1) 3,.p 5 (.bin .neq) [.t 4,.c (.int .u8 2)],.m 2 5] .ret))
theorem ok_gAlivee : compF Tryz.prog Tryz.f59 ⟨false, false, []⟩ = some (c_gAlive, [.tmp 2], 6) := by kernel_rfl
def c_gApp_0 : AC := (.seq (.r [.m 12 8,.m 13 7,.u 14 (.len 1 0) 13,.b 15 (.bin .lss) 12 14] (.w 15 0)) (.seq (.block 1 (.r [.m 18 7,.m 19 8,.b 20 (.idxp 1) 18 19,.u 21 (.load false 1) 20,.m 22 2,.b 23 (.bin .eql) 21 22] (.cond (.t 23) (.r [.v 6 (.bool true)] .ret) .skip))) (.reg [.m 16 8,.a 17 (.bin .add) 16 1,.m 8 17])))
def c_gApp : AC := (.r [.u 3 .box 0,.v 6 (.bool false)] (.r [.u 9 (.load true 5) 3,.m 10 1,.b 11 (.call 95) 9 10,.m 7 11] (.seq (.r [.v 8 (.int .i64 0)] (.block 0 (.loop c_gApp_0))) (.r [.v 6 (.bool false)] .ret))))
theorem ok_gAppe : compF Tryz.prog Tryz.f94 ⟨false, false, []⟩ = some (c_gApp, [.tmp 6], 24) := by kernel_rfl
def c_gCounts_0 : AC := (.seq (.r [.m 16 7,.u 17 (.fld 1) 5,.u 18 (.load false 1) 17,.u 19 (.len 1 0) 18,.b 20 (.bin .lss) 16 19] (.w 20 0)) (.seq (.block 1 (.seq (.par (.step 0 (.m 23 0) (.step 1 (.u 24 (.fld 0) 5) (.step 3 (.u 26 (.fld 1) 5) (.step 5 (.m 28 7) (.step 2 (.u 25 (.load false 1) 24) (.step 4 (.u 27 (.load false 1) 26) (.step 6 (.b 29 (.idxp 1) 27 28) (.step 7 (.u 30 (.load false 1) 29) (.step 8 (.p 31 (.call 63) [.t 23,.t 25,.t 30]) (.step 9 (.a 32 (.bin .lss) 31 0) .done))))))))))) (.cond (.t 32) (.r [.v 6 (.bool false)] .ret) .skip))) (.reg [.m 21 7,.a 22 (.bin .add) 21 1,.m 7 22])))
def c_gCounts : AC := (.r [.u 5 .box 2,.v 6 (.bool false)] (.seq (.seq (.par (.step 0 (.u 8 (.fld 1) 5) (.step 2 (.m 10 1) (.step 3 (.u 11 (.fld 0) 5) (.step 1 (.u 9 (.load false 1) 8) (.step 4 (.u 12 (.load false 1) 11) (.step 5 (.b 13 (.pcall 62) 10 12) (.step 6 (.b 14 (.pcall 61) 9 13) (.step 7 (.u 15 (.un .not) 14) .done))))))))) (.cond (.t 15) (.r [.v 6 (.bool false)] .ret) .skip)) (.seq (.r [.v 7 (.int .i64 0)] (.block 0 (.loop c_gCounts_0))) (.r [.v 6 (.bool true)] .ret))))
theorem ok_gCountse : compF Tryz.prog Tryz.f29 ⟨false, false, []⟩ = some (c_gCounts, [.tmp 6], 33) := by kernel_rfl
theorem gAlive_c (hP : PE E) (W : AW) {t : Rt} (_ : t.ok) : ACalls E 59 [t.V] W fun Y W' => Y = .bool (decide (t.tx.st ≠ 2)) ∧ W' = W := by
 refine ACalls.of hP Tryz.func59 ok_gAlivee (by simp) fun _ hok => ?_
 refine awp_start hok ?_
 simp (maxSteps:=9^9) (disch:=omega) only [BZ, ↓reduceIte, nE, BM, BD, c_gAlive, Rt.V, Rt.cs, cmpne]
 exact ⟨_, rfl, _, W, backX hok rfl, lr _, rfl, rfl⟩
theorem gApp_c (hP : PE E) (W : AW) {t : Rt} (ht : t.ok) (k v : Int) : ACalls E 94 [t.V, .int .u8 k, .int .u16 v] W fun Y W' => Y = .bool (S.has t.tx k v) ∧ W' = W := by
 refine ACalls.of hP Tryz.func94 ok_gAppe (by simp) fun _ hok => ?_
 refine awp_start hok ?_
 have f1 : (t.V).cells = t.cs := rfl
 have hld : ∀ l K, sem E (.load true 5) [.ptr (rf W.nx 0) 0] (X W W.nx (.row t.cs :: l)) K = K t.V (X W W.nx (.row t.cs :: l)) := fun l K => by
  rw [m_load, X_get]; rfl
 simp (maxSteps:=9^9) (disch:=omega) only [BZ, ↓reduceIte, nE, BM, BD, c_gApp, f1, hld]
 refine pc (rApp_c hP _ ht k) ?_
 have hgs := nowGS_S 1 (intsV (appR t.tx.ms k))
 have hal := appR_len t.tx.ms k
 have hml := ht.tx.msl
 have hhas := appR_has (t := t.tx) (k := k) (v := v)
 simp (maxSteps:=9^9) (disch:=omega) only [BS, e_seq, ↓reduceIte]
 generalize appR t.tx.ms k = al at hgs hal hhas
 rw [e_loop]
 refine alp (fun (j : Nat) A2 W2 => A2 2 = some (.int .u16 v) ∧ A2 7 = some (nowGS 1 (intsV al)) ∧ A2 8 = some (.int .i64 j) ∧ j ≤ al.length ∧ Ex W W2 ∧ ∀ x (hx : x < al.length), x < j → decide (al[x] = v) = false) (fun j => al.length - j) 0
  ⟨rfl, rfl, rfl, Nat.zero_le _, .x0, fun j _ hj => by omega⟩ ?_
 rintro j A2 W2 ⟨q2, q7, q8, qj, qE, qx⟩ hnx
 by_cases hj : j < al.length
 ·by_cases he : al[j] = v
  ·simp (maxSteps:=9^9) (disch:=omega) only [BX, ↓reduceIte, nE, BM, BD, c_gApp_0, q2, q7, q8, hgs.len, ints_len, clt, hj, dT, hgs.idx (int_at hj), cmpeq, he]
   exact ⟨_, rfl, _, W, qE.back hok rfl, lr _, by rw [← hhas, List.any_eq_true.2 ⟨_, gmm hj, decide_eq_true he⟩], rfl⟩
  ·simp (maxSteps:=9^9) (disch:=omega) only [BX, ↓reduceIte, nE, BM, BD, c_gApp_0, q2, q7, q8, hgs.len, ints_len, clt, hj, dT, dF, hgs.idx (int_at hj), cmpeq, he, wadd1]
   refine ⟨j + 1, ⟨tt, tt, tt, hj, qE, fun x hx hxj => ?_⟩, by omega, hnx⟩
   by_cases e1 : x = j
   ·subst e1; exact decide_eq_false he
   ·exact qx x hx (by omega)
 ·obtain rfl : j = al.length := by omega
  simp (maxSteps:=9^9) (disch:=omega) only [BX, ↓reduceIte, nE, BM, BD, c_gApp_0, q7, q8, hgs.len, ints_len, clt, hj, dF]
  have : S.has t.tx k v = false := by
   rw [← hhas, List.any_eq_false]
   intro y hy
   obtain ⟨n, hn, rfl⟩ := List.getElem_of_mem hy
   rw [qx n hn hn]; decide
  exact ⟨_, rfl, _, W, qE.back hok rfl, lr _, by rw [this], rfl⟩
theorem whoX_lt {s : Str} {k v : Int} : decide (whoX s k v < 0) = !(who s k v).isSome := by
 unfold whoX idxV who
 cases h : s.findIdx? (fun t => S.has t k v) with
 | none =>
  have := List.findIdx?_eq_none_iff.1 h
  have h2 : s.find? (fun t => S.has t k v) = none := List.find?_eq_none.2 fun t ht => by rw [this t ht]; decide
  rw [h2]; rfl
 | some i =>
  have h2 : (s.find? (fun t => S.has t k v)).isSome = true := by
   rw [List.find?_isSome]
   obtain ⟨hl, hp, _⟩ := List.findIdx?_eq_some_iff_getElem.1 h
   exact ⟨_, gmm hl, hp⟩
  rw [h2]; simp
def cntX (s : Str) (L : List (List (List Int))) (k : Int) (l : List Int) : Bool := begins l (ofL (keyL L k)) && l.all fun v => (who s k v).isSome
theorem gCounts_c (hP : PE E) (W : AW) {sp lo q lo' N : Nat} {h : V} {l : List Rt} (hR : Rs W sp h l lo) {L : List (List (List Int))} {cs : List V} {es : List (List V)} (hO : Ro W q L lo' cs es N) (hN : N < 2 ^ 30) {k : Int} (k0 : 0 ≤ k) {v : V} {o : Option (List Int)} (hv : isEl v o) (hl : (nums o).length < 2 ^ 40) :
  ACalls E 29 [.ptr sp 0, .ptr q 0, .agg [.int .u8 k, v]] W fun Y W' => Y = .bool (cntX (txs l) L k (nums o)) ∧ W' = W := by
 refine ACalls.of hP Tryz.func29 ok_gCountse (by simp) fun _ hok => ?_
 refine awp_start hok ?_
 have hs := hv.isS
 have f1 := hs.cells
 have f2 := hs.one
 have hEx : ∀ l, Ex W (X W W.nx l) := fun l => .x0
 have hRx : ∀ l, Ro (X W W.nx l) q L lo' cs es N := fun l => ⟨((hEx l).get q hO.lp).trans hO.hp, by have := hO.lp; have := (hEx l).nx; omega, hO.c8, hO.l8, hO.e8, fun k a b c => (hO.ls k a b c).to (hEx l).nx (fun r _ h2 _ => (hEx l).get r h2), hO.rg⟩
 have hgs := nowGS_S 1 (intsV (ofL (keyL L k)))
 simp (maxSteps:=9^9) (disch:=omega) only [BZ, ↓reduceIte, nE, BM, BD, c_gCounts]
 refine pcall_go rfl (oOf_c hP _ (hRx _) hN k k0) ?_
 simp (maxSteps:=9^9) (disch:=omega) only [BS, ↓reduceIte, nE]
 refine pcall_go (v := .bool (begins (nums o) (ofL (keyL L k)))) (by rw [mcs, mcs, List.map_nil, hs.frz, hgs.frz]) (obeg_c hP _ hs hgs hl) ?_
 cases hb : begins (nums o) (ofL (keyL L k)) with
 | false =>
  simp (maxSteps:=9^9) (disch:=omega) only [BX, ↓reduceIte, BD]
  exact ⟨_, rfl, _, W, backX hok rfl, lr _, by rw [cntX, hb]; rfl, rfl⟩
 | true =>
  simp (maxSteps:=9^9) (disch:=omega) only [BX, ↓reduceIte, BD]
  obtain ⟨W0, hW0⟩ : ∃ W0, W0 = X W W.nx [.row [.int .u8 k, v]] := ⟨_, rfl⟩
  rw [← hW0]
  have k5 : W0.get (rf W.nx 0) = some (.row [.int .u8 k, v]) := by rw [hW0, X_get]; rfl
  have hE : Ex W W0 := by rw [hW0]; exact .x0
  clear hW0
  have hR0 : Rs W0 sp h l lo := ⟨(hE.get _ hR.lp).trans hR.hp, by have := hR.lp; have := hE.nx; omega, by
   rcases hR.el with h | ⟨r, h1, h2, h3, h4, h5⟩
   ·exact .inl h
   ·exact .inr ⟨r, h1, by have := hE.nx; omega, h3, h4, by rw [hE.get _ h2]; exact h5⟩, hR.ok, hR.so⟩
  rw [e_loop]
  refine alp (fun (j : Nat) A1 W1 => A1 0 = some (.ptr sp 0) ∧ A1 5 = some (.ptr (rf W.nx 0) 0) ∧ A1 7 = some (.int .i64 j) ∧ j ≤ (nums o).length ∧ W1 = W0 ∧ ∀ x (hx : x < (nums o).length), x < j → (who (txs l) k (nums o)[x]).isSome = true) (fun j => (nums o).length - j) 0
   ⟨rfl, rfl, rfl, Nat.zero_le _, rfl, fun j _ hj => by omega⟩ ?_
  rintro j A1 W1 ⟨g0, g5, g7, gj, rfl, gx⟩ _
  by_cases hj : j < (nums o).length
  ·have hat := int_at hj
   simp (maxSteps:=9^9) (disch:=omega) only [BX, ↓reduceIte, nE, reduceCtorEq, BM, BD, c_gCounts_0, g0, g5, g7, k5, hs.len, ints_len, clt, hj, dT, hs.idx hat]
   refine (rWho_c hP _ hR0 k _).mono ?_
   rintro _ _ ⟨rfl, rfl⟩
   cases hw : (who (txs l) k (nums o)[j]).isSome with
   | true =>
    simp (maxSteps:=9^9) (disch:=omega) only [BS, BC, cond_if, ↓reduceIte, nE, reduceCtorEq, BD, g0, g5, g7, whoX_lt, hw, wadd1]
    refine ⟨j + 1, ⟨tt, tt, tt, hj, tt, fun x hx hxj => ?_⟩, by omega, lr _⟩
    by_cases e1 : x = j
    ·subst e1; exact hw
    ·exact gx x hx (by omega)
   | false =>
    simp (maxSteps:=9^9) (disch:=omega) only [BX, ↓reduceIte, BD, whoX_lt, hw]
    refine ⟨_, rfl, _, W, hE.back hok rfl, lr _, ?_, rfl⟩
    have : ((nums o).all fun v => (who (txs l) k v).isSome) = false := by
     rw [List.all_eq_false]; exact ⟨_, gmm hj, by rw [hw]; decide⟩
    rw [cntX, this, Bool.and_false]
  ·obtain rfl : j = (nums o).length := by omega
   simp (maxSteps:=9^9) (disch:=omega) only [BX, ↓reduceIte, nE, BM, BD, c_gCounts_0, g5, g7, k5, hs.len, ints_len, clt, hj, dF]
   refine ⟨_, rfl, _, W, hE.back hok rfl, lr _, ?_, rfl⟩
   have : ((nums o).all fun v => (who (txs l) k v).isSome) = true := by
    rw [List.all_eq_true]
    intro y hy
    obtain ⟨n, hn, rfl⟩ := List.getElem_of_mem hy
    exact gx n hn hn
   rw [cntX, hb, this]; rfl
theorem Ex.alloc {W : AW} {o : AObj} (hC : Cl W) : Ex W (W.alloc o) := ⟨fun x hx => by rw [alloc_nx] at hx; rw [al_gets, if_neg (by omega)]; exact hC x (by omega), by rw [alloc_nx]; omega, fun x hx => alloc_lt hx⟩
def c_oTake_0 : AC := (.seq (.r [.m 18 8,.m 19 0,.m 20 1,.u 21 .nilck 19,.u 22 (.fld 0) 21,.b 23 (.idxa 8 1) 22 20,.u 24 (.load false 1) 23,.u 25 (.len 1 0) 24,.b 26 (.bin .lss) 18 25] (.w 26 0)) (.seq (.block 1 (.r [.m 29 2,.m 30 0,.m 31 1,.u 32 .nilck 30,.u 33 (.fld 0) 32,.b 34 (.idxa 8 1) 33 31,.u 35 (.load false 1) 34,.m 36 8,.b 37 (.idxp 1) 35 36,.u 38 (.load false 1) 37,.b 39 (.call 61) 29 38,.u 40 (.un .not) 39,.m 41 40,.M 42 0 41 true,.M 43 1 41 true,.U 44 .nilck 42 41 true,.U 45 (.fld 0) 44 41 true,.B 46 (.idxa 8 1) 45 43 41 true,.U 47 (.load false 1) 46 41 true,.M 48 8 41 true,.B 49 (.idxp 1) 47 48 41 true,.U 50 (.load false 1) 49 41 true,.M 51 2 41 true,.B 52 (.call 61) 50 51 41 true,.U 53 (.un .not) 52 41 true,.p 54 .pick [.t 41,.t 53,.F]] (.cond (.t 54) (.r [.v 6 (.bool false),.v 7 (.int .i64 0)] .ret) .skip))) (.reg [.m 27 8,.a 28 (.bin .add) 27 1,.m 8 28])))
def c_oTake : AC := (.r [.v 6 (.bool false),.v 7 (.int .i64 0)] (.seq (.r [.m 11 1,.p 12 (.bin .gtr) [.t 11,.c (.int .u8 7)]] (.cond (.t 12) (.r [.v 6 (.bool false),.v 7 (.int .i64 2)] .ret) .skip)) (.seq (.r [.m 13 2,.u 14 (.len 1 0) 13,.a 15 (.bin .gtr) 14 32] (.cond (.t 15) (.r [.v 6 (.bool false),.v 7 (.int .i64 3)] .ret) .skip)) (.seq (.r [.m 16 2,.u 17 (.call 92) 16] (.cond (.t 17) (.r [.v 6 (.bool false),.v 7 (.int .i64 0)] .ret) .skip)) (.seq (.r [.v 8 (.int .i64 0)] (.block 0 (.loop c_oTake_0))) (.r [.v 9 (.nilsl)] (.r [.m 55 9,.m 56 2,.b 57 (.append 1 2) 55 56,.m 9 57] (.r [.v 10 (.nilsl)] (.r [.m 58 10,.m 59 0,.m 60 1,.u 61 .nilck 59,.u 62 (.fld 0) 61,.b 63 (.idxa 8 1) 62 60,.u 64 (.load false 1) 63,.b 65 (.append 1 24) 58 64,.m 10 65] (.seq (.par (.step 0 (.m 66 0) (.step 1 (.m 67 1) (.step 2 (.m 68 10) (.step 3 (.m 69 9) (.step 4 (.u 70 (.bslice 1 1 (.nilsl) [0]) 69) (.step 6 (.u 72 .nilck 66) (.step 7 (.u 73 (.fld 0) 72) (.step 5 (.b 71 (.append 1 24) 68 70) (.step 8 (.b 74 (.idxa 8 1) 73 67) (.step 9 ⟨none,.store 1, [.t 74,.t 71], none⟩ .done))))))))))) (.r [.v 6 (.bool true),.v 7 (.int .i64 0)] .ret)))))))))))
theorem ok_oTakee : compF Tryz.prog Tryz.f55 ⟨false, false, []⟩ = some (c_oTake, [.tmp 6, .tmp 7], 75) := by kernel_rfl
def takO (L : List (List (List Int))) (k : Int) (l : List Int) : List (List (List Int)) :=
 if k ≥ 8 then L else if l.length > 32 then L else if twiceB l = true then L else
 if ((keyL L k).all fun x => begins l x || begins x l) = true then L.set k.toNat (keyL L k ++ [l]) else L
structure FrO (W : AW) (q : Nat) (W' : AW) : Prop where
 cl : Cl W'
 nx : W.nx ≤ W'.nx
 get : ∀ x, x < W.nx → x ≠ q → W'.get x = W.get x
theorem FrO.trans {W W1 W2 : AW} {q : Nat} (a : FrO W q W1) (b : FrO W1 q W2) : FrO W q W2 :=
 ⟨b.cl, Nat.le_trans a.nx b.nx, fun x hx hn => by rw [b.get x (by have := a.nx; omega) hn]; exact a.get x hx hn⟩
theorem FrO.refl {W : AW} {q : Nat} (hC : Cl W) : FrO W q W := ⟨hC, lr _, fun _ _ _ => rfl⟩
theorem app_is {W : AW} {K : V → AW → Prop} {v : V} {l : List Int} {lo : Nat} (h : isS 1 v (intsV l)) (hl : l.length < 2 ^ 40) (hC : Cl W) (hlo : lo ≤ W.nx) (hk : ∀ o W', nowG W' o (intsV l) 1 lo → Ex W W' → K o W') : sem E (.append 1 2) [.nilsl, v] W K := by
 have he : elemsV 1 W v = some (intsV l) := by
  rcases h with ⟨rfl, h⟩ | ⟨rfl, h⟩ | ⟨f, rfl⟩
  ·rw [h]; rfl
  ·rw [h]; rfl
  ·simp [elemsV]
 have hL := ints_len l
 cases l with
 | nil =>
  simp only [sem, he]
  exact ⟨by decide, by decide, hk _ _ (.inl ⟨rfl, rfl⟩) (Ex.refl hC)⟩
 | cons a l =>
  have hem : (intsV (a :: l)).isEmpty = false := rfl
  simp only [sem, he, hem]
  refine ⟨by decide, by rw [hL]; omega, ?_⟩
  rw [if_neg (by decide)]
  exact hk _ _ (.inr ⟨W.nx, hlo, by rw [alloc_nx]; omega, rfl, List.cons_ne_nil _ _, alloc_at⟩) (Ex.alloc hC)
theorem app_ls {W : AW} {K : V → AW → Prop} {c : V} {es : List V} {lo : Nat} (h : nowG W c es 1 lo) (hl : es.length < 2 ^ 40) (hC : Cl W) (_ : lo ≤ W.nx) (hk : ∀ o W', nowG W' o es 1 W.nx → Ex W W' → K o W') : sem E (.append 1 24) [.nilsl, c] W K := by
 have he : elemsV 1 W c = some es := by
  rcases h with ⟨rfl, h⟩ | ⟨r, _, _, rfl, _, hg⟩
  ·rw [h]; rfl
  ·simp [elemsV, hg]
 cases es with
 | nil =>
  simp only [sem, he]
  exact ⟨by decide, by simp, hk _ _ (.inl ⟨rfl, rfl⟩) (Ex.refl hC)⟩
 | cons a l =>
  have hem : (a :: l).isEmpty = false := rfl
  simp only [sem, he, hem]
  refine ⟨by decide, by simp only [lcs] at hl ⊢; omega, ?_⟩
  rw [if_neg (by decide)]
  exact hk _ _ (.inr ⟨W.nx, lr _, by rw [alloc_nx]; omega, rfl, List.cons_ne_nil _ _, alloc_at⟩) (Ex.alloc hC)
theorem LsV.exq {W W' : AW} {c : V} {ll : List (List Int)} {lo q : Nat} {es : List V} {row : List V} (h : LsV W c ll lo es) (hF : FrO W q W') (hq : W.get q = some (.row row)) : LsV W' c ll lo es :=
 h.to hF.nx fun r _ h2 ⟨ys, hy⟩ => hF.get r h2 (by rintro rfl; rw [hq] at hy; cases hy)
theorem oTake_c (hP : PE E) (W : AW) {q lo N : Nat} {L : List (List (List Int))} {cs : List V} {es : List (List V)} (hO : Ro W q L lo cs es N) (hN : N < 2 ^ 30) (hlo : lo ≤ W.nx) (k : Int) (k0 : 0 ≤ k) {v : V} {l : List Int} (hv : isS 1 v (intsV l)) (hl : l.length < 2 ^ 40) (hr : ∀ n ∈ l, 0 ≤ n ∧ n < 65536) :
  ACalls E 55 [.ptr q 0, .int .u8 k, v] W fun _ W' => ∃ cs' es', Ro W' q (takO L k l) lo cs' es' (N + 1) ∧ FrO W q W' := by
 refine ACalls.of hP Tryz.func55 ok_oTakee (by simp) fun _ hok => ?_
 have hC := ok_Cl hok
 have hO1 : Ro W q L lo cs es (N + 1) := ⟨hO.hp, hO.lp, hO.c8, hO.l8, hO.e8, hO.ls, fun ll h => ⟨by have := (hO.rg ll h).1; omega, (hO.rg ll h).2⟩⟩
 have same : ∀ (b : Bool) (e : Int), takO L k l = L → ∃ X W', RetV (.tuple [.bool b, .int .i64 e]) W X W' ∧ W.nx ≤ W'.nx ∧ ∃ cs' es', Ro W' q (takO L k l) lo cs' es' (N + 1) ∧ FrO W q W' := fun b e h => ⟨_, W, .weak weak_id, lr _, cs, es, by rw [h]; exact hO1, FrO.refl hC⟩
 by_cases h8 : k > 7
 ·simp (maxSteps:=9^9) (disch:=omega) only [BX, ↓reduceIte, nE, c_oTake, h8, dT]
  exact ⟨_, rfl, same _ _ (by rw [takO, if_pos (by omega)])⟩
 by_cases h32 : l.length > 32
 ·simp (maxSteps:=9^9) (disch:=omega) only [BX, ↓reduceIte, nE, c_oTake, h8, dF, hv.len, ints_len, show decide ((l.length : Int) > 32) = true from decide_eq_true (by omega)]
  exact ⟨_, rfl, same _ _ (by rw [takO, if_neg (by omega), if_pos h32])⟩
 simp (maxSteps:=9^9) (disch:=omega) only [BX, ↓reduceIte, nE, c_oTake, h8, dF, hv.len, ints_len, show decide ((l.length : Int) > 32) = false from decide_eq_false (by omega), hv.frz]
 refine pc (oTwice_c hP _ hv hl) ?_
 cases ht : twiceB l with
 | true =>
  simp (maxSteps:=9^9) (disch:=omega) only [BS, e_seq, cond_if, ↓reduceIte, nE, e_seq]
  exact ⟨_, rfl, same _ _ (by rw [takO, if_neg (by omega), if_neg h32, if_pos ht])⟩
 | false =>
  simp (maxSteps:=9^9) (disch:=omega) only [BX, ↓reduceIte, e_seq]
  have hkn : k.toNat < 8 := by omega
  have hc8 := hO.c8
  have hl8 := hO.l8
  have he8 := hO.e8
  have hls := hO.ls k.toNat (by omega) (by omega) (by omega)
  have hix : ∀ (W : AW) K, sem E (.idxa 8 1) [.ptr q 0, .int .u8 k] W K = K (.ptr q k.toNat) W := fun W K => by
   rw [m_idxa, if_pos (by omega), Nat.mul_one, Nat.zero_add]
  have hat : cs[k.toNat]? = some (cs[k.toNat]'(by omega)) := gEg (by omega)
  have hkL : keyL L k = L[k.toNat]'(by omega) := by
   rw [keyL, if_neg (by omega), List.getD_eq_getElem?_getD, gEg (by omega)]; rfl
  have hrg := hO.rg _ (gmm (show k.toNat < L.length by omega))
  rw [← hkL] at hls hrg
  have htk : ∀ b, ((keyL L k).all fun x => begins l x || begins x l) = b → takO L k l = if b = true then L.set k.toNat (keyL L k ++ [l]) else L := fun b hb => by
   rw [takO, if_neg (by omega), if_neg h32, ht, if_neg (by decide), hb]
  generalize hce : cs[k.toNat]'(by omega) = c at hls hat
  generalize hee : es[k.toNat]'(by omega) = ee at hls
  generalize hll : keyL L k = ll at hls hrg htk hkL
  have hlen := hls.len
  rw [e_loop]
  refine alp (fun (i : Nat) A1 W1 => A1 0 = some (.ptr q 0) ∧ A1 1 = some (.int .u8 k) ∧ A1 2 = some v ∧ A1 8 = some (.int .i64 i) ∧ i ≤ ll.length ∧ W1 = W ∧ ∀ j (hj : j < ll.length), j < i → (begins l ll[j] || begins ll[j] l) = true) (fun i => ll.length - i) 0
   ⟨rfl, rfl, rfl, rfl, Nat.zero_le _, rfl, fun j _ hj => by omega⟩ ?_
  rintro i A1 W1 ⟨g0, g1, g2, g8, gi, rfl, gj⟩ _
  by_cases hi : i < ll.length
  ·have hie : i < ee.length := by omega
   have hel := hls.el i hie hi
   have hate : ee[i]? = some ee[i] := gEg hie
   obtain ⟨x1, x2⟩ := hel.cellsX
   have hgs := nowGS_S 1 (intsV ll[i])
   have hli := (hrg.2 _ (gmm hi)).1
   generalize ee[i] = e at hel hate x1 x2
   have hld : ∀ K, sem E (.load false 1) [.cptr e.cells] W1 K = K e W1 := fun K => by rw [x1]; rfl
   have hfr := hel.frz
   simp (maxSteps:=9^9) (disch:=omega) only [BX, ↓reduceIte, nE, reduceCtorEq, BM, BD, c_oTake_0, g0, g1, g2, g8, hix, hO.hp, hat, hls.now.len, hlen, clt, hi, dT, hls.now.idx' hate, hld, hfr, hv.frz]
   refine pc (obeg_c hP _ hv hgs hl) ?_
   cases hb1 : begins l ll[i] with
   | true =>
    simp (maxSteps:=9^9) (disch:=omega) only [BS, ↓reduceIte, BD]
    repeat (rw [guard_if]; simp (maxSteps:=9^9) (disch:=omega) only [BS, BC, cond_if, ↓reduceIte, nE, reduceCtorEq, BM, g0, g1, g2, g8, wadd1])
    refine ⟨i + 1, ⟨tt, tt, tt, tt, hi, tt, fun j hj hji => ?_⟩, by omega, lr _⟩
    by_cases e1 : j = i
    ·subst e1; rw [hb1]; rfl
    ·exact gj j hj (by omega)
   | false =>
    simp (maxSteps:=9^9) (disch:=omega) only [BS, ↓reduceIte, BD]
    repeat (rw [guard_if]; simp (maxSteps:=9^9) (disch:=omega) only [BS, BC, ↓reduceIte, nE, reduceCtorEq, BM, BD, g0, g1, g2, g8, hix, hO.hp, hat, hls.now.idx' hate, hld, hfr, hv.frz])
    refine pc (obeg_c hP _ hgs hv (by omega)) ?_
    cases hb2 : begins ll[i] l with
    | true =>
     simp (maxSteps:=9^9) (disch:=omega) only [BS]
     repeat (rw [guard_if]; simp (maxSteps:=9^9) (disch:=omega) only [BS, BC, cond_if, ↓reduceIte, nE, reduceCtorEq, BD, g0, g1, g2, g8, wadd1])
     refine ⟨i + 1, ⟨tt, tt, tt, tt, hi, tt, fun j hj hji => ?_⟩, by omega, lr _⟩
     by_cases e1 : j = i
     ·subst e1; rw [hb1, hb2]; rfl
     ·exact gj j hj (by omega)
    | false =>
     simp (maxSteps:=9^9) (disch:=omega) only [BS]
     repeat (rw [guard_if]; simp (maxSteps:=9^9) (disch:=omega) only [BS, e_seq, cond_if, ↓reduceIte, nE, BD])
     refine ⟨_, rfl, same _ _ ?_⟩
     have : (ll.all fun x => begins l x || begins x l) = false := by
      rw [List.all_eq_false]
      exact ⟨_, gmm hi, by rw [hb1, hb2]; decide⟩
     rw [htk _ this, if_neg (by decide)]
  ·obtain rfl : i = ll.length := by omega
   have hall : (ll.all fun x => begins l x || begins x l) = true := by
    rw [List.all_eq_true]
    intro x hx
    obtain ⟨j, hj, rfl⟩ := List.getElem_of_mem hx
    exact gj j hj hj
   have htk2 := htk _ hall
   rw [if_pos rfl] at htk2
   rw [htk2]
   simp (maxSteps:=9^9) (disch:=omega) only [BX, ↓reduceIte, nE, reduceCtorEq, BM, BD, c_oTake_0, g0, g1, g2, g8, hix, hO.hp, hat, hls.now.len, hlen, clt, hi, dF]
   refine app_is hv hl hC hlo ?_
   intro own W2 n1 n2
   have hp2 := (n2.get q hO.lp).trans hO.hp
   have fo2 : FrO W1 q W2 := ⟨n2.cl, n2.nx, fun x hx _ => n2.get x hx⟩
   have hls2 := hls.exq fo2 hO.hp
   simp (maxSteps:=9^9) (disch:=omega) only [BS, e_seq, ↓reduceIte, nE, reduceCtorEq, BM, BD, g0, g1, hix, hp2, hat]
   refine app_ls hls2.now (by omega) n2.cl (by have := n2.nx; omega) ?_
   intro lv W3 m1 m2
   obtain ⟨o1, o2⟩ := n1.cellsX
   have hp3 := (m2.get q (by have := n2.nx; have := hO.lp; omega)).trans hp2
   have hbs : ∀ (W : AW) K, sem E (.bslice 1 1 .nilsl [0]) [own] W K = K (.sl 1 true [own]) W := fun W K => by
    simp [sem, rsem, tsem, fillE, o1, cells_nilsl]
   simp (maxSteps:=9^9) (disch:=omega) only [BS, e_seq, ↓reduceIte, nE, reduceCtorEq, BD, g0, g1, hbs]
   have nq := hO.lp
   have nn2 := n2.nx
   have nn3 := m2.nx
   refine app_now2 m1 m2.cl nn3 (by decide) (by rw [o1]; simp [o2]) (by omega) ?_
   intro r W4 p1 p2 p3 p4 p5
   have hr2 : W2.nx ≤ r := by
    rcases p4 with h | h
    ·omega
    ·rcases m1 with ⟨e, _⟩ | ⟨r', a1, _, a3, _⟩
     ·rw [e] at h; cases h
     ·rw [a3] at h; cases h; exact a1
   have hp4 : W4.get q = some (.row cs) := by rw [p5 q (by omega) (by omega)]; exact hp3
   simp (maxSteps:=9^9) (disch:=omega) only [BS, e_seq, ↓reduceIte, nE, BM, BD, hix, hp4, cells_buf, one_buf]
   rw [if_pos (by omega)]
   have hset : cs.take k.toNat ++ [V.buf true r 1 (ee.length + 1)] ++ cs.drop (k.toNat + 1) = cs.set k.toNat (.buf true r 1 (ee.length + 1)) := by
    rw [List.set_eq_take_append_cons_drop, if_pos (by omega)]; simp
   rw [hset]
   have fo5 : FrO W2 q (W4.put q (.row (cs.set k.toNat (.buf true r 1 (ee.length + 1))))) :=
    ⟨p2.put (by omega), by rw [put_nx]; omega, fun x hx hn => by rw [put_ne hn, p5 x (by omega) (by omega)]; exact m2.get x hx⟩
   have fo1 := fo2.trans fo5
   have hrl : r < W4.nx := by
    rcases p1 with ⟨e, _⟩ | ⟨r', a1, a2, a3, _⟩
    ·cases e
    ·simp only [V.buf.injEq] at a3; obtain rfl := a3.2.1; exact a2
   refine ⟨_, rfl, _, _, .weak weak_id, by rw [put_nx]; omega, cs.set k.toNat (.buf true r 1 (ee.length + 1)), es.set k.toNat (ee ++ [own]), ⟨put_at, by rw [put_nx]; omega, by simp [hc8], by simp [hl8], by simp [he8], fun j a b c => ?_, fun x hx => ?_⟩, fo1⟩
   ·by_cases e1 : j = k.toNat
    ·subst e1
     simp only [List.getElem_set_self]
     refine ⟨?_, by simp [hlen], fun i a b => ?_⟩
     ·rcases p1 with ⟨e, _⟩ | ⟨r', a1, a2, a3, a4, a5⟩
      ·cases e
      ·simp only [V.buf.injEq] at a3
       obtain rfl := a3.2.1
       exact .inr ⟨r, by omega, by rw [put_nx]; omega, by simp, a4, by rw [put_ne (by rintro rfl; rw [hp4] at a5; cases a5)]; exact a5⟩
     ·by_cases e2 : i < ee.length
      ·rw [List.getElem_append_left e2, List.getElem_append_left (by omega)]
       exact (hls.exq fo1 hO.hp).el i e2 (by omega)
      ·have e3 : i = ee.length := by rw [lap, lcs, List.length_nil] at a; omega
       subst e3
       have y1 : (ee ++ [own])[ee.length]'a = own := by simp
       have y2 : (ll ++ [l])[ee.length]'b = l := by simp [hlen]
       rw [y1, y2]
       exact n1.to fo5.nx fun x _ h2 ⟨ys, hy⟩ => fo5.get x h2 (by rintro rfl; rw [hp2] at hy; cases hy)
    ·simp only [List.getElem_set_ne (Ne.symm e1)]
     exact (hO.ls j (by simpa using a) (by simpa using b) (by simpa using c)).exq fo1 hO.hp
   ·rcases List.mem_or_eq_of_mem_set hx with hx | rfl
    ·exact hO1.rg x hx
    ·refine ⟨by rw [lap, lcs, List.length_nil]; omega, fun y hy => ?_⟩
     rcases List.mem_append.1 hy with hy | hy
     ·exact hrg.2 y hy
     ·rw [List.mem_singleton.1 hy]; exact ⟨by omega, hr⟩
end Go.AL.S
namespace Go.AL.S
open Go Go.AL Go.Proofs
theorem ofL_snoc (ll : List (List Int)) (x : List Int) : ofL (ll ++ [x]) = if x.length > (ofL ll).length then x else ofL ll := by
 unfold ofL; rw [List.foldl_append]; rfl
theorem ofL_spec (ll : List (List Int)) : (ofL ll ∈ ll ∨ ofL ll = []) ∧ ∀ x ∈ ll, x.length ≤ (ofL ll).length := by
 refine snocInd (p := fun ll => (ofL ll ∈ ll ∨ ofL ll = []) ∧ ∀ x ∈ ll, x.length ≤ (ofL ll).length) ⟨.inr rfl, by simp⟩ ?_ ll
 rintro ll x ⟨h1, h2⟩
 rw [ofL_snoc]
 split
 ·rename_i hgt
  refine ⟨.inl (by simp), fun y hy => ?_⟩
  rcases List.mem_append.1 hy with hy | hy
  ·have := h2 y hy; omega
  ·rw [List.mem_singleton.1 hy]; exact lr _
 ·rename_i hgt
  refine ⟨h1.imp (fun h => by simp [h]) id, fun y hy => ?_⟩
  rcases List.mem_append.1 hy with hy | hy
  ·exact h2 y hy
  ·rw [List.mem_singleton.1 hy]; omega
structure OrdRel (os : Ods) (L : List (List (List Int))) : Prop where
 o8 : os.length = 8
 l8 : L.length = 8
 pre : ∀ k : Int, 0 ≤ k → k < 8 → (∀ x ∈ keyL L k, x <+: keyO os k) ∧ (keyO os k ∈ keyL L k ∨ keyO os k = [])
theorem OrdRel.of {os : Ods} {L : List (List (List Int))} (h : OrdRel os L) {k : Int} (k0 : 0 ≤ k) : ofL (keyL L k) = keyO os k := by
 by_cases hk : k ≥ 8
 ·rw [keyL, if_pos hk, keyO, if_pos hk]; rfl
 ·obtain ⟨h1, h2⟩ := h.pre k k0 (by omega)
  obtain ⟨s1, s2⟩ := ofL_spec (keyL L k)
  rcases s1 with s1 | s1
  ·have hp := h1 _ s1
   rcases h2 with h2 | h2
   ·exact hp.eq_of_length (Nat.le_antisymm hp.length_le (s2 _ h2))
   ·rw [h2] at hp ⊢; exact List.prefix_nil.1 hp
  ·rw [s1]
   rcases h2 with h2 | h2
   ·have := s2 _ h2
    rw [s1] at this
    exact (List.eq_nil_of_length_eq_zero (by simpa using this)).symm
   ·exact h2.symm
theorem keyL_set {L : List (List (List Int))} (h8 : L.length = 8) {k : Int} (h0 : 0 ≤ k) (h1 : k < 8) (l : List (List Int)) {j : Int} (j0 : 0 ≤ j) : keyL (L.set k.toNat l) j = if j = k then l else keyL L j := by
 unfold keyL
 by_cases hj : j ≥ 8
 ·have : ¬ j = k := by omega
  simp [hj, this]
 ·simp only [if_neg hj]
  by_cases e : j = k
  ·subst e
   rw [if_pos rfl, List.getD_eq_getElem?_getD, List.getElem?_set_self (by omega)]; rfl
  ·rw [if_neg e, List.getD_eq_getElem?_getD, List.getElem?_set_ne (by omega), ← List.getD_eq_getElem?_getD]
theorem OrdRel.all {os : Ods} {L : List (List (List Int))} (h : OrdRel os L) {k : Int} (k0 : 0 ≤ k) (k8 : k < 8) (l : List Int) : ((keyL L k).all fun x => begins l x || begins x l) = (begins l (keyO os k) || begins (keyO os k) l) := by
 obtain ⟨h1, h2⟩ := h.pre k k0 k8
 rw [Bool.eq_iff_iff, List.all_eq_true, Bool.or_eq_true, begins_iff, begins_iff]
 constructor
 ·intro h
  rcases h2 with h2 | h2
  ·have := h _ h2
   rwa [Bool.or_eq_true, begins_iff, begins_iff] at this
  ·rw [h2]; exact .inr (List.nil_prefix)
 ·intro h x hx
  rw [Bool.or_eq_true, begins_iff, begins_iff]
  have hx1 := h1 x hx
  rcases h with h | h
  ·exact List.prefix_or_prefix_of_prefix h hx1
  ·exact .inr (hx1.trans h)
theorem OrdRel.take {os : Ods} {L : List (List (List Int))} (h : OrdRel os L) {k : Int} (k0 : 0 ≤ k) (l : List Int) : OrdRel (takeR os k l).1 (takO L k l) := by
 unfold takeR takO
 by_cases h8 : k ≥ 8
 ·rw [if_pos h8, if_pos h8]; exact h
 ·rw [if_neg h8, if_neg h8]
  by_cases h32 : l.length > 32
  ·rw [if_pos h32, if_pos h32]; exact h
  ·rw [if_neg h32, if_neg h32]
   by_cases ht : twiceB l = true
   ·rw [if_pos ht, if_pos ht]; exact h
   ·rw [if_neg ht, if_neg ht, h.all k0 (by omega)]
    have hst : ∀ (os' : Ods), os'.length = 8 → (∀ j : Int, 0 ≤ j → j < 8 → j ≠ k → keyO os' j = keyO os j) → (∀ x ∈ keyL L k, x <+: keyO os' k) → l <+: keyO os' k → (keyO os' k = l ∨ keyO os' k = keyO os k) → OrdRel os' (L.set k.toNat (keyL L k ++ [l])) := by
     intro os' h8' hj hx hl hor
     refine ⟨h8', by simp [h.l8], fun j j0 j8 => ?_⟩
     rw [keyL_set h.l8 k0 (by omega) _ j0]
     by_cases e : j = k
     ·subst e
      rw [if_pos rfl]
      refine ⟨fun x hx' => ?_, ?_⟩
      ·rcases List.mem_append.1 hx' with hx' | hx'
       ·exact hx x hx'
       ·rw [List.mem_singleton.1 hx']; exact hl
      ·rcases hor with h1 | h1
       ·exact .inl (by rw [h1]; simp)
       ·rw [h1]
        exact (h.pre j j0 j8).2.imp (fun h => by simp [h]) id
     ·rw [if_neg e, hj j j0 j8 e]; exact h.pre j j0 j8
    obtain ⟨h1, h2⟩ := h.pre k k0 (by omega)
    by_cases hb1 : begins l (keyO os k) = true
    ·rw [if_pos hb1, hb1, Bool.true_or, if_pos rfl]
     exact hst os h.o8 (fun _ _ _ _ => rfl) h1 (begins_iff.1 hb1) (.inr rfl)
    ·by_cases hb2 : begins (keyO os k) l = true
     ·rw [if_neg hb1, if_pos hb2, hb2, Bool.or_true, if_pos rfl]
      have hk := keyO_set h.o8 k0 (by omega) l k0
      rw [if_pos rfl] at hk
      refine hst _ (by simp [h.o8]) (fun j j0 j8 hne => by rw [keyO_set h.o8 k0 (by omega) l j0, if_neg hne]) (fun x hx => ?_) (by rw [hk]; exact List.prefix_refl _) (.inl hk)
      rw [hk]
      exact (h1 x hx).trans (begins_iff.1 hb2)
     ·rw [if_neg hb1, if_neg hb2, Bool.eq_false_iff.2 hb1, Bool.eq_false_iff.2 hb2, Bool.or_false, if_neg (by decide)]
      exact h
def c_r05Same_0 : AC := (.seq (.r [.m 65 5,.u 66 (.fld 10) 2,.u 67 (.load false 1) 66,.u 68 (.len 1 0) 67,.b 69 (.bin .lss) 65 68] (.w 69 0)) (.seq (.block 1 (.seq (.par (.step 0 (.u 72 (.fld 10) 2) (.step 2 (.m 74 5) (.step 5 (.u 77 (.fld 10) 3) (.step 7 (.m 79 5) (.step 1 (.u 73 (.load false 1) 72) (.step 3 (.b 75 (.idxp 3) 73 74) (.step 4 (.u 76 (.load true 3) 75) (.step 6 (.u 78 (.load false 1) 77) (.step 8 (.b 80 (.idxp 3) 78 79) (.step 9 (.u 81 (.load true 3) 80) (.step 10 (.b 82 (.eqv true (true, [.b,.i .u8,.i .u16])) 76 81) .done)))))))))))) (.cond (.t 82) (.r [.v 4 (.bool false)] .ret) .skip))) (.reg [.m 70 5,.a 71 (.bin .add) 70 1,.m 5 71])))
def c_r05Same_1 : AC := (.seq (.r [.m 83 6,.u 84 (.fld 11) 2,.u 85 (.load false 1) 84,.u 86 (.len 1 0) 85,.b 87 (.bin .lss) 83 86] (.w 87 2)) (.seq (.block 3 (.seq (.par (.step 0 (.u 90 (.fld 11) 2) (.step 2 (.m 92 6) (.step 5 (.u 95 (.fld 11) 3) (.step 7 (.m 97 6) (.step 1 (.u 91 (.load false 1) 90) (.step 3 (.b 93 (.idxp 1) 91 92) (.step 4 (.u 94 (.load false 1) 93) (.step 6 (.u 96 (.load false 1) 95) (.step 8 (.b 98 (.idxp 1) 96 97) (.step 9 (.u 99 (.load false 1) 98) (.step 10 (.b 100 (.call 128) 94 99) (.step 11 (.u 101 (.un .not) 100) .done))))))))))))) (.cond (.t 101) (.r [.v 4 (.bool false)] .ret) .skip))) (.reg [.m 88 6,.a 89 (.bin .add) 88 1,.m 6 89])))
def c_r05Same : AC := (.r [.u 2 .box 0,.u 3 .box 1,.v 4 (.bool false)] (.seq (.r [.u 7 (.fld 0) 2,.u 8 (.load false 1) 7,.u 9 (.fld 0) 3,.u 10 (.load false 1) 9,.b 11 (.bin .neq) 8 10,.m 12 11,.U 13 (.fld 1) 2 12 false,.U 14 (.load false 1) 13 12 false,.U 15 (.fld 1) 3 12 false,.U 16 (.load false 1) 15 12 false,.B 17 (.bin .neq) 14 16 12 false,.p 18 .pick [.t 12,.T,.t 17],.m 19 18,.U 20 (.fld 2) 2 19 false,.U 21 (.load false 1) 20 19 false,.U 22 (.fld 2) 3 19 false,.U 23 (.load false 1) 22 19 false,.B 24 (.bin .neq) 21 23 19 false,.p 25 .pick [.t 19,.T,.t 24],.m 26 25,.U 27 (.fld 3) 2 26 false,.U 28 (.load true 5) 27 26 false,.U 29 (.fld 3) 3 26 false,.U 30 (.load true 5) 29 26 false,.B 31 (.eqv true (true, [.i .u8,.i .u8,.i .u8,.i .u16,.i .u16])) 28 30 26 false,.p 32 .pick [.t 26,.T,.t 31],.m 33 32,.U 34 (.fld 8) 2 33 false,.U 35 (.load true 2) 34 33 false,.U 36 (.fld 8) 3 33 false,.U 37 (.load true 2) 36 33 false,.B 38 (.eqv true (true, [.i .u8,.i .u16])) 35 37 33 false,.p 39 .pick [.t 33,.T,.t 38],.m 40 39,.U 41 (.fld 12) 2 40 false,.U 42 (.load true 7) 41 40 false,.U 43 (.fld 12) 3 40 false,.U 44 (.load true 7) 43 40 false,.B 45 (.eqv true (true, [.i .u8,.i .i64,.i .i64,.i .i64,.b,.b,.b])) 42 44 40 false,.p 46 .pick [.t 40,.T,.t 45],.m 47 46,.U 48 (.fld 10) 2 47 false,.U 49 (.load false 1) 48 47 false,.U 50 (.len 1 0) 49 47 false,.U 51 (.fld 10) 3 47 false,.U 52 (.load false 1) 51 47 false,.U 53 (.len 1 0) 52 47 false,.B 54 (.bin .neq) 50 53 47 false,.p 55 .pick [.t 47,.T,.t 54],.m 56 55,.U 57 (.fld 11) 2 56 false,.U 58 (.load false 1) 57 56 false,.U 59 (.len 1 0) 58 56 false,.U 60 (.fld 11) 3 56 false,.U 61 (.load false 1) 60 56 false,.U 62 (.len 1 0) 61 56 false,.B 63 (.bin .neq) 59 62 56 false,.p 64 .pick [.t 56,.T,.t 63]] (.cond (.t 64) (.r [.v 4 (.bool false)] .ret) .skip)) (.seq (.r [.v 5 (.int .i64 0)] (.block 0 (.loop c_r05Same_0))) (.seq (.r [.v 6 (.int .i64 0)] (.block 2 (.loop c_r05Same_1))) (.r [.v 4 (.bool true)] .ret)))))
theorem ok_r05Samee : compF Tryz.prog Tryz.f115 ⟨false, false, []⟩ = some (c_r05Same, [.tmp 4], 102) := by kernel_rfl
def c_rMay_0 : AC := (.seq (.r [.m 91 5,.u 92 (.fld 10) 1,.u 93 (.load false 1) 92,.u 94 (.len 1 0) 93,.b 95 (.bin .lss) 91 94] (.w 95 1)) (.seq (.block 2 (.r [.u 98 (.fld 10) 1,.u 99 (.load false 1) 98,.m 100 5,.b 101 (.idxp 3) 99 100,.u 102 (.fld 1) 101,.u 103 (.load false 1) 102,.p 104 (.bin .gtr) [.t 103,.c (.int .u8 7)],.m 105 104,.U 106 (.fld 10) 1 105 false,.U 107 (.load false 1) 106 105 false,.M 108 5 105 false,.B 109 (.idxp 3) 107 108 105 false,.U 110 (.fld 0) 109 105 false,.U 111 (.load false 1) 110 105 false,.M 112 111 105 false,.U 113 (.fld 10) 1 112 true,.U 114 (.load false 1) 113 112 true,.M 115 5 112 true,.B 116 (.idxp 3) 114 115 112 true,.U 117 (.fld 2) 116 112 true,.U 118 (.load false 1) 117 112 true,.P 119 (.bin .neq) [.t 118,.c (.int .u16 0)] 112 true,.P 120 .pick [.t 112,.t 119,.F] 105 false,.p 121 .pick [.t 105,.T,.t 120]] (.cond (.t 121) (.r [.v 2 (.bool false)] .ret) .skip))) (.reg [.m 96 5,.a 97 (.bin .add) 96 1,.m 5 97])))
def c_rMay_1 : AC := (.seq (.r [.m 131 6,.u 132 (.fld 11) 1,.u 133 (.load false 1) 132,.u 134 (.len 1 0) 133,.b 135 (.bin .lss) 131 134] (.w 135 3)) (.seq (.block 4 (.r [.u 138 (.fld 11) 1,.u 139 (.load false 1) 138,.m 140 6,.b 141 (.idxp 1) 139 140,.u 142 (.load false 1) 141,.u 143 (.len 1 0) 142,.a 144 (.bin .gtr) 143 32] (.cond (.t 144) (.r [.v 2 (.bool false)] .ret) .skip))) (.reg [.m 136 6,.a 137 (.bin .add) 136 1,.m 6 137])))
def c_rMay : AC := (.r [.u 1 .box 0,.v 2 (.bool false)] (.r [.u 7 (.fld 0) 1,.u 8 (.load false 1) 7,.u 9 (.fld 1) 1,.u 10 (.load false 1) 9,.u 11 (.fld 2) 1,.u 12 (.load false 1) 11,.p 13 (.build [.int .u8 0,.int .u8 0,.int .u16 0,.int .u8 0,.int .u8 0,.int .u8 0,.int .u16 0,.int .u16 0,.int .u8 0,.int .u16 0,.nilsl,.nilsl,.int .u8 0,.int .i64 0,.int .i64 0,.int .i64 0,.bool false,.bool false,.bool false] [(0, 1), (1, 1), (2, 1)]) [.t 8,.t 10,.t 12],.p 3 (.alloc [.int .u8 0,.int .u8 0,.int .u16 0,.int .u8 0,.int .u8 0,.int .u8 0,.int .u16 0,.int .u16 0,.int .u8 0,.int .u16 0,.nilsl,.nilsl,.int .u8 0,.int .i64 0,.int .i64 0,.int .i64 0,.bool false,.bool false,.bool false]) [],⟨none,.store 19, [.t 3,.t 13], none⟩] (.seq (.r [.u 14 (.fld 0) 1,.u 15 (.load false 1) 14] (.block 0 (.r [.p 17 (.bin .eql) [.t 15,.c (.int .u8 1)],.m 16 17] (.cond (.t 16) (.r [.u 18 (.fld 12) 1,.u 19 (.load true 7) 18,.p 4 (.alloc [.int .u8 0,.int .i64 0,.int .i64 0,.int .i64 0,.bool false,.bool false,.bool false]) [],⟨none,.store 7, [.t 4,.t 19], none⟩] (.r [.u 20 (.load true 7) 4,.p 21 (.build [.int .u8 0,.int .u8 0,.int .u16 0,.int .u8 0,.int .u8 0,.int .u8 0,.int .u16 0,.int .u16 0,.int .u8 0,.int .u16 0,.nilsl,.nilsl,.int .u8 0,.int .i64 0,.int .i64 0,.int .i64 0,.bool false,.bool false,.bool false] [(0, 1), (12, 7)]) [.c (.int .u8 1),.t 20],⟨none,.store 19, [.t 3,.t 21], none⟩] (.r [.u 22 (.fld 0) 4,.u 23 (.load false 1) 22,.p 24 (.bin .gtr) [.t 23,.c (.int .u8 4)],.m 25 24,.U 26 (.fld 1) 4 25 false,.U 27 (.load false 1) 26 25 false,.P 28 (.bin .lss) [.t 27,.i 1] 25 false,.p 29 .pick [.t 25,.T,.t 28],.m 30 29,.U 31 (.fld 1) 4 30 false,.U 32 (.load false 1) 31 30 false,.P 33 (.bin .gtr) [.t 32,.i 32] 30 false,.p 34 .pick [.t 30,.T,.t 33],.m 35 34,.U 36 (.fld 2) 4 35 false,.U 37 (.load false 1) 36 35 false,.P 38 (.bin .lss) [.t 37,.i 1] 35 false,.p 39 .pick [.t 35,.T,.t 38],.m 40 39,.U 41 (.fld 2) 4 40 false,.U 42 (.load false 1) 41 40 false,.P 43 (.bin .gtr) [.t 42,.i 4096] 40 false,.p 44 .pick [.t 40,.T,.t 43],.m 45 44,.U 46 (.fld 3) 4 45 false,.U 47 (.load false 1) 46 45 false,.P 48 (.bin .lss) [.t 47,.i 1] 45 false,.p 49 .pick [.t 45,.T,.t 48],.m 50 49,.U 51 (.fld 3) 4 50 false,.U 52 (.load false 1) 51 50 false,.P 53 (.bin .gtr) [.t 52,.i 1048576] 50 false,.p 54 .pick [.t 50,.T,.t 53]] (.cond (.t 54) (.r [.v 2 (.bool false)] .ret) .skip)))) (.r [.p 56 (.bin .eql) [.t 15,.c (.int .u8 2)],.m 55 56] (.cond (.t 55) (.r [.u 57 (.fld 3) 1,.u 58 (.load true 5) 57,.u 59 (.fld 3) 3,⟨none,.store 5, [.t 59,.t 58], none⟩] (.r [.u 60 (.fld 3) 1,.u 61 (.load true 5) 60,.u 62 (.call 113) 61,.u 63 (.un .not) 62] (.cond (.t 63) (.r [.v 2 (.bool false)] .ret) .skip))) (.r [.p 65 (.bin .eql) [.t 15,.c (.int .u8 3)],.m 64 65] (.cond (.t 64) (.r [.u 66 (.fld 8) 1,.u 67 (.load true 2) 66,.u 68 (.fld 8) 3,⟨none,.store 2, [.t 68,.t 67], none⟩] (.r [.u 69 (.fld 8) 1,.u 70 (.load true 2) 69,.u 71 (.call 114) 70,.u 72 (.un .not) 71] (.cond (.t 72) (.r [.v 2 (.bool false)] .ret) .skip))) (.seq (.r [.p 74 (.bin .eql) [.t 15,.c (.int .u8 4)],.m 73 74] (.cond (.t 73) .skip (.reg [.p 75 (.bin .eql) [.t 15,.c (.int .u8 7)],.m 73 75]))) (.cond (.t 73) .skip (.r [.p 77 (.bin .eql) [.t 15,.c (.int .u8 5)],.m 76 77] (.cond (.t 76) (.r [.u 78 (.fld 10) 1,.u 79 (.load false 1) 78,.u 80 (.fld 10) 3,⟨none,.store 1, [.t 80,.t 79], none⟩] (.seq (.r [.u 81 (.fld 10) 1,.u 82 (.load false 1) 81,.u 83 (.len 1 0) 82,.a 84 (.bin .lss) 83 1,.m 85 84,.U 86 (.fld 10) 1 85 false,.U 87 (.load false 1) 86 85 false,.U 88 (.len 1 0) 87 85 false,.P 89 (.bin .gtr) [.t 88,.i 8] 85 false,.p 90 .pick [.t 85,.T,.t 89]] (.cond (.t 90) (.r [.v 2 (.bool false)] .ret) .skip)) (.r [.v 5 (.int .i64 0)] (.block 1 (.loop c_rMay_0))))) (.r [.p 123 (.bin .eql) [.t 15,.c (.int .u8 6)],.m 122 123] (.cond (.t 122) (.r [.u 124 (.fld 11) 1,.u 125 (.load false 1) 124,.u 126 (.fld 11) 3,⟨none,.store 1, [.t 126,.t 125], none⟩] (.seq (.r [.u 127 (.fld 11) 1,.u 128 (.load false 1) 127,.u 129 (.len 1 0) 128,.a 130 (.bin .gtr) 129 8] (.cond (.t 130) (.r [.v 2 (.bool false)] .ret) .skip)) (.r [.v 6 (.int .i64 0)] (.block 3 (.loop c_rMay_1))))) (.r [.v 2 (.bool false)] .ret))))))))))))))) (.r [.u 145 (.fld 1) 1,.u 146 (.load false 1) 145,.p 147 (.bin .lss) [.t 146,.c (.int .u8 16)],.m 148 147,.U 149 (.load true 19) 1 148 true,.U 150 (.load true 19) 3 148 true,.B 151 (.call 115) 149 150 148 true,.p 152 .pick [.t 148,.t 151,.F],.m 2 152] .ret))))
theorem ok_rMaye : compF Tryz.prog Tryz.f91 ⟨false, false, []⟩ = some (c_rMay, [.tmp 2], 153) := by kernel_rfl
variable {E : Env}
theorem eqv_opn {W : AW} {K : V → AW → Prop} : sem E (.eqv true (true, [.i .u8, .i .u8, .i .u8, .i .u16, .i .u16])) [.agg [.int .u8 0, .int .u8 0, .int .u8 0, .int .u16 0, .int .u16 0], .agg [.int .u8 0, .int .u8 0, .int .u8 0, .int .u16 0, .int .u16 0]] W K = K (.bool false) W := id rfl
theorem eqv_resn {W : AW} {K : V → AW → Prop} : sem E (.eqv true (true, [.i .u8, .i .u16])) [.agg [.int .u8 0, .int .u16 0], .agg [.int .u8 0, .int .u16 0]] W K = K (.bool false) W := id rfl
theorem eqv_cfn {W : AW} {K : V → AW → Prop} : sem E (.eqv true (true, [.i .u8, .i .i64, .i .i64, .i .i64, .b, .b, .b])) [.agg [.int .u8 0, .int .i64 0, .int .i64 0, .int .i64 0, .bool false, .bool false, .bool false], .agg [.int .u8 0, .int .i64 0, .int .i64 0, .int .i64 0, .bool false, .bool false, .bool false]] W K = K (.bool false) W := id rfl
theorem rSame_c (hP : PE E) (W : AW) (kd c i : Int) {t r : V} {ms : List Mi} {ls : List (Option (List Int))} (ht : isMs t ms) (hr : isLs r ls) (hm : ∀ m ∈ ms, m.ok) (hml : ms.length ≤ 8) (hll : ls.length ≤ 8) (hl : ∀ o ∈ ls, (nums o).length ≤ 32) :
  ACalls E 115 [evV kd c i t r, evV kd c i t r] W fun Y W' => Y = .bool true ∧ W' = W := by
 refine ACalls.of hP Tryz.func115 ok_r05Samee (by simp) fun _ hok => ?_
 refine awp_start hok ?_
 have hms : isS 3 t (ms.map Mi.V) := ht
 obtain ⟨xs, hls, hxl, hxe⟩ := hr
 have f1 := hms.cells
 have f2 := hls.cells
 have f3 := hms.one
 have f4 := hls.one
 have n0 : ∀ n : Nat, ((n : Int) != n) = false := fun n => by simp
 simp (maxSteps:=9^9) (disch:=omega) only [BZ, ↓reduceIte, nE, BM, BD, c_r05Same, evV, bne_self_eq_false]
 repeat (rw [guard_if]; simp (maxSteps:=9^9) (disch:=omega) only [BX, ↓reduceIte, nE, BM, BD, nA, nL, bne_self_eq_false, eqv_opn, eqv_resn, eqv_cfn, hms.len, hls.len, lmp])
 obtain ⟨W0, hW0⟩ : ∃ W0, W0 = X W W.nx [.row [.int .u8 kd, .int .u8 c, .int .u16 i, .int .u8 0, .int .u8 0, .int .u8 0, .int .u16 0, .int .u16 0, .int .u8 0, .int .u16 0, t, r, .int .u8 0, .int .i64 0, .int .i64 0, .int .i64 0, .bool false, .bool false, .bool false],
  .row [.int .u8 kd, .int .u8 c, .int .u16 i, .int .u8 0, .int .u8 0, .int .u8 0, .int .u16 0, .int .u16 0, .int .u8 0, .int .u16 0, t, r, .int .u8 0, .int .i64 0, .int .i64 0, .int .i64 0, .bool false, .bool false, .bool false]] := ⟨_, rfl⟩
 rw [← hW0]
 have k0 : W0.get (rf W.nx 0) = some (.row [.int .u8 kd, .int .u8 c, .int .u16 i, .int .u8 0, .int .u8 0, .int .u8 0, .int .u16 0, .int .u16 0, .int .u8 0, .int .u16 0, t, r, .int .u8 0, .int .i64 0, .int .i64 0, .int .i64 0, .bool false, .bool false, .bool false]) := by rw [hW0, X_get]; rfl
 have k1 : W0.get (rf W.nx 1) = some (.row [.int .u8 kd, .int .u8 c, .int .u16 i, .int .u8 0, .int .u8 0, .int .u8 0, .int .u16 0, .int .u16 0, .int .u8 0, .int .u16 0, t, r, .int .u8 0, .int .i64 0, .int .i64 0, .int .i64 0, .bool false, .bool false, .bool false]) := by rw [hW0, X_get]; rfl
 have hbk : RetV (.bool true) W0 (.bool true) W := by rw [hW0]; exact backX hok rfl
 rw [e_loop]
 refine alp (fun (k : Nat) A1 W1 => A1 2 = some (.ptr (rf W.nx 0) 0) ∧ A1 3 = some (.ptr (rf W.nx 1) 0) ∧ A1 5 = some (.int .i64 k) ∧ k ≤ ms.length ∧ W1 = W0) (fun k => ms.length - k) 0
  ⟨rfl, rfl, rfl, Nat.zero_le _, rfl⟩ ?_
 rintro k A1 W1 ⟨g2, g3, g5, gk, rfl⟩ _
 by_cases hk1 : k < ms.length
 ·have hmo := hm _ (gmm hk1)
  simp (maxSteps:=9^9) (disch:=omega) only [BX, ↓reduceIte, nE, BM, BD, c_r05Same_0, g2, g3, g5, k0, k1, hms.len, lmp, clt, hk1, dT, hms.idx (mi_at hk1), mi_load, mi_eqv hmo hmo, wadd1]
  exact ⟨k + 1, ⟨tt, tt, tt, tt, tt⟩, by omega, lr _⟩
 ·simp (maxSteps:=9^9) (disch:=omega) only [BX, ↓reduceIte, nE, BM, BD, c_r05Same_0, g2, g5, k0, hms.len, lmp, clt, hk1, dF]
  rw [e_loop]
  refine alp (fun (k : Nat) A1 W2 => A1 2 = some (.ptr (rf W.nx 0) 0) ∧ A1 3 = some (.ptr (rf W.nx 1) 0) ∧ A1 6 = some (.int .i64 k) ∧ k ≤ xs.length ∧ W2 = W1) (fun k => xs.length - k) 0
   ⟨g2, g3, rfl, Nat.zero_le _, rfl⟩ ?_
  rintro k A1 W2 ⟨g2, g3, g5, gk, rfl⟩ _
  by_cases hk1 : k < xs.length
  ·have hel := hxe k hk1 (by omega)
   have h32 := hl _ (gmm (show k < ls.length by omega))
   have hat : xs[k]? = some xs[k] := gEg hk1
   simp (maxSteps:=9^9) (disch:=omega) only [BX, ↓reduceIte, nE, BM, BD, c_r05Same_1, g2, g3, g5, k0, k1, hls.len, clt, hk1, dT, hls.idx hat, hel.isS.loadf, hel.isS.frz]
   refine pc (same01_c hP W2 hel.isS hel.isS (by omega)) ?_
   simp (maxSteps:=9^9) (disch:=omega) only [BS, BC, cond_if, ↓reduceIte, nE, BD, g2, g3, g5, dT, wadd1]
   exact ⟨k + 1, ⟨tt, tt, tt, tt, tt⟩, by omega, lr _⟩
  ·simp (maxSteps:=9^9) (disch:=omega) only [BX, ↓reduceIte, nE, BM, BD, c_r05Same_1, g2, g5, k0, hls.len, clt, hk1, dF]
   exact ⟨_, rfl, _, W, hbk, lr _, rfl, rfl⟩
theorem nilLs : isLs .nilsl [] := ⟨[], .nil, rfl, fun k h => by simp at h⟩
theorem nilMs : isMs .nilsl [] := .nil
theorem rMayB_c (hP : PE E) (W : AW) (c i : Int) {t : V} {l : List Mi} (ht : isMs t l) (ho : ∀ m ∈ l, m.ok) (hll : l.length < 2 ^ 48) :
  ACalls E 91 [evV 5 c i t .nilsl] W fun Y W' => Y = .bool (okB c l) ∧ W' = W := by
 refine ACalls.of hP Tryz.func91 ok_rMaye (by simp) fun _ hok => ?_
 refine awp_start hok ?_
 have hms : isS 3 t (l.map Mi.V) := ht
 have f1 := hms.cells
 have f3 := hms.one
 simp (maxSteps:=9^9) (disch:=omega) only [BX, ↓reduceIte, nE, BM, BD, nA, nL, nT, c_rMay, evV, f1, f3, show ((5 : Int) == 1) = false by decide, show ((5 : Int) == 2) = false by decide, show ((5 : Int) == 3) = false by decide, show ((5 : Int) == 4) = false by decide, show ((5 : Int) == 7) = false by decide, show ((5 : Int) == 5) = true by decide, hms.len, lmp]
 by_cases h1 : l.length < 1
 ·repeat (rw [guard_if]; simp (maxSteps:=9^9) (disch:=omega) only [BX, ↓reduceIte, nE, BM, show decide (((l.length : Nat) : Int) < 1) = true from decide_eq_true (by omega)])
  exact ⟨_, rfl, _, W, backX hok rfl, lr _, by rw [okB, show decide (1 ≤ l.length) = false from decide_eq_false (by omega)]; rfl, rfl⟩
 by_cases h8 : l.length > 8
 ·repeat (rw [guard_if]; simp (maxSteps:=9^9) (disch:=omega) only [BX, ↓reduceIte, nE, BM, BD, show decide (((l.length : Nat) : Int) < 1) = false from decide_eq_false (by omega), show decide (((l.length : Nat) : Int) > 8) = true from decide_eq_true (by omega), hms.len, lmp])
  exact ⟨_, rfl, _, W, backX hok rfl, lr _, by rw [okB, show decide (l.length ≤ 8) = false from decide_eq_false (by omega), Bool.and_false]; rfl, rfl⟩
 ·repeat (rw [guard_if]; simp (maxSteps:=9^9) (disch:=omega) only [BX, ↓reduceIte, nE, BM, BD, show decide (((l.length : Nat) : Int) < 1) = false from decide_eq_false (by omega), show decide (((l.length : Nat) : Int) > 8) = false from decide_eq_false (by omega), hms.len, lmp])
  obtain ⟨W0, hW0⟩ : ∃ W0, W0 = X W W.nx [.row [.int .u8 5, .int .u8 c, .int .u16 i, .int .u8 0, .int .u8 0, .int .u8 0, .int .u16 0, .int .u16 0, .int .u8 0, .int .u16 0, t, .nilsl, .int .u8 0, .int .i64 0, .int .i64 0, .int .i64 0, .bool false, .bool false, .bool false], .row [.int .u8 5, .int .u8 c, .int .u16 i, .int .u8 0, .int .u8 0, .int .u8 0, .int .u16 0, .int .u16 0, .int .u8 0, .int .u16 0, t, .nilsl, .int .u8 0, .int .i64 0, .int .i64 0, .int .i64 0, .bool false, .bool false, .bool false]] := ⟨_, rfl⟩
  rw [← hW0]
  have k0 : W0.get (rf W.nx 0) = some (.row [.int .u8 5, .int .u8 c, .int .u16 i, .int .u8 0, .int .u8 0, .int .u8 0, .int .u16 0, .int .u16 0, .int .u8 0, .int .u16 0, t, .nilsl, .int .u8 0, .int .i64 0, .int .i64 0, .int .i64 0, .bool false, .bool false, .bool false]) := by rw [hW0, X_get]; rfl
  have k1 : W0.get (rf W.nx 1) = some (.row [.int .u8 5, .int .u8 c, .int .u16 i, .int .u8 0, .int .u8 0, .int .u8 0, .int .u16 0, .int .u16 0, .int .u8 0, .int .u16 0, t, .nilsl, .int .u8 0, .int .i64 0, .int .i64 0, .int .i64 0, .bool false, .bool false, .bool false]) := by rw [hW0, X_get]; rfl
  have hbk : ∀ b, RetV (.bool b) W0 (.bool b) W := fun b => by rw [hW0]; exact backX hok rfl
  clear hW0
  have hb18 : (decide (1 ≤ l.length) && decide (l.length ≤ 8)) = true := by rw [decide_eq_true (by omega), decide_eq_true (by omega)]; rfl
  rw [e_loop]
  refine alp (fun (k : Nat) A1 W1 => A1 1 = some (.ptr (rf W.nx 0) 0) ∧ A1 3 = some (.ptr (rf W.nx 1) 0) ∧ A1 5 = some (.int .i64 k) ∧ k ≤ l.length ∧ W1 = W0 ∧ ∀ j (hj : j < l.length), j < k → badMi l[j] = false) (fun k => l.length - k) 0
   ⟨rfl, rfl, rfl, Nat.zero_le _, rfl, fun j _ hj => by omega⟩ ?_
  rintro k A1 W1 ⟨g1, g3, g5, gk, rfl, gj⟩ _
  by_cases hk1 : k < l.length
  ·have hmi : ∀ K, sem E (.idxp 3) [t, .int .i64 (k : Int)] W1 K = K (.cptr [.bool (l[k]).read, .int .u8 (l[k]).key, .int .u16 (l[k]).v]) W1 := fun K => hms.idx (mi_at hk1)
   have hbad : badMi l[k] = true → okB c l = false := fun h => by
    rw [okB, show l.any badMi = true from List.any_eq_true.2 ⟨_, gmm hk1, h⟩, Bool.not_true, Bool.and_false]; rfl
   have hgo : badMi l[k] = false → ∀ j (hj : j < l.length), j < k + 1 → badMi l[j] = false := fun h j hj hjk => by
    by_cases e1 : j = k
    ·subst e1; exact h
    ·exact gj j hj (by omega)
   generalize l[k] = m at hmi hbad hgo
   by_cases h7 : m.key > 7
   ·simp (maxSteps:=9^9) (disch:=omega) only [BX, ↓reduceIte, nE, BM, BD, nA, nL, c_rMay_0, g1, g5, k0, hms.len, lmp, clt, hk1, dT, hmi, h7]
    repeat (rw [guard_if]; simp (maxSteps:=9^9) (disch:=omega) only [BX, ↓reduceIte, nE, BM])
    exact ⟨_, rfl, _, W, hbk _, lr _, by rw [hbad (by rw [badMi, decide_eq_true (show m.key ≥ 8 by omega)]; rfl)], rfl⟩
   ·have hk8 : decide (m.key ≥ 8) = false := decide_eq_false (by omega)
    cases hm : m.read with
    | false =>
     rw [hm] at hmi
     simp (maxSteps:=9^9) (disch:=omega) only [BX, ↓reduceIte, nE, BM, BD, nA, nL, c_rMay_0, g1, g5, k0, hms.len, lmp, clt, hk1, dT, hmi, h7, dF]
     repeat (rw [guard_if]; simp (maxSteps:=9^9) (disch:=omega) only [BS, BC, cond_if, ↓reduceIte, nE, BM, BD, nA, nL, g1, g3, g5, k0, hmi, wadd1])
     exact ⟨k + 1, ⟨tt, tt, tt, by omega, tt, hgo (by rw [badMi, hk8, hm]; rfl)⟩, by omega, lr _⟩
    | true =>
     rw [hm] at hmi
     by_cases hv : m.v = 0
     ·rw [hv] at hmi
      simp (maxSteps:=9^9) (disch:=omega) only [BX, ↓reduceIte, nE, BM, BD, nA, nL, c_rMay_0, g1, g5, k0, hms.len, lmp, clt, hk1, dT, hmi, h7, dF]
      repeat (rw [guard_if]; simp (maxSteps:=9^9) (disch:=omega) only [BS, BC, cond_if, ↓reduceIte, nE, BM, BD, nA, nL, g1, g3, g5, k0, hmi, bne_self_eq_false, wadd1])
      exact ⟨k + 1, ⟨tt, tt, tt, by omega, tt, hgo (by rw [badMi, hk8, hm, hv]; rfl)⟩, by omega, lr _⟩
     ·have hv' : (m.v != 0) = true := by simpa using hv
      simp (maxSteps:=9^9) (disch:=omega) only [BX, ↓reduceIte, nE, BM, BD, nA, nL, c_rMay_0, g1, g5, k0, hms.len, lmp, clt, hk1, dT, hmi, h7, dF]
      repeat (rw [guard_if]; simp (maxSteps:=9^9) (disch:=omega) only [BX, ↓reduceIte, nE, BM, BD, nA, nL, g1, g5, k0, hmi, hv'])
      exact ⟨_, rfl, _, W, hbk _, lr _, by rw [hbad (by rw [badMi, hm, decide_eq_true (show m.v ≠ 0 from hv), Bool.true_and, Bool.or_true])], rfl⟩
  ·obtain rfl : k = l.length := by omega
   have hany : l.any badMi = false := by
    rw [List.any_eq_false]
    intro m hm
    obtain ⟨j, hj, rfl⟩ := List.getElem_of_mem hm
    rw [gj j hj hj]; decide
   have hokB : okB c l = decide (c < 16) := by rw [okB, hb18, hany]; rfl
   by_cases hc : c < 16
   ·simp (maxSteps:=9^9) (disch:=omega) only [BX, ↓reduceIte, nE, BM, BD, c_rMay_0, g1, g5, k0, hms.len, lmp, clt, hk1, dF, dT, hc]
    repeat (rw [guard_if]; simp (maxSteps:=9^9) (disch:=omega) only [BS, BC, ↓reduceIte, nE, BM, BD, nA, nL, g1, g3, k0, k1])
    refine pc (rSame_c hP _ 5 c i ht nilLs ho (by omega) (by simp) (by simp)) ?_
    simp (maxSteps:=9^9) (disch:=omega) only [BS, BC, ↓reduceIte, nE]
    exact ⟨_, rfl, _, W, hbk _, lr _, by rw [hokB, decide_eq_true hc], rfl⟩
   ·simp (maxSteps:=9^9) (disch:=omega) only [BX, ↓reduceIte, nE, BM, BD, c_rMay_0, g1, g5, k0, hms.len, lmp, clt, hk1, dF, hc]
    repeat (rw [guard_if]; simp (maxSteps:=9^9) (disch:=omega) only [BS, BC, ↓reduceIte, nE, BM])
    exact ⟨_, rfl, _, W, hbk _, lr _, by rw [hokB, decide_eq_false hc], rfl⟩
theorem rMayC_c (hP : PE E) (W : AW) (i : Int) {r : V} {ls : List (Option (List Int))} (hr : isLs r ls) (hll : ls.length < 2 ^ 48) :
  ACalls E 91 [evV 6 0 i .nilsl r] W fun Y W' => Y = .bool (okC ls) ∧ W' = W := by
 refine ACalls.of hP Tryz.func91 ok_rMaye (by simp) fun _ hok => ?_
 refine awp_start hok ?_
 obtain ⟨xs, hls, hxl, hxe⟩ := id hr
 have f1 := hls.cells
 have f3 := hls.one
 simp (maxSteps:=9^9) (disch:=omega) only [BX, ↓reduceIte, nE, BM, BD, nA, nL, nT, c_rMay, evV, f1, f3, show ((6 : Int) == 1) = false by decide, show ((6 : Int) == 2) = false by decide, show ((6 : Int) == 3) = false by decide, show ((6 : Int) == 4) = false by decide, show ((6 : Int) == 7) = false by decide, show ((6 : Int) == 5) = false by decide, show ((6 : Int) == 6) = true by decide, hls.len]
 by_cases h8 : xs.length > 8
 ·simp (maxSteps:=9^9) (disch:=omega) only [↓reduceIte, show decide (((xs.length : Nat) : Int) > 8) = true from decide_eq_true (by omega)]
  exact ⟨_, rfl, _, W, backX hok rfl, lr _, by rw [okC, show decide (ls.length ≤ 8) = false from decide_eq_false (by omega)]; rfl, rfl⟩
 ·simp (maxSteps:=9^9) (disch:=omega) only [BC, ↓reduceIte, show decide (((xs.length : Nat) : Int) > 8) = false from decide_eq_false (by omega)]
  obtain ⟨W0, hW0⟩ : ∃ W0, W0 = X W W.nx [.row [.int .u8 6, .int .u8 0, .int .u16 i, .int .u8 0, .int .u8 0, .int .u8 0, .int .u16 0, .int .u16 0, .int .u8 0, .int .u16 0, .nilsl, r, .int .u8 0, .int .i64 0, .int .i64 0, .int .i64 0, .bool false, .bool false, .bool false], .row [.int .u8 6, .int .u8 0, .int .u16 i, .int .u8 0, .int .u8 0, .int .u8 0, .int .u16 0, .int .u16 0, .int .u8 0, .int .u16 0, .nilsl, r, .int .u8 0, .int .i64 0, .int .i64 0, .int .i64 0, .bool false, .bool false, .bool false]] := ⟨_, rfl⟩
  rw [← hW0]
  have k0 : W0.get (rf W.nx 0) = some (.row [.int .u8 6, .int .u8 0, .int .u16 i, .int .u8 0, .int .u8 0, .int .u8 0, .int .u16 0, .int .u16 0, .int .u8 0, .int .u16 0, .nilsl, r, .int .u8 0, .int .i64 0, .int .i64 0, .int .i64 0, .bool false, .bool false, .bool false]) := by rw [hW0, X_get]; rfl
  have k1 : W0.get (rf W.nx 1) = some (.row [.int .u8 6, .int .u8 0, .int .u16 i, .int .u8 0, .int .u8 0, .int .u8 0, .int .u16 0, .int .u16 0, .int .u8 0, .int .u16 0, .nilsl, r, .int .u8 0, .int .i64 0, .int .i64 0, .int .i64 0, .bool false, .bool false, .bool false]) := by rw [hW0, X_get]; rfl
  have hbk : ∀ b, RetV (.bool b) W0 (.bool b) W := fun b => by rw [hW0]; exact backX hok rfl
  clear hW0
  rw [e_loop]
  refine alp (fun (k : Nat) A1 W1 => A1 1 = some (.ptr (rf W.nx 0) 0) ∧ A1 3 = some (.ptr (rf W.nx 1) 0) ∧ A1 6 = some (.int .i64 k) ∧ k ≤ xs.length ∧ W1 = W0 ∧ ∀ j (hj : j < ls.length), j < k → longL ls[j] = false) (fun k => xs.length - k) 0
   ⟨rfl, rfl, rfl, Nat.zero_le _, rfl, fun j _ hj => by omega⟩ ?_
  rintro k A1 W1 ⟨g1, g3, g6, gk, rfl, gj⟩ _
  by_cases hk1 : k < xs.length
  ·have hkl : k < ls.length := by omega
   have hel := hxe k hk1 hkl
   have hat : xs[k]? = some xs[k] := gEg hk1
   by_cases h32 : (nums ls[k]).length > 32
   ·simp (maxSteps:=9^9) (disch:=omega) only [BX, ↓reduceIte, nE, BM, BD, c_rMay_1, g1, g6, k0, hls.len, clt, hk1, dT, hls.idx hat, hel.isS.loadf, hel.isS.len, ints_len, show decide ((((nums ls[k]).length : Nat) : Int) > 32) = true from decide_eq_true (by omega)]
    exact ⟨_, rfl, _, W, hbk _, lr _, by rw [okC, show ls.any longL = true from List.any_eq_true.2 ⟨_, gmm hkl, decide_eq_true h32⟩, Bool.not_true, Bool.and_false], rfl⟩
   ·simp (maxSteps:=9^9) (disch:=omega) only [BX, ↓reduceIte, nE, BM, BD, c_rMay_1, g1, g3, g6, k0, hls.len, clt, hk1, dT, hls.idx hat, hel.isS.loadf, hel.isS.len, ints_len, show decide ((((nums ls[k]).length : Nat) : Int) > 32) = false from decide_eq_false (by omega), wadd1]
    refine ⟨k + 1, ⟨tt, tt, tt, by omega, tt, fun j hj hjk => ?_⟩, by omega, lr _⟩
    by_cases e1 : j = k
    ·subst e1; exact decide_eq_false h32
    ·exact gj j hj (by omega)
  ·obtain rfl : k = xs.length := by omega
   have hany : ls.any longL = false := by
    rw [List.any_eq_false]
    intro o ho
    obtain ⟨j, hj, rfl⟩ := List.getElem_of_mem ho
    rw [gj j hj (by omega)]; decide
   simp (maxSteps:=9^9) (disch:=omega) only [BX, ↓reduceIte, nE, BM, BD, c_rMay_1, g1, g6, k0, hls.len, clt, hk1, dF, show decide ((0 : Int) < 16) = true by decide]
   repeat (rw [guard_if]; simp (maxSteps:=9^9) (disch:=omega) only [BS, BC, ↓reduceIte, nE, BM, BD, nA, nL, g1, g3, k0, k1])
   refine pc (rSame_c hP _ 6 0 i nilMs hr (by simp) (by simp) (by omega) (fun o ho => by
    obtain ⟨j, hj, rfl⟩ := List.getElem_of_mem ho
    have := gj j hj (by omega)
    simpa [longL] using this)) ?_
   simp (maxSteps:=9^9) (disch:=omega) only [BS, BC, ↓reduceIte, nE]
   exact ⟨_, rfl, _, W, hbk _, lr _, by rw [okC, hany, show decide (ls.length ≤ 8) = true from decide_eq_true (by omega)]; rfl, rfl⟩
end Go.AL.S
