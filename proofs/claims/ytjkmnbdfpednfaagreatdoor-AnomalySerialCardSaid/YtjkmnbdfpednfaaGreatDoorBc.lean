/- What the program's functions do, part 3. Conditions: none. -/
import Derived.Test.YtjkmnbdfpednfaaGreatDoorBb
open Nat renaming reduceEqDiff → nE, reduceLeDiff → nL, reduceAdd → nA, reduceLT → nT, le_refl → lr
open List renaming getElem?_eq_getElem → gEg, length_map → lmp, getElem_mem → gmm, length_append → lap, length_cons → lcs, mem_singleton → msg, append_nil → apn, mem_append → map', take_length → tkl, map_cons → mcs, map_append → mpp, mem_map → mmp, any_eq_true → aet, length_replicate → lrp, take_add_one → tao, length_take → ltk, mem_filter → mfl
set_option maxRecDepth 100000
set_option maxHeartbeats 2000000
namespace Go.AL.S
open Go Go.AL Go.Proofs
def c_take : AC := (.r [.v 6 (.bool false),.v 7 (.int .i64 0)] (.seq (.block 0 (.r [.m 9 0,.u 10 (.call 57) 9,.u 11 (.un .not) 10,.m 8 11] (.cond (.t 8) (.r [.v 6 (.bool false),.v 7 (.int .i64 1)] .ret) (.r [.m 13 1,.p 14 (.bin .geq) [.t 13,.c (.int .u8 8)],.m 12 14] (.cond (.t 12) (.r [.v 6 (.bool false),.v 7 (.int .i64 2)] .ret) (.r [.m 16 2,.u 17 (.len 1 0) 16,.a 18 (.bin .gtr) 17 32,.m 15 18] (.cond (.t 15) (.r [.v 6 (.bool false),.v 7 (.int .i64 3)] .ret) (.r [.m 20 2,.u 21 (.call 58) 20,.m 19 21] (.cond (.t 19) (.r [.v 6 (.bool false),.v 7 (.int .i64 0)] .ret) (.r [.m 23 2,.m 24 0,.m 25 1,.u 26 .nilck 24,.u 27 (.fld 1) 26,.b 28 (.idxa 8 1) 27 25,.u 29 (.load false 1) 28,.b 30 (.call 59) 23 29,.m 22 30] (.cond (.t 22) (.r [.v 6 (.bool true),.v 7 (.int .i64 0)] .ret) (.r [.m 32 0,.m 33 1,.u 34 .nilck 32,.u 35 (.fld 1) 34,.b 36 (.idxa 8 1) 35 33,.u 37 (.load false 1) 36,.m 38 2,.b 39 (.call 59) 37 38,.m 31 39] (.cond (.t 31) (.seq (.par (.step 0 (.m 40 0) (.step 1 (.m 41 1) (.step 2 (.m 42 2) (.step 4 (.u 44 .nilck 40) (.step 5 (.u 45 (.fld 1) 44) (.step 3 (.u 43 (.call 56) 42) (.step 6 (.b 46 (.idxa 8 1) 45 41) (.step 7 ⟨none,.store 1, [.t 46,.t 43], none⟩ .done))))))))) (.r [.v 6 (.bool true),.v 7 (.int .i64 0)] .ret)) .skip))))))))))))) (.r [.v 6 (.bool false),.v 7 (.int .i64 0)] .ret)))
theorem Zn : compF Tryz.prog Tryz.f33 ⟨false, false, []⟩ = some (c_take, [.tmp 6, .tmp 7], 47) := by kernel_rfl
variable {E : Env}
def oV (l : List Int) : V := if l = [] then .nilsl else .sl 1 false (intsV l)
theorem Et (l : List Int) : isS 1 (oV l) (intsV l) := by
 unfold oV
 split
 ·rename_i h; subst h; exact .nil
 ·exact .mk
theorem oV_clone (l : List Int) : cloneV 1 (oV l) = oV l := by
 unfold oV
 split
 ·rfl
 ·cases l with
  | nil => contradiction
  | cons a l => rfl
abbrev Ods := List (List Int)
structure Od (W : AW) (q : Nat) (o : Ods) : Prop where
 hq : W.get q = some (.row (.bool true :: o.map oV))
 len : o.length = 8
 lq : q < W.nx
 ok : ∀ l ∈ o, l.length ≤ 32 ∧ ∀ n ∈ l, 0 ≤ n ∧ n < 65536
theorem Od.ex {W W1 : AW} {q : Nat} {o : Ods} (h : Od W q o) (x : Ex W W1) : Od W1 q o := by
 have := x.nx
 have := h.lq
 exact ⟨by rw [x.get _ h.lq]; exact h.hq, h.len, by omega, h.ok⟩
def keyO (o : Ods) (k : Int) : List Int := if k ≥ 8 then [] else o.getD k.toNat []
theorem Fw {W : AW} {q : Nat} {o : Ods} (h : Od W q o) (k : Int) : (keyO o k).length ≤ 32 ∧ ∀ n ∈ keyO o k, 0 ≤ n ∧ n < 65536 := by
 unfold keyO
 split
 ·simp
 ·by_cases hk : k.toNat < o.length
  ·rw [List.getD_eq_getElem?_getD, gEg hk]; exact h.ok _ (gmm hk)
  ·rw [List.getD_eq_getElem?_getD, List.getElem?_eq_none (by omega)]; simp
theorem Hh {W : AW} {K : V → AW → Prop} {n s r off : Nat} {k : IntKind} {i : Int} : sem E (.idxa n s) [.ptr r off, .int k i] W K = if 0 ≤ i ∧ i < n then K (.ptr r (off + i.toNat * s)) W else False := by
 by_cases h : 0 ≤ i ∧ i < n
 ·simp [sem, rsem, tsem, h]
 ·simp only [sem, rsem, tsem, h, if_false]
theorem newO_c (hP : PE E) (W : AW) : ACalls E 28 [] W fun Y W' => ∃ q, Y = .ptr q 0 ∧ Od W' q [[], [], [], [], [], [], [], []] ∧ Ex W W' ∧ W.nx ≤ q := by
 refine ACalls.of hP Tryz.func28 Zw (by simp) fun _ hok => ?_
 refine Af hok ?_
 simp only [c_newO, BZ, ↓reduceIte, BM, BD, nA, nL]
 refine ⟨_, rfl, _, _, .weak Ab, by simp [X], rf W.nx 0, rfl, ⟨?_, rfl, by simp [X, rf], by simp⟩, Ex.x0, by simp [rf]⟩
 simp only [BC, BM]; rfl
theorem isO_c (hP : PE E) (W : AW) {q : Nat} {o : Ods} (h : Od W q o) : ACalls E 57 [.ptr q 0] W fun Y W' => Y = .bool true ∧ W' = W := by
 refine ACalls.of hP Tryz.func57 ok_isOe (by simp) fun _ hok => ?_
 simp only [c_isO, BZ, Aa, ↓reduceIte, nE, reduceCtorEq, BM, BD, h.hq]
 exact ⟨_, rfl, _, _, .weak Ab, lr _, rfl, rfl⟩
theorem Od.at {W : AW} {q : Nat} {o : Ods} (h : Od W q o) {k : Int} (h0 : 0 ≤ k) (h8 : ¬ k ≥ 8) : (V.bool true :: o.map oV)[1 + k.toNat * 1]? = some (oV (keyO o k)) := by
 have hl := h.len
 rw [show 1 + k.toNat * 1 = k.toNat + 1 by omega, List.getElem?_cons_succ, keyO, if_neg h8]
 have hk : k.toNat < o.length := by omega
 rw [List.getD_eq_getElem?_getD, gEg hk]
 simp [hk]
theorem Kj (hP : PE E) (W : AW) {q : Nat} {o : Ods} (h : Od W q o) (k : Int) (h0 : 0 ≤ k) (h1 : k < 256) :
  ACalls E 97 [.ptr q 0, .int .u8 k] W fun Y W' => Y = oV (keyO o k) ∧ W' = W := by
 refine ACalls.of hP Tryz.func97 R5 (by simp) fun _ hok => ?_
 simp only [c_orderO, BZ, ↓reduceIte, reduceCtorEq]
 refine pc (isO_c hP W h) ?_
 by_cases h8 : k ≥ 8
 ·simp only [BX, Aa, ↓reduceIte, nE, BD, decide_eq_true h8]
  exact ⟨_, rfl, _, _, .weak Ab, lr _, by simp [keyO, h8, oV], rfl⟩
 ·have hb : (0 ≤ k ∧ k < ((8 : Nat) : Int)) = True := by simp; omega
  simp only [BX, Aa, ↓reduceIte, nE, reduceCtorEq, BM, BD, decide_eq_false h8, Hh, hb, h.hq, h.at h0 h8]
  exact ⟨_, rfl, _, _, .weak Ab, lr _, (Et _).frz, rfl⟩
theorem of_c' (hP : PE E) (W : AW) {q : Nat} {o : Ods} (h : Od W q o) (k : Int) (h0 : 0 ≤ k) (h1 : k < 256) :
  ACalls E 72 [.ptr q 0, .int .u8 k] W fun Y W' => Y = oV (keyO o k) ∧ W' = W := by
 refine ACalls.of hP Tryz.func72 ok_ofe (by simp) fun _ hok => ?_
 simp only [c_of, BZ, ↓reduceIte, nE, reduceCtorEq]
 refine pc (Kj hP W h k h0 h1) ?_
 have hl := (Fw h k).1
 simp only [BS, BC, ↓reduceIte, (Et _).frz]
 refine pc (D0 hP W _ _ (Et _) (Dc _ _) (by rw [Ak]; omega)) ?_
 rw [oV_clone]
 simp only [BS, BC, ↓reduceIte, (Et _).frz]
 exact ⟨_, rfl, _, _, .weak Ab, lr _, rfl, rfl⟩
theorem at_c (hP : PE E) (W : AW) {q : Nat} {o : Ods} (h : Od W q o) (k : Int) (h0 : 0 ≤ k) (h1 : k < 256) (n : Nat) :
  ACalls E 74 [.ptr q 0, .int .u8 k, .int .i64 n] W fun Y W' => Y = .tuple [.int .u16 ((keyO o k)[n]?.getD 0), .bool (decide (n < (keyO o k).length))] ∧ W' = W := by
 refine ACalls.of hP Tryz.func74 ok_ate (by simp) fun _ hok => ?_
 simp only [c_at, BZ, ↓reduceIte, nE, reduceCtorEq]
 refine pc (Kj hP W h k h0 h1) ?_
 have hs := Et (keyO o k)
 have hn0 : decide ((n : Int) < 0) = false := by simp
 by_cases hn : n < (keyO o k).length
 ·simp only [BX, Aa, ↓reduceIte, nE, BM, hn0, hs.len, Ak, cge, show decide (n ≥ (keyO o k).length) = false by simp; omega, hs.idx (Cc hn)]
  exact ⟨_, rfl, _, _, .weak Ab, lr _, by simp [hn], rfl⟩
 ·simp only [BX, Aa, ↓reduceIte, nE, hn0, hs.len, Ak, cge, show decide (n ≥ (keyO o k).length) = true by simp; omega]
  exact ⟨_, rfl, _, _, .weak Ab, lr _, by simp [hn], rfl⟩
def takeR (o : Ods) (k : Int) (l : List Int) : Ods × Bool × Int :=
 if k ≥ 8 then (o, false, 2) else if l.length > 32 then (o, false, 3) else if twiceB l = true then (o, false, 0) else
 if begins l (keyO o k) = true then (o, true, 0) else if begins (keyO o k) l = true then (o.set k.toNat l, true, 0) else (o, false, 0)
theorem Od.set {W : AW} {q : Nat} {o : Ods} (h : Od W q o) {k : Nat} {l : List Int} (hl : l.length ≤ 32) (hr : ∀ n ∈ l, 0 ≤ n ∧ n < 65536) : Od (W.put q (.row (.bool true :: (o.set k l).map oV))) q (o.set k l) := by
 refine ⟨put_at, by rw [List.length_set]; exact h.len, h.lq, fun x hx => ?_⟩
 rcases List.mem_or_eq_of_mem_set hx with hx | rfl
 ·exact h.ok x hx
 ·exact ⟨hl, hr⟩
theorem X3 {a b : List Int} (h1 : ¬ begins a b = true) (h2 : begins b a = true) : a ≠ [] := by
 rintro rfl
 simp [begins] at h1
theorem take_c (hP : PE E) (W : AW) {q : Nat} {o : Ods} (h : Od W q o) (k : Int) (h0 : 0 ≤ k) (h1 : k < 256) {v : V} {l : List Int} (hv : isS 1 v (intsV l)) (hl : l.length < 2 ^ 40) (hr : ∀ n ∈ l, 0 ≤ n ∧ n < 65536) :
  ACalls E 33 [.ptr q 0, .int .u8 k, v] W fun Y W' => Y = .tuple [.bool (takeR o k l).2.1, .int .i64 (takeR o k l).2.2] ∧ Od W' q (takeR o k l).1 ∧ W'.nx = W.nx ∧ ∀ x, x ≠ q → W'.get x = W.get x := by
 refine ACalls.of hP Tryz.func33 Zn (by simp) fun _ hok => ?_
 have h32 : decide ((l.length : Int) > 32) = decide (l.length > 32) := by simp; omega
 simp only [c_take, BZ, ↓reduceIte, reduceCtorEq]
 refine pc (isO_c hP W h) ?_
 by_cases h8 : k ≥ 8
 ·have e : takeR o k l = (o, false, 2) := by simp [takeR, h8]
  simp only [BX, ↓reduceIte, nE, BD, decide_eq_true h8]
  exact ⟨_, rfl, _, _, .weak Ab, lr _, by rw [e], by rw [e]; exact h, rfl, fun _ _ => rfl⟩
 by_cases hc : l.length > 32
 ·have e : takeR o k l = (o, false, 3) := by simp [takeR, h8, hc]
  simp only [BX, ↓reduceIte, nE, BD, decide_eq_false h8, hv.len, Ak, h32, decide_eq_true hc]
  exact ⟨_, rfl, _, _, .weak Ab, lr _, by rw [e], by rw [e]; exact h, rfl, fun _ _ => rfl⟩
 simp only [BX, ↓reduceIte, nE, BD, decide_eq_false h8, hv.len, Ak, h32, decide_eq_false hc, hv.frz]
 refine pc (twice_c hP W hv hl) ?_
 cases ht : twiceB l
 case true =>
  have e : takeR o k l = (o, false, 0) := by simp [takeR, h8, hc, ht]
  simp only [BS, Am, Ad, ↓reduceIte, nE]
  exact ⟨_, rfl, _, _, .weak Ab, lr _, by rw [e], by rw [e]; exact h, rfl, fun _ _ => rfl⟩
 have hb : (0 ≤ k ∧ k < ((8 : Nat) : Int)) = True := by simp; omega
 have hks := Et (keyO o k)
 have hkl := (Fw h k).1
 simp only [BX, ↓reduceIte, nE, reduceCtorEq, BM, BD, Hh, hb, h.hq, h.at h0 h8, hv.frz, hks.frz]
 refine pc (H9 hP W hv hks hl) ?_
 cases hbg : begins l (keyO o k)
 case true =>
  have e : takeR o k l = (o, true, 0) := by simp [takeR, h8, hc, ht, hbg]
  simp only [BS, Am, Ad, ↓reduceIte, nE]
  exact ⟨_, rfl, _, _, .weak Ab, lr _, by rw [e], by rw [e]; exact h, rfl, fun _ _ => rfl⟩
 simp only [BX, ↓reduceIte, nE, reduceCtorEq, BM, BD, Hh, hb, h.hq, h.at h0 h8, hv.frz, hks.frz]
 refine pc (H9 hP W hks hv (by omega)) ?_
 cases hbk : begins (keyO o k) l
 case false =>
  have e : takeR o k l = (o, false, 0) := by simp [takeR, h8, hc, ht, hbg, hbk]
  simp only [BX, ↓reduceIte, nE]
  exact ⟨_, rfl, _, _, .weak Ab, lr _, by rw [e], by rw [e]; exact h, rfl, fun _ _ => rfl⟩
 have e : takeR o k l = (o.set k.toNat l, true, 0) := by simp [takeR, h8, hc, ht, hbg, hbk]
 have hne : l ≠ [] := X3 (by simp [hbg]) hbk
 have hcl : cloneV 1 v = oV l := by
  rcases hv with ⟨_, hx⟩ | ⟨_, hx⟩ | ⟨f, rfl⟩
  ·simp [intsV] at hx; exact absurd hx hne
  ·simp [intsV] at hx; exact absurd hx hne
  ·cases l with
   | nil => exact absurd rfl hne
   | cons a l => simp [cloneV, oV, intsV]
 simp only [BX, ↓reduceIte, nE, reduceCtorEq, BD, hv.frz]
 refine pc (D0 hP W _ _ hv (Dc _ _) (by rw [Ak]; omega)) ?_
 rw [hcl]
 have hlen := h.len
 have hk8 : k.toNat < o.length := by omega
 have hset : List.take (1 + k.toNat * 1) (V.bool true :: o.map oV) ++ [oV l] ++ List.drop (1 + k.toNat * 1 + 1) (V.bool true :: o.map oV) = V.bool true :: (o.set k.toNat l).map oV := by
  rw [show 1 + k.toNat * 1 = k.toNat + 1 by omega, List.take_succ_cons, List.drop_succ_cons, List.map_set, List.set_eq_take_append_cons_drop, if_pos (by simpa using hk8)]
  simp
 have hle : 1 + k.toNat * 1 + 1 ≤ (V.bool true :: o.map oV).length := by simp; omega
 simp only [BS, Am, ↓reduceIte, nE, BM, BD, nL, Hh, hb, h.hq, (Et l).cells, (Et l).one]
 have hset' : List.take (1 + k.toNat * 1) (V.bool true :: o.map oV) ++ [oV l] ++ List.drop (1 + k.toNat * 1) (o.map oV) = V.bool true :: (o.set k.toNat l).map oV := hset
 rw [if_pos (by simp; omega), hset']
 have hO := h.set (k := k.toNat) (l := l) (by omega) hr
 refine ⟨_, rfl, _, _, .weak Ab, lr _, by rw [e], by rw [e]; exact hO, rfl, fun x hx => put_ne hx⟩
def c_alive : AC := (.r [.u 1 .box 0,.v 2 (.bool false)] (.r [.u 3 (.fld 4) 1,.u 4 (.load false 1) 3,.p 5 (.bin .neq) [.t 4,.c (.int .u8 2)],.m 2 5] .ret))
theorem Xd : compF Tryz.prog Tryz.f42 ⟨false, false, []⟩ = some (c_alive, [.tmp 2], 6) := by kernel_rfl
def c_reads_0 : AC := (.r [.b 12 (.bin .lss) 11 10] (.seq (.w 12 0) (.seq (.block 1 (.r [.b 13 (.idxp 3) 9 11,.u 14 (.load true 3) 13,.p 4 (.alloc [.bool false,.int .u8 0,.int .u16 0]) [],⟨none,.store 3, [.t 4,.t 14], none⟩] (.r [.u 15 (.fld 0) 4,.u 16 (.load false 1) 15,.m 17 16,.M 18 2 17 true,.U 19 (.len 1 0) 18 17 true,.U 20 (.fld 3) 1 17 true,.U 21 (.load false 1) 20 17 true,.U 22 (.len 1 0) 21 17 true,.B 23 (.bin .lss) 19 22 17 true,.p 24 .pick [.t 17,.t 23,.F]] (.cond (.t 24) (.par (.step 0 (.m 25 2) (.step 1 (.u 26 (.fld 1) 4) (.step 3 (.u 28 (.fld 3) 1) (.step 5 (.m 30 2) (.step 2 (.u 27 (.load false 1) 26) (.step 4 (.u 29 (.load false 1) 28) (.step 6 (.u 31 (.len 1 0) 30) (.step 7 (.b 32 (.idxp 1) 29 31) (.step 8 (.u 33 (.load false 1) 32) (.step 9 (.u 34 (.pcall 56) 33) (.step 10 (.b 35 (.build [.int .u8 0,.nilsl] [(0, 1), (1, 1)]) 27 34) (.step 11 (.u 36 (.bslice 2 1 (.agg [.int .u8 0,.nilsl]) [0]) 35) (.step 12 (.b 37 (.append 2 32) 25 36) (.step 13 (.m 2 37) .done))))))))))))))) .skip)))) (.reg [.a 38 (.bin .add) 11 1,.m 11 38]))))
def c_reads : AC := (.r [.u 1 .box 0,.v 2 (.nilsl)] (.seq (.r [.u 5 (.fld 4) 1,.u 6 (.load false 1) 5,.p 7 (.bin .neq) [.t 6,.c (.int .u8 1)]] (.cond (.t 7) (.r [.v 2 (.nilsl)] .ret) .skip)) (.seq (.r [.u 8 (.fld 2) 1,.u 9 (.load false 1) 8,.u 10 (.len 1 0) 9,.v 11 (.int .i64 0)] (.block 0 (.loop c_reads_0))) (.r [.m 39 2,.m 2 39] .ret))))
theorem Wm : compF Tryz.prog Tryz.f32 ⟨false, false, []⟩ = some (c_reads, [.tmp 2], 40) := by kernel_rfl
theorem J2 (hP : PE E) (W : AW) (t : Tx) : ACalls E 42 [t.V] W fun Y W' => Y = .bool (decide (t.st ≠ 2)) ∧ W' = W := by
 refine ACalls.of hP Tryz.func42 Xd (by simp) fun _ hok => ?_
 refine Af hok ?_
 simp only [c_alive, BZ, ↓reduceIte, nE, BM, BD, Tx.V, Dl]
 exact ⟨_, rfl, _, W, Ap hok rfl, lr _, rfl, rfl⟩
def nowG (W : AW) (h : V) (xs : List V) (s lo : Nat) : Prop := (h = .nilsl ∧ xs = []) ∨ ∃ r, lo ≤ r ∧ r < W.nx ∧ h = .buf true r s xs.length ∧ xs ≠ [] ∧ W.get r = some (.buf true s xs)
def nowGS (s : Nat) (xs : List V) : V := if xs = [] then .nilsl else .sl s false xs
theorem Cr (s : Nat) (xs : List V) : isS s (nowGS s xs) xs := by
 unfold nowGS
 split
 ·rename_i h; subst h; exact .nil
 ·exact .mk
theorem nowG.frz {W : AW} {h : V} {xs : List V} {s lo : Nat} (hn : nowG W h xs s lo) : W.frz h = nowGS s xs := by
 rcases hn with ⟨rfl, rfl⟩ | ⟨r, _, _, rfl, hne, hg⟩
 ·rfl
 ·have he : xs.isEmpty = false := by cases xs <;> simp_all
  simp [AW.frz, hg, nowGS, hne]
theorem nowG.len {W W1 : AW} {K : V → AW → Prop} {h : V} {xs : List V} {s lo n : Nat} (hn : nowG W h xs s lo) : sem E (.len 1 n) [h] W1 K = K (.int .i64 xs.length) W1 := by
 rcases hn with ⟨rfl, rfl⟩ | ⟨r, _, _, rfl, hne, hg⟩ <;> rfl
theorem nowG.to {W W' : AW} {h : V} {xs : List V} {s lo : Nat} (hn : nowG W h xs s lo) (hx : W.nx ≤ W'.nx) (hg : ∀ r, lo ≤ r → r < W.nx → (∃ ys, W.get r = some (.buf true s ys)) → W'.get r = W.get r) : nowG W' h xs s lo := by
 rcases hn with ⟨rfl, rfl⟩ | ⟨r, h1, h2, h3, h4, h5⟩
 ·exact .inl ⟨rfl, rfl⟩
 ·exact .inr ⟨r, h1, by omega, h3, h4, by rw [hg r h1 h2 ⟨_, h5⟩]; exact h5⟩
theorem Ia {W : AW} {K : V → AW → Prop} {h x : V} {xs : List V} {s lo by' : Nat} (hn : nowG W h xs s lo) (hC : Cl W) (hlo : lo ≤ W.nx) (hs : 0 < s) (hx : x.cells.all V.one = true) (hb : (xs.length + 1) * by' ≤ 2 ^ 46)
  (hK : ∀ h' W', nowG W' h' (xs ++ [x]) s lo → Cl W' → W.nx ≤ W'.nx → (∀ y, y < W.nx → (∀ ys, W.get y ≠ some (.buf true s ys)) → W'.get y = W.get y) → (∀ y, y < lo → W'.get y = W.get y) → K h' W') : sem E (.append s by') [h, .sl s true [x]] W K := by
 rcases hn with ⟨rfl, rfl⟩ | ⟨r, h1, h2, rfl, h4, h5⟩
 ·have e : sem E (.append s by') [.nilsl, .sl s true [x]] W K = K (.buf true W.nx s 1) (W.alloc (.buf true s [x])) := by
   simp [sem, elemsV, hs]
   intro; simp at hb; omega
  rw [e]
  refine hK _ _ (.inr ⟨W.nx, hlo, by rw [Ag]; omega, rfl, by simp, Ca⟩) ?_ (by rw [Ag]; omega) (fun y hy _ => Al hy) (fun y hy => Al (by omega))
  intro y hy
  rw [Ag] at hy
  rw [Cq, if_neg (by omega)]
  exact hC y (by omega)
 ·have e : sem E (.append s by') [.buf true r s xs.length, .sl s true [x]] W K = K (.buf true r s (xs.length + 1)) (W.put r (.buf true s (xs ++ [x]))) := by
   simp only [sem, elemsV, if_true, h5, lcs, List.length_nil, Nat.zero_add, List.all_cons, List.all_nil, Bool.and_true, hx]
   exact propext ⟨fun h => h.2.2.2.2.2.2.2, fun h => ⟨hs, tt, tt, tt, tt, hb, tt, h⟩⟩
  rw [e]
  refine hK _ _ (.inr ⟨r, h1, by rw [Ae]; exact h2, by simp, by simp, put_at⟩) (hC.put h2) (by rw [Ae]; omega) (fun y hy hne => put_ne ?_) (fun y hy => put_ne (by omega))
  rintro rfl; exact hne _ h5
def rdV (r : Int × Option (List Int)) : V := .agg [.int .u8 r.1, elV r.2]
def rkeys (l : List Mi) : List Int := (l.filter (·.read)).map (·.key)
def readsR (t : Tx) : List (Int × Option (List Int)) := if t.st ≠ 1 then [] else (rkeys t.ms).zip t.ls
theorem Rp {l : List Mi} {k : Nat} (h : k < l.length) : rkeys (l.take (k + 1)) = rkeys (l.take k) ++ (if l[k].read = true then [l[k].key] else []) := by
 rw [tao, gEg h]
 simp only [rkeys, Option.toList_some, List.filter_append, mpp]
 cases hr : l[k].read <;> simp [hr]
theorem We (l : List Mi) : (rkeys l).length ≤ l.length := by simp only [rkeys, lmp]; exact List.length_filter_le _ _
theorem Ot {α β : Type} : ∀ {l : List α} {a : α} {m : List β} (_ : (l.zip m).length < m.length) (h : l.length < m.length), (l ++ [a]).zip m = l.zip m ++ [(a, m[l.length])]
 | [], a, b :: m, _, _ => by simp
 | x :: l, a, [], h, _ => by simp at h
 | x :: l, a, b :: m, h, h' => by
  have := Ot (l := l) (a := a) (m := m) (by simpa using h) (by simpa using h')
  simpa using this
theorem Ou {α β : Type} : ∀ {l : List α} {a : α} {m : List β}, m.length ≤ l.length → (l ++ [a]).zip m = l.zip m
 | _, _, [], _ => by simp
 | [], _, _ :: _, h => by simp at h
 | x :: l, a, b :: m, h => by
  have := Ou (l := l) (a := a) (m := m) (by simpa using h)
  simpa using this
theorem Mq (o : Option (List Int)) : (elV o).cells = [elV o] := (Cm o).isS.cells
theorem elV_one (o : Option (List Int)) : (elV o).one = true := (Cm o).isS.one
theorem Xw (o : Option (List Int)) : cloneV 1 (elV o) = elV o := by
 cases o with
 | none => rfl
 | some l => cases l <;> rfl
theorem bs2 {W : AW} {K : V → AW → Prop} {r : Int × Option (List Int)} : sem E (.bslice 2 1 (.agg [.int .u8 0, .nilsl]) [0]) [.agg [.int .u8 r.1, elV r.2]] W K = K (.sl 2 true [rdV r]) W := by
 simp [sem, rsem, tsem, fillE, V.cells, rdV]
theorem bs2' {W : AW} {K : V → AW → Prop} {a : Int} {o : Option (List Int)} : sem E (.bslice 2 1 (.agg [.int .u8 0, .nilsl]) [0]) [.agg [.int .u8 a, elV o]] W K = K (.sl 2 true [rdV (a, o)]) W := bs2 (r := (a, o))
theorem Y9 (r : Int × Option (List Int)) : (rdV r).cells.all V.one = true := by
 simp only [rdV, I2, List.all_cons, List.all_nil, Nf, elV_one, Bool.and_true]
theorem bel_rd (l : List (Int × Option (List Int))) (n : Nat) : V.belL n (l.map rdV) = true := by
 induction l with
 | nil => rfl
 | cons x l ih =>
  simp only [mcs, V.belL, Bool.and_eq_true]
  refine ⟨?_, ih⟩
  simp only [rdV, V.bel, V.belL, Vg, Bool.and_true]
theorem elV_frz {W : AW} (o : Option (List Int)) : W.frz (elV o) = elV o := by
 cases o with
 | none => rfl
 | some l => cases l <;> rfl
theorem Ay {W : AW} {K : V → AW → Prop} {f : FuncId} {vs ws : List V} {v : V} (hw : vs.map W.frz = ws) (h : ACalls E f ws W (fun X W' => X = v ∧ W' = W)) (hk : K v W) : sem E (.pcall f) vs W K := by
 subst hw; exact ⟨v, h, hk⟩
theorem Js (hP : PE E) (W : AW) {t : Tx} (ht : t.ok) : ACalls E 32 [t.V] W fun Y W' => Y = nowGS 2 ((readsR t).map rdV) ∧ W' = W := by
 refine ACalls.of hP Tryz.func32 Wm (by simp) fun _ hok => ?_
 refine Af hok ?_
 by_cases hst : t.st = 1
 ·have hms := De t.ms
  have hls : isS 1 (lsV t.ls) (t.ls.map elV) := by
   unfold lsV
   split
   ·rename_i h; rw [h]; exact .nil
   ·exact .mk
  have hml := ht.msl
  have hll := ht.lsl
  simp (disch:=omega) only [c_reads, BX, ↓reduceIte, nE, BM, BD, Tx.V, Dl, hst, show decide ((1 : Int) ≠ 1) = false by decide, hms.len, lmp]
  rw [Ai]
  refine alp (fun (k : Nat) A1 W1 => A1 1 = some (.ptr (rf W.nx 0) 0) ∧ A1 9 = some (msV t.ms) ∧ A1 10 = some (.int .i64 t.ms.length) ∧ A1 11 = some (.int .i64 k) ∧ k ≤ t.ms.length ∧ Cl W1 ∧ W.nx < W1.nx ∧ (∀ x, x < W.nx → W1.get x = W.get x) ∧ W1.get (rf W.nx 0) = some (.row [.int .u16 t.id, .int .u8 t.client, msV t.ms, lsV t.ls, .int .u8 1]) ∧
   ∃ h, A1 2 = some h ∧ nowG W1 h (((rkeys (t.ms.take k)).zip t.ls).map rdV) 2 (W.nx + 1)) (fun k => t.ms.length - k) 0
   ⟨rfl, rfl, rfl, rfl, Nat.zero_le _, Cl.X, by simp [X], fun x hx => Aj hx, by rw [Ao]; rfl, .nilsl, rfl, .inl ⟨rfl, rfl⟩⟩ ?_
  rintro k A1 W1 ⟨g1, g9, g10, g11, gk, gC, gn, gW, gr, h, g2, gh⟩ _
  have r0 : rf W.nx 0 = W.nx + 0 := rfl
  by_cases hk1 : k < t.ms.length
  ·have hrt := Rp hk1
   have hrl := We (t.ms.take k)
   have hrl' : (t.ms.take k).length ≤ k := by simp; omega
   have hzl : (((rkeys (t.ms.take k)).zip t.ls).map rdV).length = min (rkeys (t.ms.take k)).length t.ls.length := by simp
   refine Au gC ?_
   cases hm : (t.ms[k]).read with
   | false =>
    simp (disch:=omega) only [c_reads_0, BX, ↓reduceIte, nE, BM, BD, nA, nL, nT, g9, g10, g11, clt, hk1, dT, hms.idx (C5 hk1), Mi.V, hm]
    simp (disch:=omega) only [BS, BC, Aa, ↓reduceIte, nE, BM]
    simp (disch:=omega) only [BS, BC, Ad, ↓reduceIte, nE, BM, BD, g1, g2, g9, g10, g11, Ah]
    rw [hm, if_neg (by simp), apn] at hrt
    refine ⟨k + 1, ⟨tt, tt, tt, by simp, by omega, Cl.X, by show W.nx < W1.nx + 1; omega, fun x hx => (Aj (by omega)).trans (gW x hx), gr, h, rfl, ?_⟩, by omega, by show W.nx + 1 ≤ W1.nx + 1; omega⟩
    rw [hrt]
    exact gh.to (by show W1.nx ≤ W1.nx + 1; omega) (fun r _ hr _ => Aj hr)
   | true =>
    simp (disch:=omega) only [c_reads_0, BX, ↓reduceIte, nE, BM, BD, nA, nL, nT, g9, g10, g11, clt, hk1, dT, hms.idx (C5 hk1), Mi.V, hm]
    simp (disch:=omega) only [BS, BC, Aa, ↓reduceIte, nE, BM, BD, g1, g2, gr, gh.len, hls.len, clt, lmp]
    by_cases hlt : ((rkeys (t.ms.take k)).zip t.ls).length < t.ls.length
    ·simp (disch:=omega) only [BS, BC, Ad, ↓reduceIte, nE, BM, BD, g1, g2, gr, gh.len, lmp, hlt, dT]
     have hat : (t.ls.map elV)[((rkeys (t.ms.take k)).zip t.ls).length]? = some (elV t.ls[((rkeys (t.ms.take k)).zip t.ls).length]) := by rw [List.getElem?_map, gEg hlt]; rfl
     have ho := gmm hlt
     generalize hoe : t.ls[((rkeys (t.ms.take k)).zip t.ls).length] = o at hat ho
     simp (disch:=omega) only [BS, ↓reduceIte, BM, hls.idx hat, Mq]
     have hox : (nums o).length ≤ 32 := (ht.ls o ho).1
     have hzs := Ot (a := (t.ms[k]).key) hlt (by have := hlt; simp only [List.length_zip] at this; omega)
     refine Ay (v := elV o) (by rw [mcs, List.map_nil, elV_frz]) ?_ ?_
     ·have := D0 hP (X W1 W1.nx [.row [.bool true, .int .u8 t.ms[k].key, .int .u16 t.ms[k].v]]) (elV o) _ (Cm o).isS (Dc _ _) (by rw [Ak]; omega)
      rw [Xw] at this
      exact this
     simp (disch:=omega) only [BS, ↓reduceIte, nE, BM, BD, nA, nL, Mq, bs2']
     have hlen : ((rkeys (t.ms.take k)).zip t.ls).length = (rkeys (t.ms.take k)).length := by have := hlt; simp only [List.length_zip] at this ⊢; omega
     have hoo : t.ls[(rkeys (t.ms.take k)).length]'(by omega) = o := by rw [← hoe]; congr 1; exact hlen.symm
     rw [hoo] at hzs
     rw [hm, if_pos rfl] at hrt
     refine Ia (lo := W.nx + 1) (gh.to (by show W1.nx ≤ W1.nx + 1; omega) (fun r _ hr _ => Aj hr)) Cl.X (by show W.nx + 1 ≤ W1.nx + 1; omega) (by omega) (Y9 _) (by rw [lmp, hlen]; omega) ?_
     intro h' W' gh' gC' gx gk1 gk2
     simp (disch:=omega) only [BS, ↓reduceIte, nE, g1, g9, g10, g11, Ah]
     have gx' : W1.nx + 1 ≤ W'.nx := gx
     refine ⟨k + 1, ⟨tt, tt, tt, by simp, by omega, gC', by omega, fun x hx => (gk2 x (by omega)).trans ((Aj (by omega)).trans (gW x hx)), (gk2 _ (by omega)).trans ((Aj (by omega)).trans gr), h', rfl, ?_⟩, by omega, by show W.nx + 1 ≤ W'.nx; omega⟩
     rw [hrt, hzs, mpp]
     exact gh'
    ·simp (disch:=omega) only [BS, BC, Ad, ↓reduceIte, nE, BM, BD, g1, g2, g9, g10, g11, hlt, dF, Ah]
     rw [hm, if_pos rfl] at hrt
     have hov : ((rkeys (t.ms.take k)) ++ [(t.ms[k]).key]).zip t.ls = (rkeys (t.ms.take k)).zip t.ls := Ou (by simp at hlt; omega)
     refine ⟨k + 1, ⟨tt, tt, tt, by simp, by omega, Cl.X, by show W.nx < W1.nx + 1; omega, fun x hx => (Aj (by omega)).trans (gW x hx), gr, h, rfl, ?_⟩, by omega, by show W.nx + 1 ≤ W1.nx + 1; omega⟩
     rw [hrt, hov]
     exact gh.to (by show W1.nx ≤ W1.nx + 1; omega) (fun r _ hr _ => Aj hr)
  ·simp (disch:=omega) only [c_reads_0, BX, ↓reduceIte, nE, BM, BD, g2, g10, g11, clt, hk1, dF]
   have hke : k = t.ms.length := by omega
   subst hke
   rw [tkl] at gh
   rw [gh.frz]
   refine ⟨_, rfl, _, W, .weak (An hok ?_ gW), lr _, by simp only [readsR, hst]; rfl, rfl⟩
   unfold nowGS
   split
   ·rfl
   ·exact bel_rd _ _
 ·simp (disch:=omega) only [c_reads, BX, ↓reduceIte, nE, BM, BD, Tx.V, Dl, show decide (t.st ≠ 1) = true by simp [hst]]
  exact ⟨_, rfl, _, W, Ap hok rfl, lr _, by simp [readsR, hst, nowGS], rfl⟩
def c_writer : AC := (.r [.u 3 .box 0,.v 6 (.int .u16 0),.v 7 (.bool false)] (.r [.u 11 (.fld 0) 3,.u 12 (.load false 1) 11,.m 13 1,.m 14 2,.p 15 (.call 73) [.t 12,.t 13,.t 14],.m 10 15,.u 16 (.ext 0) 10,.u 17 (.ext 1) 10,.p 8 (.alloc [.int .u16 0,.int .u8 0,.nilsl,.nilsl,.int .u8 0]) [],⟨none,.store 5, [.t 8,.t 16], none⟩,.m 9 17] (.seq (.par (.step 0 (.u 18 (.fld 0) 8) (.step 2 (.m 20 9) (.step 3 (.m 21 20) (.step 1 (.u 19 (.load false 1) 18) (.step 4 (.U 22 (.load true 5) 8 21 true) (.step 5 (.U 23 (.pcall 42) 22 21 true) (.step 6 (.p 24 .pick [.t 21,.t 23,.F]) (.step 7 (.m 6 19) (.step 8 (.m 7 24) .done)))))))))) .ret)))
theorem Rx : compF Tryz.prog Tryz.f67 ⟨false, false, []⟩ = some (c_writer, [.tmp 6, .tmp 7], 25) := by kernel_rfl
def c_edge : AC := (.r [.u 4 .box 0] (.r [.m 8 1,.m 9 2,.b 10 (.bin .neq) 8 9] (.cond (.t 10) (.par (.step 0 (.u 11 (.fld 2) 4) (.step 5 (.m 16 1) (.step 6 (.m 17 2) (.step 7 (.m 18 3) (.step 8 (.p 19 (.build [.int .u16 0,.int .u16 0,.int .u8 0] [(0, 1), (1, 1), (2, 1)]) [.t 16,.t 17,.t 18]) (.step 1 (.u 12 (.load false 1) 11) (.step 2 (.u 13 .nilck 12) (.step 3 (.u 14 (.fld 1) 13) (.step 4 (.u 15 (.load false 1) 14) (.alt (.step 9 (.b 20 (.lookup (true, [.i .u16,.i .u16,.i .u8]) (.int .i64 0) false) 15 19) (.step 10 (.a 21 (.bin .add) 20 1) (.step 11 (.b 22 (.ment (true, [.i .u16,.i .u16,.i .u8]) (.int .i64 0)) 15 19) (.step 12 (.u 23 (.ext 1) 22) (.step 13 ⟨none,.mest, [.t 15,.t 23,.t 21], none⟩ .done))))) (.step 11 (.b 22 (.ment (true, [.i .u16,.i .u16,.i .u8]) (.int .i64 0)) 15 19) (.step 12 (.u 23 (.ext 1) 22) (.step 9 (.b 20 (.lookup (true, [.i .u16,.i .u16,.i .u8]) (.int .i64 0) false) 15 19) (.step 10 (.a 21 (.bin .add) 20 1) (.step 13 ⟨none,.mest, [.t 15,.t 23,.t 21], none⟩ .done)))))))))))))))) .skip)))
theorem Z4 : compF Tryz.prog Tryz.f68 ⟨false, false, []⟩ = some (c_edge, [], 24) := by kernel_rfl
def bV (p o g : Nat) : V := .agg [.ptr p 0, .ptr o 0, .ptr g 0]
def wrR (s : Str) (k v : Int) : Int × Bool := match who s k v with
 | some t => (t.id, decide (t.st ≠ 2))
 | none => (0, false)
theorem Hr (hP : PE E) (W : AW) {p ra rw o g : Nat} {s : Str} (h : St W p ra rw s) (k v : Int) (h0 : 0 ≤ k) (h1 : k < 256) (h2 : 0 ≤ v) (h3 : v < 65536) :
  ACalls E 67 [bV p o g, .int .u8 k, .int .u16 v] W fun Y W' => Y = .tuple [.int .u16 (wrR s k v).1, .bool (wrR s k v).2] ∧ W' = W := by
 refine ACalls.of hP Tryz.func67 Rx (by simp [bV]) fun _ hok => ?_
 refine Af hok ?_
 simp only [c_writer, BZ, ↓reduceIte, nE, BM, BD, bV]
 refine pc (Tl hP _ (h.ex .x0) k v h0 h1 h2 h3) ?_
 cases hw : who s k v with
 | none =>
  simp only [BZ, Aa, ↓reduceIte, nE, BM, BD, nA, nL, nT, Ce, Cb, Option.isSome_none, Option.getD_none, Tx.V, Tx.zero]
  exact ⟨_, rfl, _, W, Ap hok rfl, lr _, by simp [wrR, hw], rfl⟩
 | some t =>
  have ht := h.ok.ok t (Hs hw).1
  simp only [BZ, Aa, ↓reduceIte, nE, BM, BD, Nm, nA, nL, nT, Ce, Cb, Option.isSome_some, Option.getD_some, Tx.V]
  refine ⟨.bool (decide (t.st ≠ 2)), J2 hP _ t, ?_⟩
  simp only [BS]
  exact ⟨_, rfl, _, W, Ap hok rfl, lr _, by simp [wrR, hw], rfl⟩
theorem Sm {E : Env} {W : AW} {K : V → AW → Prop} {sh : Bool × List SK} {z key : V} {r c : Nat} {es : List En} {e : En} (h : W.get r = some (.map es c)) (hk : keysOk sh key es) (hf : findK key es = some e) :
  sem E (.ment sh z) [.map r, key] W K = K (.tuple [e.2.1, .int .i64 e.2.2]) W := by
 simp only [sem, h, hf]
 exact propext ⟨fun h => h.2, fun h => ⟨hk, h⟩⟩
theorem Sn {E : Env} {W : AW} {K : V → AW → Prop} {sh : Bool × List SK} {z key : V} {r c : Nat} {es : List En} (h : W.get r = some (.map es c)) (hk : keysOk sh key es) (hf : findK key es = none) :
  sem E (.ment sh z) [.map r, key] W K = K (.tuple [z, .int .i64 c]) (W.put r (.map (es ++ [(key, z, c)]) (c + 1))) := by
 simp only [sem, h, hf]
 exact propext ⟨fun h => h.2, fun h => ⟨hk, h⟩⟩
theorem m_mest {E : Env} {W : AW} {K : V → AW → Prop} {r c n : Nat} {ik : IntKind} {x : V} {es es' : List En} (h : W.get r = some (.map es c)) (hs : setS n x es = some es') :
  sem E .mest [.map r, .int ik n, x] W K = K .undef (W.put r (.map es' c)) := by
 simp only [sem, h, Int.toNat_natCast, hs]
 exact propext ⟨fun h => h.2, fun h => ⟨by omega, h⟩⟩
abbrev Ek := Int × Int × Int
def ekV (e : Ek) : V := .agg [.int .u16 e.1, .int .u16 e.2.1, .int .u8 e.2.2]
def gFrom : Nat → List (Ek × Int) → List En
 | _, [] => []
 | n, x :: l => (ekV x.1, .int .i64 x.2, n) :: gFrom (n + 1) l
def getE (l : List (Ek × Int)) (k : Ek) : Option Int := (l.find? fun x => decide (x.1 = k)).map (·.2)
def setE (l : List (Ek × Int)) (k : Ek) (c : Int) : List (Ek × Int) := match l with
 | [] => []
 | x :: l => if x.1 = k then (k, c) :: l else x :: setE l k c
theorem S1 (l : List (Ek × Int)) (x : Ek × Int) : ∀ n, gFrom n (l ++ [x]) = gFrom n l ++ [(ekV x.1, .int .i64 x.2, n + l.length)] := by
 induction l with
 | nil => intro n; rfl
 | cons y l ih => intro n; simp only [List.cons_append, gFrom, ih, lcs]; rw [show n + 1 + l.length = n + (l.length + 1) by omega]
theorem Vh (a b : Ek) : (ekV a).keq (ekV b) = decide (b = a) := by
 obtain ⟨a1, a2, a3⟩ := a
 obtain ⟨b1, b2, b3⟩ := b
 rw [Bool.eq_iff_iff]
 simp only [ekV, V.keq, V.cells, V.eqs, V.eq1, Bool.and_true, D8, Bool.and_eq_true, decide_eq_true_eq, Prod.mk.injEq]
 constructor <;> (rintro ⟨h1, h2, h3⟩; exact ⟨h1.symm, h2.symm, h3.symm⟩)
theorem N2 (k : Ek) (l : List (Ek × Int)) : ∀ n, match getE l k with
  | some c => ∃ i, findK (ekV k) (gFrom n l) = some (ekV k, .int .i64 c, i) ∧ ∀ c', setS i (.int .i64 c') (gFrom n l) = some (gFrom n (setE l k c'))
  | none => findK (ekV k) (gFrom n l) = none := by
 have hi : ∀ (l : List (Ek × Int)) n i (v : V), i < n → setS i v (gFrom n l) = none := by
  intro l
  induction l with
  | nil => intro _ _ _ _; rfl
  | cons x l ih => intro n i v h; simp only [gFrom, setS]; rw [if_neg (by omega), ih _ _ _ (by omega)]; rfl
 have hge : ∀ (l : List (Ek × Int)) n e, findK (ekV k) (gFrom n l) = some e → n ≤ e.2.2 := by
  intro l
  induction l with
  | nil => intro _ _ h; cases h
  | cons x l ih =>
   intro n e h
   simp only [gFrom, findK] at h
   split at h
   ·cases h; exact lr _
   ·have := ih _ _ h; omega
 induction l with
 | nil => intro n; rfl
 | cons x l ih =>
  intro n
  by_cases hx : x.1 = k
  ·have : getE (x :: l) k = some x.2 := by simp [getE, hx]
   rw [this]
   refine ⟨n, ?_, fun c' => ?_⟩
   ·simp only [gFrom, findK, Vh, hx, dT, if_true]
   ·simp only [gFrom, setS, setE, hx, if_true]
  ·have : getE (x :: l) k = getE l k := by simp [getE, hx]
   rw [this]
   have h1 := ih (n + 1)
   have hf : findK (ekV k) (gFrom n (x :: l)) = findK (ekV k) (gFrom (n + 1) l) := by simp only [gFrom, findK, Vh, hx, dF, Bool.false_eq_true, if_false]
   rw [hf]
   cases hg : getE l k with
   | none => rw [hg] at h1; exact h1
   | some c =>
    rw [hg] at h1
    obtain ⟨i, h2, h3⟩ := h1
    have := hge _ _ _ h2
    refine ⟨i, h2, fun c' => ?_⟩
    simp only [gFrom, setS, setE, if_neg hx]
    rw [if_neg (by simp only at this; omega), h3]
    rfl
structure Ac where
 what : Int
 client : Int
 id : Int
 tx : V
 txl : List Mi
 rd : V
 rdl : List (Option (List Int))
def Ac.V (a : Ac) : V := .agg [.int .u8 a.what, .int .u8 a.client, .int .u16 a.id, a.tx, a.rd]
structure Ac.ok (a : Ac) : Prop where
 wh : 0 ≤ a.what ∧ a.what < 256
 cl : 0 ≤ a.client ∧ a.client < 256
 id : 0 ≤ a.id ∧ a.id < 65536
 tx : isMs a.tx a.txl
 rd : isLs a.rd a.rdl
 ms : ∀ m ∈ a.txl, m.ok
 ns : ∀ o ∈ a.rdl, ∀ n ∈ nums o, 0 ≤ n ∧ n < 65536
 bel : a.rd.bel 0 = true
theorem Ac.ok.rdS {a : Ac} (h : a.ok) : ∃ xs, isS 1 a.rd xs ∧ xs.length = a.rdl.length ∧ ∀ k (h : k < xs.length) (h' : k < a.rdl.length), isEl xs[k] a.rdl[k] := h.rd
def Ac.small (a : Ac) : Prop := a.txl.length ≤ 20 ∧ a.rdl.length ≤ 20 ∧ ∀ o ∈ a.rdl, (nums o).length ≤ 40
structure Nw (W W' : AW) (p ra rw : Nat) (s : Str) : Prop where
 st : St W' p ra rw s
 ex : Ex W W'
 hp : W.nx ≤ p
 ha : W.nx ≤ ra
 hw : W.nx ≤ rw
theorem Fr.cl {W W' : AW} {p ra rw : Nat} (h : Fr W W' p ra rw) (hC : Cl W) (hp : p < W.nx) (ha : ra < W.nx) (hw : rw < W.nx) : Cl W' := by
 intro x hx
 rw [h.nx] at hx
 rw [h.get x (by omega) (by omega) (by omega)]
 exact hC x hx
theorem Nw.exx {W W1 W2 : AW} {p ra rw : Nat} {s : Str} (h : Nw W W1 p ra rw s) (h2 : Ex W1 W2) : Nw W W2 p ra rw s := ⟨h.st.ex h2, h.ex.trans h2, h.hp, h.ha, h.hw⟩
theorem Tp {α : Type} {p : List α → Prop} (h0 : p []) (hs : ∀ l a, p l → p (l ++ [a])) (l : List α) : p l := by
 rw [← l.reverse_reverse]
 induction l.reverse with
 | nil => exact h0
 | cons a m ih => rw [List.reverse_cons]; exact hs _ _ ih
def bumpL (l : List (Ek × Int)) (k : Ek) : List (Ek × Int) := match getE l k with
 | some c => setE l k (c + 1)
 | none => l ++ [(k, 1)]
def tally (P : List Ek) : List (Ek × Int) := P.foldl bumpL []
theorem Fl (P : List Ek) (k : Ek) : tally (P ++ [k]) = bumpL (tally P) k := by simp [tally]
theorem getE_set {l : List (Ek × Int)} {k : Ek} {c0 c : Int} (h : getE l k = some c0) (e : Ek) : getE (setE l k c) e = if e = k then some c else getE l e := by
 induction l with
 | nil => simp [getE] at h
 | cons x l ih =>
  by_cases hx : x.1 = k
  ·simp only [setE, if_pos hx]
   by_cases he : e = k
   ·subst he; simp [getE]
   ·have h1 : ¬ k = e := fun h => he h.symm
    have h2 : ¬ x.1 = e := by rw [hx]; exact h1
    simp [getE, he, h1, h2]
  ·simp only [setE, if_neg hx]
   have h' : getE l k = some c0 := by simpa [getE, hx] using h
   have := ih h'
   by_cases he : x.1 = e
   ·have hek : ¬ e = k := by rw [← he]; exact hx
    simp [getE, he, hek]
   ·have e1 : ∀ l', getE (x :: l') e = getE l' e := fun l' => by simp [getE, he]
    rw [e1, e1, this]
theorem Qh {l : List (Ek × Int)} {k : Ek} (h : getE l k = none) (c : Int) (e : Ek) : getE (l ++ [(k, c)]) e = if e = k then some c else getE l e := by
 simp only [getE, List.find?_append] at h ⊢
 by_cases he : e = k
 ·subst he
  have : (l.find? fun x => decide (x.1 = e)) = none := by simpa using h
  rw [this]; simp
 ·have : ¬ k = e := fun h => he h.symm
  simp [he, this]
theorem Xt (l : List (Ek × Int)) (k e : Ek) : getE (bumpL l k) e = if e = k then some ((getE l k).getD 0 + 1) else getE l e := by
 unfold bumpL
 cases h : getE l k with
 | none => rw [Qh h]; simp
 | some c => rw [getE_set h]; simp
theorem Ln (P : List Ek) (e : Ek) : getE (tally P) e = if e ∈ P then some (P.count e : Int) else none := by
 refine Tp (p := fun P => getE (tally P) e = if e ∈ P then some (P.count e : Int) else none) ?_ (fun P k ih => ?_) P
 ·rfl
 ·skip
  rw [Fl, Xt]
  by_cases he : e = k
  ·subst he
   rw [ih]
   by_cases hm : e ∈ P
   ·simp [hm]
   ·simp [hm, List.count_eq_zero_of_not_mem hm]
  ·have : ¬ k = e := fun h => he h.symm
   rw [if_neg he, ih]
   simp [he, List.count_append, this]
def keysE (l : List (Ek × Int)) : List Ek := l.map (·.1)
theorem Qc (l : List (Ek × Int)) (k : Ek) (c : Int) : keysE (setE l k c) = keysE l := by
 induction l with
 | nil => rfl
 | cons x l ih =>
  simp only [setE]
  split
  ·rename_i h; simp [keysE, h]
  ·simp only [keysE, mcs] at ih ⊢; rw [ih]
theorem getE_mem {l : List (Ek × Int)} {k : Ek} : (getE l k).isSome = true ↔ k ∈ keysE l := by
 simp only [getE, keysE, Option.isSome_map, List.find?_isSome, mmp, decide_eq_true_eq]
theorem Ii (P : List Ek) (k : Ek) : k ∈ keysE (tally P) ↔ k ∈ P := by
 rw [← getE_mem, Ln]
 by_cases h : k ∈ P <;> simp [h]
theorem Lm (P : List Ek) : (tally P).length ≤ P.length := by
 refine Tp (p := fun P => (tally P).length ≤ P.length) ?_ (fun P k ih => ?_) P
 ·exact lr _
 ·skip
  rw [Fl]
  unfold bumpL
  cases h : getE (tally P) k with
  | some c =>
   have := congrArg List.length (Qc (tally P) k (c + 1))
   simp only [keysE, lmp] at this
   simp only [lap, lcs, List.length_nil]; omega
  | none => simp only [lap, lcs, List.length_nil]; omega
def edgeP (f t k : Int) : List Ek := if f = t then [] else [(f, t, k)]
def keyP (s : Str) (o : Ods) (k : Int) : List Ek := ((keyO o k).zip (keyO o k).tail).flatMap fun x => if (wrR s k x.1).2 = true ∧ (wrR s k x.2).2 = true then edgeP (wrR s k x.1).1 (wrR s k x.2).1 0 else []
abbrev Rd := Int × Option (List Int)
def countsR (s : Str) (o : Ods) (r : Rd) : Bool := begins (nums r.2) (keyO o r.1) && (nums r.2).all fun v => (who s r.1 v).isSome
def lastP (s : Str) (b : Int) (r : Rd) : List Ek := match (nums r.2).getLast? with
 | some v => if (wrR s r.1 v).2 = true then edgeP (wrR s r.1 v).1 b 1 else []
 | none => []
def nextP (s : Str) (o : Ods) (b : Int) (r : Rd) : List Ek := match (keyO o r.1)[(nums r.2).length]? with
 | some v => if (wrR s r.1 v).2 = true then edgeP b (wrR s r.1 v).1 2 else []
 | none => []
def readP (s : Str) (o : Ods) (b : Int) (r : Rd) : List Ek := lastP s b r ++ nextP s o b r
def txnP (s : Str) (o : Ods) (t : Tx) : List Ek := if t.st = 2 then [] else (readsR t).flatMap fun r => if countsR s o r = true then readP s o t.id r else []
def keysP (s : Str) (o : Ods) : List Ek := (List.range 8).flatMap fun (k : Nat) => keyP s o (k : Int)
def buildP (s : Str) (o : Ods) : List Ek := keysP s o ++ s.flatMap (txnP s o)
def nodesR (s : Str) : List Int := (s.filter fun t => decide (t.st ≠ 2)).map Tx.id
def takesR (o : Ods) : List Rd → Ods × Bool
 | [] => (o, true)
 | r :: l => ((takesR (takeR o r.1 (nums r.2)).1 l).1, ((takeR o r.1 (nums r.2)).2.1 && decide ((takeR o r.1 (nums r.2)).2.2 = 0)) && (takesR (takeR o r.1 (nums r.2)).1 l).2)
def w6 (a : Ac) : Int := a.what.tmod 6
def actG (s : Str) (o : Ods) (a : Ac) : Str × Ods × Int × Bool :=
 if w6 a = 2 ∨ w6 a = 3 then
  if (commitR s a.id a.rdl).2 = 0 then ((commitR s a.id a.rdl).1, (takesR o (readsR ((find (commitR s a.id a.rdl).1 a.id).getD Tx.zero))).1, 0, (takesR o (readsR ((find (commitR s a.id a.rdl).1 a.id).getD Tx.zero))).2)
  else ((commitR s a.id a.rdl).1, o, (commitR s a.id a.rdl).2, true)
 else if w6 a = 4 then ((endR s a.id 2).1, o, (endR s a.id 2).2, true)
 else if w6 a = 5 then ((endR s a.id 3).1, o, (endR s a.id 3).2, true)
 else ((beginR s a.client a.id a.txl).1, o, (beginR s a.client a.id a.txl).2, true)
theorem C7 {a b : List Int} : begins a b = true ↔ a <+: b := by
 simp only [begins, Bool.and_eq_true, decide_eq_true_eq]
 constructor
 ·rintro ⟨_, h⟩; rw [h]; exact List.take_prefix _ _
 ·intro h; exact ⟨h.length_le, List.prefix_iff_eq_take.1 h⟩
theorem Qd {o : Ods} (h8 : o.length = 8) {k : Int} (h0 : 0 ≤ k) (h1 : k < 8) (l : List Int) {j : Int} (j0 : 0 ≤ j) : keyO (o.set k.toNat l) j = if j = k then l else keyO o j := by
 unfold keyO
 by_cases hj : j ≥ 8
 ·have : ¬ j = k := by omega
  simp [hj, this]
 ·simp only [if_neg hj]
  by_cases e : j = k
  ·subst e
   rw [if_pos rfl, List.getD_eq_getElem?_getD, List.getElem?_set_self (by omega)]; rfl
  ·rw [if_neg e, List.getD_eq_getElem?_getD, List.getD_eq_getElem?_getD, List.getElem?_set_ne (by omega)]
theorem I6 {o : Ods} (h8 : o.length = 8) {k : Int} (h0 : 0 ≤ k) (l : List Int) : (takeR o k l).1.length = 8 ∧ (∀ j, 0 ≤ j → keyO o j <+: keyO (takeR o k l).1 j) ∧
  ((takeR o k l).2.1 = true → k < 8 ∧ l <+: keyO (takeR o k l).1 k) ∧ (∀ j, 0 ≤ j → keyO (takeR o k l).1 j = keyO o j ∨ (j = k ∧ keyO (takeR o k l).1 j = l)) := by
 unfold takeR
 by_cases c1 : k ≥ 8
 ·simp only [if_pos c1]; exact ⟨h8, fun j _ => List.prefix_refl _, by simp, fun j _ => by simp⟩
 simp only [if_neg c1]
 by_cases c2 : l.length > 32
 ·simp only [if_pos c2]; exact ⟨h8, fun j _ => List.prefix_refl _, by simp, fun j _ => by simp⟩
 simp only [if_neg c2]
 by_cases c3 : twiceB l = true
 ·simp only [if_pos c3]; exact ⟨h8, fun j _ => List.prefix_refl _, by simp, fun j _ => by simp⟩
 simp only [if_neg c3]
 by_cases c4 : begins l (keyO o k) = true
 ·simp only [if_pos c4]; exact ⟨h8, fun j _ => List.prefix_refl _, fun _ => ⟨by omega, C7.1 c4⟩, fun j _ => by simp⟩
 simp only [if_neg c4]
 by_cases c5 : begins (keyO o k) l = true
 ·simp only [if_pos c5]
  have hs := fun {j : Int} (j0 : 0 ≤ j) => Qd h8 h0 (by omega) l j0
  refine ⟨by rw [List.length_set]; exact h8, fun j j0 => ?_, fun _ => ⟨by omega, by rw [hs h0, if_pos rfl]; exact List.prefix_refl _⟩, fun j j0 => ?_⟩
  ·rw [hs j0]
   by_cases e : j = k
   ·subst e; rw [if_pos rfl]; exact C7.1 c5
   ·rw [if_neg e]; exact List.prefix_refl _
  ·rw [hs j0]
   by_cases e : j = k
   ·exact .inr ⟨e, by rw [if_pos e]⟩
   ·rw [if_neg e]; exact .inl rfl
 ·simp only [if_neg c5]; exact ⟨h8, fun j _ => List.prefix_refl _, by simp, fun j _ => by simp⟩
theorem Ha : ∀ {l : List Rd} {o : Ods}, o.length = 8 → (∀ r ∈ l, 0 ≤ r.1) → (takesR o l).1.length = 8 ∧ (∀ j, 0 ≤ j → keyO o j <+: keyO (takesR o l).1 j) ∧
  (∀ j, 0 ≤ j → keyO (takesR o l).1 j = keyO o j ∨ ∃ r ∈ l, r.1 = j ∧ nums r.2 = keyO (takesR o l).1 j) ∧
  ((takesR o l).2 = true → ∀ r ∈ l, r.1 < 8 ∧ nums r.2 <+: keyO (takesR o l).1 r.1)
 | [], o, h, _ => ⟨h, fun j _ => List.prefix_refl _, fun j _ => .inl rfl, by simp⟩
 | r :: l, o, h, hr => by
  obtain ⟨t1, t2, t3, t4⟩ := I6 h (hr r (by simp)) (nums r.2)
  obtain ⟨i1, i2, i3, i4⟩ := Ha (l := l) (o := (takeR o r.1 (nums r.2)).1) t1 (fun x hx => hr x (by simp [hx]))
  refine ⟨i1, fun j j0 => (t2 j j0).trans (i2 j j0), fun j j0 => ?_, fun ht x hx => ?_⟩
  ·rcases i3 j j0 with e | ⟨x, hx, e1, e2⟩
   ·rcases t4 j j0 with e' | ⟨e1, e2⟩
    ·exact .inl (e.trans e')
    ·refine .inr ⟨r, by simp, e1.symm, ?_⟩
     show nums r.2 = _
     exact e2.symm.trans e.symm
   ·exact .inr ⟨x, by simp [hx], e1, e2⟩
  ·simp only [takesR, Bool.and_eq_true] at ht
   rcases List.mem_cons.1 hx with rfl | hx
   ·obtain ⟨a, b⟩ := t3 ht.1.1
    exact ⟨a, b.trans (i2 _ (hr x (by simp)))⟩
   ·exact i4 ht.2 x hx
def mapId (s : Str) (i : Int) (f : Tx → Tx) : Str := s.map fun t => if t.id = i then f t else t
theorem Ey {s : Str} {i : Int} {f : Tx → Tx} (h : ∀ t ∈ s, t.id = i → f t = t) : mapId s i f = s := by
 unfold mapId
 conv => rhs; rw [← List.map_id s]
 refine List.map_congr_left fun t ht => ?_
 split
 ·rename_i e; exact h t ht e
 ·rfl
theorem Ig : ∀ {s : Str} {t x : Tx} {f : Tx → Tx}, (s.Pairwise fun a b => a.id < b.id) → t ∈ s → x.id = t.id → f t = x → upd s x = mapId s t.id f
 | [], _, _, _, _, h, _, _ => by simp at h
 | y :: s, t, x, f, hs, ht, hi, hf => by
  have hp := List.pairwise_cons.1 hs
  by_cases e : y.id = x.id
  ·have hy : y = t := by
    rcases List.mem_cons.1 ht with h | h
    ·exact h.symm
    ·have := hp.1 t h; omega
   subst hy
   have : mapId s y.id f = s := Ey fun z hz e' => by have := hp.1 z hz; omega
   simp only [upd, if_pos e, mapId, mcs, if_true] at this ⊢
   rw [this, hf]
  ·have ht' : t ∈ s := by
    rcases List.mem_cons.1 ht with h | h
    ·subst h; exact absurd hi.symm e
    ·exact h
   have := Ig hp.2 ht' hi hf
   have hne : ¬ y.id = t.id := by rw [← hi]; exact e
   simp only [upd, if_neg e, mapId, mcs, if_neg hne] at this ⊢
   rw [this]
theorem Fz {s : Str} {i j : Int} {f : Tx → Tx} (hf : ∀ t, (f t).id = t.id) : find (mapId s i f) j = (find s j).map fun t => if t.id = i then f t else t := by
 induction s with
 | nil => rfl
 | cons t s ih =>
  have hi : (if t.id = i then f t else t).id = t.id := by split <;> simp [hf]
  simp only [find, mapId, mcs, List.find?_cons, hi] at ih ⊢
  by_cases e : t.id = j
  ·simp [e]
  ·simp only [decide_eq_false e]; exact ih
def endT (st : Int) (t : Tx) : Tx := if t.st = 0 then { t with st := st } else t
def comT (ls : List (Option (List Int))) (t : Tx) : Tx := if t.st = 0 ∧ okC ls = true ∧ reads t.ms = ls.length then { t with st := 1, ls := ls } else t
theorem Vf (st : Int) (t : Tx) : (endT st t).id = t.id := by unfold endT; split <;> rfl
theorem G2 (ls : List (Option (List Int))) (t : Tx) : (comT ls t).id = t.id := by unfold comT; split <;> rfl
theorem E6 {s : Str} {i : Int} {t : Tx} (h : find s i = some t) : t ∈ s ∧ t.id = i := by
 have h1 := List.mem_of_find?_eq_some h
 have h2 := List.find?_some h
 exact ⟨h1, by simpa using h2⟩
theorem Ep {s : Str} (hs : s.Pairwise fun a b => a.id < b.id) {i : Int} {x : Tx} (hx : x ∈ s) (hi : x.id = i) : find s i = some x := by
 rw [← hi]; exact Iy hs hx
theorem K2 {s : Str} (hs : s.Pairwise fun a b => a.id < b.id) (i st : Int) : (endR s i st).1 = mapId s i (endT st) := by
 unfold endR
 cases hf : find s i with
 | none =>
  refine (Ey fun t ht e => ?_).symm
  rw [Ep hs ht e] at hf; cases hf
 | some t =>
  obtain ⟨h1, h2⟩ := E6 hf
  by_cases h0 : t.st = 0
  ·simp only [if_pos h0]
   rw [← h2]
   exact Ig (x := { t with st := st }) hs h1 rfl (by simp [endT, h0])
  ·simp only [if_neg h0]
   refine (Ey fun x hx e => ?_).symm
   rw [Ep hs hx e] at hf; cases hf
   simp [endT, h0]
theorem C6 {s : Str} (hs : s.Pairwise fun a b => a.id < b.id) (i : Int) (ls : List (Option (List Int))) : (commitR s i ls).1 = mapId s i (comT ls) := by
 unfold commitR
 cases hf : find s i with
 | none =>
  refine (Ey fun t ht e => ?_).symm
  rw [Ep hs ht e] at hf; cases hf
 | some t =>
  obtain ⟨h1, h2⟩ := E6 hf
  by_cases hc : t.st = 0 ∧ okC ls = true ∧ reads t.ms = ls.length
  ·obtain ⟨c1, c2, c3⟩ := hc
   simp only [if_pos c1, if_pos c2, if_pos c3]
   rw [← h2]
   exact Ig (x := { t with st := 1, ls := ls }) hs h1 rfl (by simp only [comT, if_pos (And.intro c1 (And.intro c2 c3))])
  ·have : (if t.st = 0 then (if okC ls = true then (if reads t.ms = ls.length then (upd s { t with st := 1, ls := ls }, (0 : Int)) else (s, 10)) else (s, 4)) else (s, 7)).1 = s := by
    by_cases c1 : t.st = 0
    ·by_cases c2 : okC ls = true
     ·by_cases c3 : reads t.ms = ls.length
      ·exact absurd ⟨c1, c2, c3⟩ hc
      ·simp only [if_pos c1, if_pos c2, if_neg c3]
     ·simp only [if_pos c1, if_neg c2]
    ·simp only [if_neg c1]
   simp only [this]
   refine (Ey fun x hx e => ?_).symm
   rw [Ep hs hx e] at hf; cases hf
   simp only [comT, if_neg hc]
theorem E0 {s : Str} {i : Int} {ls : List (Option (List Int))} : (commitR s i ls).2 = 0 ↔ ∃ t, find s i = some t ∧ t.st = 0 ∧ okC ls = true ∧ reads t.ms = ls.length := by
 unfold commitR
 cases hf : find s i with
 | none => simp
 | some t =>
  by_cases c1 : t.st = 0
  ·by_cases c2 : okC ls = true
   ·by_cases c3 : reads t.ms = ls.length
    ·simp [c1, c2, c3]
    ·simp [c1, c2, c3]
   ·simp [c1, c2]
  ·simp [c1]
def isEnd (a : Ac) : Prop := w6 a = 2 ∨ w6 a = 3 ∨ w6 a = 4 ∨ w6 a = 5
def gT (a : Ac) (t : Tx) : Tx := if w6 a = 2 ∨ w6 a = 3 then comT a.rdl t else if w6 a = 4 then endT 2 t else endT 3 t
theorem gT_id (a : Ac) (t : Tx) : (gT a t).id = t.id := by
 unfold gT
 split
 ·exact G2 _ _
 ·split <;> exact Vf _ _
def rdF (a : Ac) (x : Option Tx) : List Rd := match x with
 | some t => if (w6 a = 2 ∨ w6 a = 3) ∧ t.st = 0 ∧ okC a.rdl = true ∧ reads t.ms = a.rdl.length then readsR (comT a.rdl t) else []
 | none => []
theorem actG_end {s : Str} (hs : s.Pairwise fun a b => a.id < b.id) (o : Ods) {a : Ac} (ha : isEnd a) : (actG s o a).1 = mapId s a.id (gT a) ∧ (actG s o a).2.1 = (takesR o (rdF a (find s a.id))).1 ∧ (actG s o a).2.2.2 = (takesR o (rdF a (find s a.id))).2 := by
 unfold actG
 by_cases h1 : w6 a = 2 ∨ w6 a = 3
 ·have hg : gT a = comT a.rdl := by funext t; simp only [gT, if_pos h1]
  simp only [if_pos h1, hg]
  by_cases hc : (commitR s a.id a.rdl).2 = 0
  ·simp only [if_pos hc]
   obtain ⟨t, c1, c2, c3, c4⟩ := E0.1 hc
   have hti := (E6 c1).2
   have : find (commitR s a.id a.rdl).1 a.id = some (comT a.rdl t) := by
    rw [C6 hs, Fz (G2 _), c1]
    simp [hti]
   rw [this, C6 hs, c1]
   simp only [Option.getD_some, rdF, if_pos (And.intro h1 (And.intro c2 (And.intro c3 c4)))]
   exact ⟨tt, tt, tt⟩
  ·simp only [if_neg hc]
   have : rdF a (find s a.id) = [] := by
    unfold rdF
    cases hf : find s a.id with
    | none => rfl
    | some t =>
     simp only
     rw [if_neg]
     rintro ⟨_, c⟩
     exact hc (E0.2 ⟨t, hf, c⟩)
   rw [this, C6 hs]
   exact ⟨rfl, rfl, rfl⟩
 ·have hn : rdF a (find s a.id) = [] := by
   unfold rdF
   split
   ·rw [if_neg (fun c => h1 c.1)]
   ·rfl
  rw [hn]
  simp only [if_neg h1]
  by_cases h4 : w6 a = 4
  ·have hg : gT a = endT 2 := by funext t; simp only [gT, if_neg h1, if_pos h4]
   simp only [if_pos h4, K2 hs, hg]
   exact ⟨tt, rfl, rfl⟩
  ·have h5 : w6 a = 5 := by unfold isEnd at ha; omega
   have hg : gT a = endT 3 := by funext t; simp only [gT, if_neg h1, if_neg h4]
   simp only [if_neg h4, if_pos h5, K2 hs, hg]
   exact ⟨tt, rfl, rfl⟩
theorem Rl (o : Ods) (l m : List Rd) : takesR o (l ++ m) = ((takesR (takesR o l).1 m).1, (takesR o l).2 && (takesR (takesR o l).1 m).2) := by
 induction l generalizing o with
 | nil => simp [takesR]
 | cons r l ih => simp only [List.cons_append, takesR, ih, Bool.and_assoc]
theorem Rq {l : List Mi} {k : Int} (h : k ∈ rkeys l) : ∃ m ∈ l, m.key = k := by
 simp only [rkeys, mmp, mfl] at h
 obtain ⟨m, ⟨h1, _⟩, h2⟩ := h
 exact ⟨m, h1, h2⟩
theorem Dg {t : Tx} (h : ∀ m ∈ t.ms, m.ok) : ∀ r ∈ readsR t, 0 ≤ r.1 ∧ r.1 < 256 := by
 intro r hr
 unfold readsR at hr
 split at hr
 ·simp at hr
 ·obtain ⟨m, h1, h2⟩ := Rq (List.of_mem_zip (a := r.1) (b := r.2) hr).1
  rw [← h2]; exact ⟨(h m h1).1, (h m h1).2.1⟩
theorem Vm (ls : List (Option (List Int))) (t : Tx) : (comT ls t).ms = t.ms := by unfold comT; split <;> rfl
theorem Dy {f t k : Int} {x : Ek} : x ∈ edgeP f t k ↔ f ≠ t ∧ x = (f, t, k) := by
 unfold edgeP
 split
 ·rename_i h; simp [h]
 ·rename_i h; simp [h]
theorem mem_keyP {s : Str} {o : Ods} {k : Int} {x : Ek} : x ∈ keyP s o k ↔ ∃ u v, (u, v) ∈ (keyO o k).zip (keyO o k).tail ∧ (wrR s k u).2 = true ∧ (wrR s k v).2 = true ∧ (wrR s k u).1 ≠ (wrR s k v).1 ∧ x = ((wrR s k u).1, (wrR s k v).1, 0) := by
 simp only [keyP, List.mem_flatMap, Prod.exists]
 constructor
 ·rintro ⟨u, v, h1, h2⟩
  split at h2
  ·rename_i h3
   obtain ⟨h4, h5⟩ := Dy.1 h2
   exact ⟨u, v, h1, h3.1, h3.2, h4, h5⟩
  ·simp at h2
 ·rintro ⟨u, v, h1, h2, h3, h4, h5⟩
  exact ⟨u, v, h1, by rw [if_pos ⟨h2, h3⟩]; exact Dy.2 ⟨h4, h5⟩⟩
theorem L8 {s : Str} {b : Int} {r : Rd} {x : Ek} : x ∈ lastP s b r ↔ ∃ v, (nums r.2).getLast? = some v ∧ (wrR s r.1 v).2 = true ∧ (wrR s r.1 v).1 ≠ b ∧ x = ((wrR s r.1 v).1, b, 1) := by
 unfold lastP
 cases h : (nums r.2).getLast? with
 | none => simp
 | some v =>
  simp only [Option.some.injEq]
  constructor
  ·intro h2
   split at h2
   ·rename_i h3
    obtain ⟨h4, h5⟩ := Dy.1 h2
    exact ⟨v, rfl, h3, h4, h5⟩
   ·simp at h2
  ·rintro ⟨_, rfl, h3, h4, h5⟩
   rw [if_pos h3]; exact Dy.2 ⟨h4, h5⟩
theorem L7 {s : Str} {o : Ods} {b : Int} {r : Rd} {x : Ek} : x ∈ nextP s o b r ↔ ∃ v, (keyO o r.1)[(nums r.2).length]? = some v ∧ (wrR s r.1 v).2 = true ∧ b ≠ (wrR s r.1 v).1 ∧ x = (b, (wrR s r.1 v).1, 2) := by
 unfold nextP
 cases h : (keyO o r.1)[(nums r.2).length]? with
 | none => simp
 | some v =>
  simp only [Option.some.injEq]
  constructor
  ·intro h2
   split at h2
   ·rename_i h3
    obtain ⟨h4, h5⟩ := Dy.1 h2
    exact ⟨v, rfl, h3, h4, h5⟩
   ·simp at h2
  ·rintro ⟨_, rfl, h3, h4, h5⟩
   rw [if_pos h3]; exact Dy.2 ⟨h4, h5⟩
theorem mem_txnP {s : Str} {o : Ods} {t : Tx} {x : Ek} : x ∈ txnP s o t ↔ t.st ≠ 2 ∧ ∃ r ∈ readsR t, countsR s o r = true ∧ (x ∈ lastP s t.id r ∨ x ∈ nextP s o t.id r) := by
 unfold txnP
 by_cases h : t.st = 2
 ·simp [h]
 ·simp only [if_neg h, List.mem_flatMap]
  constructor
  ·rintro ⟨r, h1, h2⟩
   split at h2
   ·rename_i h3
    exact ⟨h, r, h1, h3, by simpa [readP] using h2⟩
   ·simp at h2
  ·rintro ⟨_, r, h1, h2, h3⟩
   exact ⟨r, h1, by rw [if_pos h2]; simpa [readP] using h3⟩
theorem Sj {s : Str} {o : Ods} {x : Ek} : x ∈ buildP s o ↔ (∃ k : Nat, k < 8 ∧ x ∈ keyP s o (k : Int)) ∨ ∃ t ∈ s, x ∈ txnP s o t := by
 simp only [buildP, keysP, map', List.mem_flatMap, List.mem_range]
theorem zip_pre {l l' : List Int} (h : l <+: l') {p : Int × Int} (hp : p ∈ l.zip l.tail) : p ∈ l'.zip l'.tail := by
 obtain ⟨m, rfl⟩ := h
 cases l with
 | nil => simp at hp
 | cons a l =>
  simp only [List.tail_cons, List.cons_append] at hp ⊢
  have hl : a :: (l ++ m) = (a :: l) ++ m := rfl
  obtain ⟨i, hi, rfl⟩ := List.mem_iff_getElem.1 hp
  simp only [List.length_zip, lcs] at hi
  refine List.mem_iff_getElem.2 ⟨i, by simp; omega, ?_⟩
  rw [List.getElem_zip, List.getElem_zip]
  have e1 : (a :: (l ++ m))[i]'(by simp; omega) = (a :: l)[i]'(by simp; omega) := by
   simp only [hl]; rw [List.getElem_append_left]
  have e2 : (l ++ m)[i]'(by simp; omega) = l[i]'(by omega) := by rw [List.getElem_append_left]
  rw [e1, e2]
theorem Ie {s : Str} {i k v : Int} {f : Tx → Tx} (hf : ∀ t, (f t).ms = t.ms) : who (mapId s i f) k v = (who s k v).map fun t => if t.id = i then f t else t := by
 induction s with
 | nil => rfl
 | cons t s ih =>
  have hi : S.has (if t.id = i then f t else t) k v = S.has t k v := by unfold S.has; split <;> simp [hf]
  simp only [who, mapId, mcs, List.find?_cons, hi] at ih ⊢
  cases S.has t k v with
  | true => rfl
  | false => exact ih
theorem who_app {s : Str} {t : Tx} {k v : Int} : who (s ++ [t]) k v = (who s k v).or (if S.has t k v = true then some t else none) := by
 unfold who
 rw [List.find?_append]
 congr 1
 simp only [List.find?_cons, List.find?_nil]
 cases S.has t k v <;> simp
theorem Ve (st : Int) (t : Tx) : (endT st t).ms = t.ms := by unfold endT; split <;> rfl
theorem Gb {t : Tx} (h : t.st ≠ 1) : readsR t = [] := by simp [readsR, h]
theorem Wg {t : Tx} {r : Rd} (h : r ∈ readsR t) : t.st = 1 := by
 refine Classical.byContradiction fun hn => ?_
 rw [Gb hn] at h; simp at h
end Go.AL.S
namespace Go.AL.SE
open Go Go.AL Go.AL.S Go.Proofs Go.Sort
structure Ed where
 fr : Int
 to : Int
 kd : Int
 deriving DecidableEq, Inhabited
def Ed.V (e : Ed) : V := .agg [.int .u16 e.fr, .int .u16 e.to, .int .u8 e.kd]
def sgn (a b : Int) : Int := if a < b then -1 else if a > b then 1 else 0
def cmpE (a b : Ed) : Int := if sgn a.fr b.fr ≠ 0 then sgn a.fr b.fr else if sgn a.to b.to ≠ 0 then sgn a.to b.to else sgn a.kd b.kd
instance : LT Ed := ⟨fun a b => cmpE a b < 0⟩
instance (a b : Ed) : Decidable (a < b) := inferInstanceAs (Decidable (cmpE a b < 0))
def ltE (a b : Ed) : Bool := decide (a < b)
theorem M5 {a b : Int} : sgn a b < 0 ↔ a < b := by unfold sgn; split <;> (try split) <;> omega
theorem Hu {a b : Int} : sgn a b = 0 ↔ a = b := by unfold sgn; split <;> (try split) <;> omega
theorem Nq {a b : Ed} : a < b ↔ a.fr < b.fr ∨ (a.fr = b.fr ∧ (a.to < b.to ∨ (a.to = b.to ∧ a.kd < b.kd))) := by
 show cmpE a b < 0 ↔ _
 unfold cmpE
 by_cases h1 : a.fr = b.fr
 ·have e1 : sgn a.fr b.fr = 0 := Hu.2 h1
  simp only [e1, ne_eq, not_true, if_false]
  by_cases h2 : a.to = b.to
  ·have e2 : sgn a.to b.to = 0 := Hu.2 h2
   simp only [e2, not_true, if_false, M5]
   omega
  ·have e2 : ¬ sgn a.to b.to = 0 := fun h => h2 (Hu.1 h)
   simp only [e2, not_false_iff, if_true, M5]
   omega
 ·have e1 : ¬ sgn a.fr b.fr = 0 := fun h => h1 (Hu.1 h)
  simp only [e1, ne_eq, not_false_iff, if_true, M5]
  omega
theorem ed_ext {a b : Ed} (h1 : a.fr = b.fr) (h2 : a.to = b.to) (h3 : a.kd = b.kd) : a = b := by
 cases a; cases b; simp at h1 h2 h3; simp [h1, h2, h3]
theorem Gs : SWO ltE where
 irrefl x := by simp only [ltE, decide_eq_false_iff_not, Nq]; omega
 trans x y z h1 h2 := by simp only [ltE, decide_eq_true_eq, Nq] at *; omega
 ntrans x y z h1 h2 := by simp only [ltE, decide_eq_false_iff_not, Nq] at *; omega
theorem Qa {a b : Ed} (h1 : ltE a b = false) (h2 : ltE b a = false) : a = b := by
 simp only [ltE, decide_eq_false_iff_not, Nq] at *
 exact ed_ext (by omega) (by omega) (by omega)
def cE (e : Ed) : List V := [.int .u16 e.fr, .int .u16 e.to, .int .u8 e.kd]
def cellsL (l : List Ed) : List V := l.flatMap cE
theorem Ho : ∀ l : List Ed, (cellsL l).length = l.length * 3
 | [] => rfl
 | e :: l => by
  have := Ho l
  simp only [cellsL, List.flatMap_cons, lap, cE, lcs, List.length_nil] at this ⊢
  omega
def cellsE (d : Array Ed) : List V := cellsL d.toList
def pv (W : AW) (r : Nat) (d : Array Ed) : AW := W.put r (.vec 3 (cellsE d))
theorem Gf {W : AW} {r : Nat} {d : Array Ed} : (pv W r d).get r = some (.vec 3 (cellsE d)) := by simp [pv, AW.put]
theorem pv_pv {W : AW} {r : Nat} {d d' : Array Ed} : pv (pv W r d) r d' = pv W r d' := by
 simp only [pv, AW.put, AW.mk.injEq, and_true]
 funext x
 by_cases h : x = r <;> simp [h]
theorem Nb {W : AW} {r : Nat} {d : Array Ed} (h : W.get r = some (.vec 3 (cellsE d))) : pv W r d = W := C0 h
section
variable {E : Env}
end
theorem Ay {E : Env} {W : AW} {K : V → AW → Prop} {f : FuncId} {vs ws : List V} {v : V} (hw : vs.map W.frz = ws) (h : ACalls E f ws W (fun X W' => X = v ∧ W' = W)) (hk : K v W) : sem E (.pcall f) vs W K := by
 subst hw; exact ⟨v, h, hk⟩
def c_nan8 : AC := (.r [.v 2 (.bool false)] (.r [.m 3 0,.m 4 0,.b 5 (.bin .neq) 3 4,.m 2 5] .ret))
theorem Zx : compF Tryz.prog Tryz.f105 ⟨true, false, []⟩ = some (c_nan8, [.tmp 2], 6) := by kernel_rfl
def c_cmp16 : AC := (.r [.v 4 (.int .i64 0)] (.r [.m 7 0,.u 8 (.call 104) 7,.m 5 8] (.r [.m 9 1,.u 10 (.call 104) 9,.m 6 10] (.seq (.r [.m 11 5] (.cond (.t 11) (.seq (.r [.m 12 6] (.cond (.t 12) (.r [.v 4 (.int .i64 0)] .ret) .skip)) (.r [.v 4 (.int .i64 (-1))] .ret)) .skip)) (.seq (.r [.m 13 6] (.cond (.t 13) (.r [.v 4 (.int .i64 1)] .ret) .skip)) (.seq (.r [.m 14 0,.m 15 1,.b 16 (.bin .lss) 14 15] (.cond (.t 16) (.r [.v 4 (.int .i64 (-1))] .ret) .skip)) (.seq (.r [.m 17 0,.m 18 1,.b 19 (.bin .gtr) 17 18] (.cond (.t 19) (.r [.v 4 (.int .i64 1)] .ret) .skip)) (.r [.v 4 (.int .i64 0)] .ret))))))))
theorem Wz : compF Tryz.prog Tryz.f79 ⟨true, false, []⟩ = some (c_cmp16, [.tmp 4], 20) := by kernel_rfl
def c_cmp8 : AC := (.r [.v 4 (.int .i64 0)] (.r [.m 7 0,.u 8 (.call 105) 7,.m 5 8] (.r [.m 9 1,.u 10 (.call 105) 9,.m 6 10] (.seq (.r [.m 11 5] (.cond (.t 11) (.seq (.r [.m 12 6] (.cond (.t 12) (.r [.v 4 (.int .i64 0)] .ret) .skip)) (.r [.v 4 (.int .i64 (-1))] .ret)) .skip)) (.seq (.r [.m 13 6] (.cond (.t 13) (.r [.v 4 (.int .i64 1)] .ret) .skip)) (.seq (.r [.m 14 0,.m 15 1,.b 16 (.bin .lss) 14 15] (.cond (.t 16) (.r [.v 4 (.int .i64 (-1))] .ret) .skip)) (.seq (.r [.m 17 0,.m 18 1,.b 19 (.bin .gtr) 17 18] (.cond (.t 19) (.r [.v 4 (.int .i64 1)] .ret) .skip)) (.r [.v 4 (.int .i64 0)] .ret))))))))
theorem Z7 : compF Tryz.prog Tryz.f80 ⟨true, false, []⟩ = some (c_cmp8, [.tmp 4], 20) := by kernel_rfl
def c_cmpOr : AC := (.r [.v 2 (.int .i64 0)] (.r [.v 3 (.int .i64 0)] (.seq (.r [.m 6 0,.u 7 (.len 1 0) 6,.v 8 (.int .i64 0)] (.block 0 (.loop (.r [.b 9 (.bin .lss) 8 7] (.seq (.w 9 0) (.seq (.block 1 (.r [.b 10 (.idxp 1) 6 8,.u 11 (.load false 1) 10,.m 5 11] (.r [.m 12 5,.m 13 3,.b 14 (.bin .neq) 12 13] (.cond (.t 14) (.r [.m 15 5,.m 2 15] .ret) .skip)))) (.reg [.a 16 (.bin .add) 8 1,.m 8 16]))))))) (.r [.m 17 3,.m 2 17] .ret))))
theorem Wy : compF Tryz.prog Tryz.f78 ⟨true, false, []⟩ = some (c_cmpOr, [.tmp 2], 18) := by kernel_rfl
def c_cmpE : AC := (.r [.u 2 .box 0,.u 3 .box 1,.v 4 (.int .i64 0)] (.seq (.par (.step 0 (.u 5 (.fld 0) 2) (.step 2 (.u 7 (.fld 0) 3) (.step 5 (.u 10 (.fld 1) 2) (.step 7 (.u 12 (.fld 1) 3) (.step 10 (.u 15 (.fld 2) 2) (.step 12 (.u 17 (.fld 2) 3) (.step 1 (.u 6 (.load false 1) 5) (.step 3 (.u 8 (.load false 1) 7) (.step 4 (.b 9 (.pcall 79) 6 8) (.step 6 (.u 11 (.load false 1) 10) (.step 8 (.u 13 (.load false 1) 12) (.step 9 (.b 14 (.pcall 79) 11 13) (.step 11 (.u 16 (.load false 1) 15) (.step 13 (.u 18 (.load false 1) 17) (.step 14 (.b 19 (.pcall 80) 16 18) (.step 15 (.p 20 (.bslice 1 3 (.int .i64 0) [0, 1, 2]) [.t 9,.t 14,.t 19]) (.step 16 (.u 21 (.pcall 78) 20) (.step 17 (.m 4 21) .done))))))))))))))))))) .ret))
theorem Z6 : compF Tryz.prog Tryz.f77 ⟨true, false, []⟩ = some (c_cmpE, [.tmp 4], 22) := by kernel_rfl
variable {E : Env}
theorem nan8_c (hP : PE E) (W : AW) (a : Int) : ACalls E 105 [.int .u8 a] W fun Y W' => Y = .bool false ∧ W' = W := by
 refine ACalls.of hP Tryz.func105 Zx (by simp) fun _ _ => ?_
 simp only [c_nan8, BZ, ↓reduceIte, nE, reduceCtorEq]
 exact ⟨_, rfl, _, _, .weak Ab, lr _, by simp, rfl⟩
theorem Vn (hP : PE E) (W : AW) (a b : Int) : ACalls E 79 [.int .u16 a, .int .u16 b] W fun Y W' => Y = .int .i64 (sgn a b) ∧ W' = W := by
 refine ACalls.of hP Tryz.func79 Wz (by simp) fun _ _ => ?_
 simp only [c_cmp16, BZ, ↓reduceIte, reduceCtorEq]
 refine pc (Nt hP _ _) ?_
 simp only [BZ, ↓reduceIte, nE]
 refine pc (Nt hP _ _) ?_
 by_cases h1 : a < b
 ·simp only [BX, ↓reduceIte, nE, reduceCtorEq, decide_eq_true h1]
  exact ⟨_, rfl, _, _, .weak Ab, lr _, by simp [sgn, h1], rfl⟩
 ·by_cases h2 : a > b
  ·simp only [BX, ↓reduceIte, nE, reduceCtorEq, decide_eq_false h1, decide_eq_true h2]
   exact ⟨_, rfl, _, _, .weak Ab, lr _, by simp [sgn, h1, h2], rfl⟩
  ·simp only [BX, ↓reduceIte, nE, reduceCtorEq, decide_eq_false h1, decide_eq_false h2]
   exact ⟨_, rfl, _, _, .weak Ab, lr _, by simp [sgn, h1, h2], rfl⟩
theorem cmp8_c (hP : PE E) (W : AW) (a b : Int) : ACalls E 80 [.int .u8 a, .int .u8 b] W fun Y W' => Y = .int .i64 (sgn a b) ∧ W' = W := by
 refine ACalls.of hP Tryz.func80 Z7 (by simp) fun _ _ => ?_
 simp only [c_cmp8, BZ, ↓reduceIte, reduceCtorEq]
 refine pc (nan8_c hP _ _) ?_
 simp only [BZ, ↓reduceIte, nE]
 refine pc (nan8_c hP _ _) ?_
 by_cases h1 : a < b
 ·simp only [BX, ↓reduceIte, nE, reduceCtorEq, decide_eq_true h1]
  exact ⟨_, rfl, _, _, .weak Ab, lr _, by simp [sgn, h1], rfl⟩
 ·by_cases h2 : a > b
  ·simp only [BX, ↓reduceIte, nE, reduceCtorEq, decide_eq_false h1, decide_eq_true h2]
   exact ⟨_, rfl, _, _, .weak Ab, lr _, by simp [sgn, h1, h2], rfl⟩
  ·simp only [BX, ↓reduceIte, nE, reduceCtorEq, decide_eq_false h1, decide_eq_false h2]
   exact ⟨_, rfl, _, _, .weak Ab, lr _, by simp [sgn, h1, h2], rfl⟩
theorem b3 {W : AW} {K : V → AW → Prop} {a b c : Int} : sem E (.bslice 1 3 (.int .i64 0) [0, 1, 2]) [.int .i64 a, .int .i64 b, .int .i64 c] W K = K (.sl 1 true [.int .i64 a, .int .i64 b, .int .i64 c]) W := by
 simp [sem, rsem, tsem, fillE, V.cells]
theorem or3_c (hP : PE E) (W : AW) (a b c : Int) : ACalls E 78 [.sl 1 true [.int .i64 a, .int .i64 b, .int .i64 c]] W fun Y W' => Y = .int .i64 (if a ≠ 0 then a else if b ≠ 0 then b else c) ∧ W' = W := by
 refine ACalls.of hP Tryz.func78 Wy (by simp) fun _ _ => ?_
 simp only [c_cmpOr, BZ, ↓reduceIte, reduceCtorEq, BD, nA]
 rw [Ai]
 refine alp (fun (k : Nat) A1 W1 => A1 3 = some (.int .i64 0) ∧ A1 6 = some (.sl 1 true [.int .i64 a, .int .i64 b, .int .i64 c]) ∧ A1 7 = some (.int .i64 (3 : Nat)) ∧ A1 8 = some (.int .i64 k) ∧ k ≤ 3 ∧ W1 = W ∧ (0 < k → a = 0) ∧ (1 < k → b = 0) ∧ (2 < k → c = 0)) (fun k => 3 - k) 0
  ⟨rfl, rfl, rfl, rfl, by omega, rfl, by omega, by omega, by omega⟩ ?_
 rintro k A1 W1 ⟨g3, g6, g7, g8, gk, rfl, ga, gb, gc⟩ _
 have hk : k = 0 ∨ k = 1 ∨ k = 2 ∨ k = 3 := by omega
 rcases hk with rfl | rfl | rfl | rfl
 ·by_cases h : a = 0
  ·simp only [BX, ↓reduceIte, nE, BM, BD, nT, g3, g6, g7, g8, clt, nT, dT, Dl, h, ne_eq, not_true, dF, Ah]
   exact ⟨1, ⟨tt, tt, tt, tt, tt, tt, by (first | omega | simp | simp [h]), by (first | omega | simp | simp [h]), by (first | omega | simp | simp [h])⟩, by omega, lr _⟩
  ·simp only [BX, ↓reduceIte, nE, BM, nT, g3, g6, g7, g8, clt, nT, dT, Dl, ne_eq, h, not_false_iff]
   exact ⟨_, rfl, _, _, .weak Ab, lr _, by simp [h], rfl⟩
 ·have h0 := ga (by omega)
  by_cases h : b = 0
  ·simp only [BX, ↓reduceIte, nE, BM, nA, nT, g3, g6, g7, g8, clt, nT, dT, Dl, h, ne_eq, not_true, dF, Ah]
   exact ⟨2, ⟨tt, tt, tt, tt, tt, tt, by (first | omega | simp | simp [h]), by (first | omega | simp | simp [h]), by (first | omega | simp | simp [h])⟩, by omega, lr _⟩
  ·simp only [BX, ↓reduceIte, nE, BM, nT, g3, g6, g7, g8, clt, nT, dT, Dl, ne_eq, h, not_false_iff]
   exact ⟨_, rfl, _, _, .weak Ab, lr _, by simp [h0], rfl⟩
 ·have h0 := ga (by omega)
  have h1 := gb (by omega)
  by_cases h : c = 0
  ·simp only [BX, ↓reduceIte, nE, BM, nA, nT, g3, g6, g7, g8, clt, nT, dT, Dl, h, ne_eq, not_true, dF, Ah]
   exact ⟨3, ⟨tt, tt, tt, tt, tt, tt, by (first | omega | simp | simp [h]), by (first | omega | simp | simp [h]), by (first | omega | simp | simp [h])⟩, by omega, lr _⟩
  ·simp only [BX, ↓reduceIte, nE, BM, nT, g3, g6, g7, g8, clt, nT, dT, Dl, ne_eq, h, not_false_iff]
   exact ⟨_, rfl, _, _, .weak Ab, lr _, by simp [h0, h1], rfl⟩
 ·have h0 := ga (by omega)
  have h1 := gb (by omega)
  have h2 := gc (by omega)
  simp only [BX, ↓reduceIte, nE, g3, g7, g8, clt, Nat.lt_irrefl, dF]
  exact ⟨_, rfl, _, _, .weak Ab, lr _, by simp [h0, h1, h2], rfl⟩
theorem Cx (hP : PE E) (W : AW) (a b : Ed) : ACalls E 77 [a.V, b.V] W fun Y W' => Y = .int .i64 (cmpE a b) ∧ W' = W := by
 refine ACalls.of hP Tryz.func77 Z6 (by simp) fun _ hok => ?_
 refine Af hok ?_
 simp only [c_cmpE, BZ, ↓reduceIte, nE, BM, BD, Ed.V]
 refine Ay rfl (Vn hP _ _ _) ?_
 simp only [BS, BC, ↓reduceIte, nE, BM]
 refine Ay rfl (Vn hP _ _ _) ?_
 simp only [BS, BC, ↓reduceIte, nE, BM]
 refine Ay rfl (cmp8_c hP _ _ _) ?_
 simp only [BS, ↓reduceIte, nE, b3]
 refine Ay rfl (or3_c hP _ _ _ _) ?_
 simp only [BS, BC, ↓reduceIte]
 exact ⟨_, rfl, _, W, Ap hok rfl, lr _, rfl, rfl⟩
open Go Go.AL Go.AL.S Go.Proofs Go.Sort Go.Shelf Go.RowKit
def laysEd_ren : Go.Shelf.Ren := ⟨fun | 6 => 102 | 15 => 124 | 14 => 126 | 28 => 164 | 29 => 165 | 20 => 166 | 21 => 167 | 22 => 168 | 23 => 169 | 24 => 170 | 25 => 171 | 26 => 172 | 27 => 173 | 46 => 204 | 47 => 200 | 48 => 201 | 49 => 205 | 50 => 206 | 57 => 234 | n => n, fun | 22 => 45 | 24 => 47 | 25 => 182 | 3 => 3 | 39 => 215 | 0 => 0 | 53 => 244 | 55 => 246 | 4 => 4 | 46 => 238 | 45 => 237 | 50 => 190 | 5 => 5 | 9 => 9 | 66 => 288 | 70 => 292 | 76 => 329 | 77 => 330 | n => n, fun | n => n⟩
theorem laysEd : Go.Proofs.SlLaysF0.n6 Tryz.prog laysEd_ren := {
 mixed := by kernel_rfl
 f6 := ⟨Tryz.f102.name, by decide, Tryz.func102.trans (congrArg some (by kernel_rfl))⟩
 f14 := ⟨Tryz.f126.name, by decide, Tryz.func126.trans (congrArg some (by kernel_rfl))⟩
 f15 := Tryz.func124.trans (congrArg some (by kernel_rfl))
 f20 := ⟨Tryz.f166.name, by decide, Tryz.func166.trans (congrArg some (by kernel_rfl))⟩
 f21 := ⟨Tryz.f167.name, by decide, Tryz.func167.trans (congrArg some (by kernel_rfl))⟩
 f22 := ⟨Tryz.f168.name, by decide, Tryz.func168.trans (congrArg some (by kernel_rfl))⟩
 f23 := ⟨Tryz.f169.name, by decide, Tryz.func169.trans (congrArg some (by kernel_rfl))⟩
 f24 := ⟨Tryz.f170.name, by decide, Tryz.func170.trans (congrArg some (by kernel_rfl))⟩
 f25 := ⟨Tryz.f171.name, by decide, Tryz.func171.trans (congrArg some (by kernel_rfl))⟩
 f26 := ⟨Tryz.f172.name, by decide, Tryz.func172.trans (congrArg some (by kernel_rfl))⟩
 f27 := ⟨Tryz.f173.name, by decide, Tryz.func173.trans (congrArg some (by kernel_rfl))⟩
 f28 := Tryz.func164.trans (congrArg some (by kernel_rfl))
 f29 := Tryz.func165.trans (congrArg some (by kernel_rfl))
 f46 := ⟨Tryz.f204.name, by decide, Tryz.func204.trans (congrArg some (by kernel_rfl))⟩
 f47 := Tryz.func200.trans (congrArg some (by kernel_rfl))
 f48 := Tryz.func201.trans (congrArg some (by kernel_rfl))
 f49 := ⟨Tryz.f205.name, by decide, Tryz.func205.trans (congrArg some (by kernel_rfl))⟩
 f50 := ⟨Tryz.f206.name, by decide, Tryz.func206.trans (congrArg some (by kernel_rfl))⟩
 f57 := ⟨Tryz.f234.name, by decide, Tryz.func234.trans (congrArg some (by kernel_rfl))⟩
 t0 := Tryz.underlying0
 a0 := Tryz.isAgg0
 z0 := Tryz.sizeOf0
 v0 := Tryz.zeroValue0
 t3 := Tryz.underlying3
 a3 := Tryz.isAgg3
 z3 := Tryz.sizeOf3
 v3 := Tryz.zeroValue3
 t4 := Tryz.underlying4
 a4 := Tryz.isAgg4
 z4 := Tryz.sizeOf4
 v4 := Tryz.zeroValue4
 t5 := Tryz.underlying5
 a5 := Tryz.isAgg5
 z5 := Tryz.sizeOf5
 v5 := Tryz.zeroValue5
 t9 := Tryz.underlying9
 a9 := Tryz.isAgg9
 z9 := Tryz.sizeOf9
 v9 := Tryz.zeroValue9
 t22 := Tryz.underlying45
 a22 := Tryz.isAgg45
 z22 := Tryz.sizeOf45
 v22 := Tryz.zeroValue45
 t25 := Tryz.underlying182
 a25 := Tryz.isAgg182
 z25 := Tryz.sizeOf182
 v25 := Tryz.zeroValue182
 t39 := Tryz.underlying215
 a39 := Tryz.isAgg215
 z39 := Tryz.sizeOf215
 v39 := Tryz.zeroValue215
 t45 := Tryz.underlying237
 a45 := Tryz.isAgg237
 z45 := Tryz.sizeOf237
 v45 := Tryz.zeroValue237
 t46 := Tryz.underlying238
 a46 := Tryz.isAgg238
 z46 := Tryz.sizeOf238
 v46 := Tryz.zeroValue238
 t50 := Tryz.underlying190
 a50 := Tryz.isAgg190
 z50 := Tryz.sizeOf190
 v50 := Tryz.zeroValue190
 t53 := Tryz.underlying244
 a53 := Tryz.isAgg244
 z53 := Tryz.sizeOf244
 v53 := Tryz.zeroValue244
 t55 := Tryz.underlying246
 a55 := Tryz.isAgg246
 z55 := Tryz.sizeOf246
 v55 := Tryz.zeroValue246
 t66 := Tryz.underlying288
 a66 := Tryz.isAgg288
 z66 := Tryz.sizeOf288
 v66 := Tryz.zeroValue288
 t70 := Tryz.underlying292
 a70 := Tryz.isAgg292
 z70 := Tryz.sizeOf292
 v70 := Tryz.zeroValue292
 t76 := Tryz.underlying329
 a76 := Tryz.isAgg329
 z76 := Tryz.sizeOf329
 v76 := Tryz.zeroValue329
 t77 := Tryz.underlying330
 a77 := Tryz.isAgg330
 z77 := Tryz.sizeOf330
 v77 := Tryz.zeroValue330 }
theorem X1 {P : Program} {f : FuncId} {W : World} {vs : List V} {ws : List Value} {n : Int} (hr : RelL (gIn W) vs ws) (h : ACalls (Env.inp P W) f vs AW.empty fun Y _ => Y = .int .i64 n) :
  Calls P f ws.toArray W fun e w' => e = .returned (.int .i64 n) ∧ ∃ q os, w' = Sort.grow (W.drewN q) os := by
 refine (h.2 (Env.inp_sound P W) _ _ ws (Env.inp_rel P W) hr).mono ?_
 rintro e w' ⟨v, γ', Y, W', rfl, _, _, h4, h5, rfl⟩
 cases h5
 obtain ⟨⟨h1, h2, h3, h6, h7⟩, h8⟩ := h4.below
 refine ⟨rfl, w'.drawn - W.drawn, w'.heap.extract W.heap.size w'.heap.size, ?_⟩
 have hh : w'.heap = W.heap ++ w'.heap.extract W.heap.size w'.heap.size := by
  refine Array.ext_getElem? fun k => ?_
  rw [Array.getElem?_append]
  split
  ·rename_i hk; exact h7 k hk
  ·rename_i hk
   rw [Array.getElem?_extract]
   split
   ·congr 1; omega
   ·exact Array.getElem?_eq_none (by omega)
 have hd : W.drawn + (w'.drawn - W.drawn) = w'.drawn := by have : W.drawn ≤ w'.drawn := h8; omega
 have e1 : (Env.inp P W).w0 = W := rfl
 rw [e1] at h1 h2 h3
 cases w'
 simp only at h1 h2 h3 hh hd
 subst h1 h2 h3
 simp only [Sort.grow, World.drewN, hd]
 congr 1
def encE (e : Ed) : List Value := [.int .u16 e.fr, .int .u16 e.to, .int .u8 e.kd]
theorem Ke {γ : G} : ∀ {l : List Ed} {c : List Value}, RelL γ (cellsL l) c → c = l.flatMap encE
 | [], _, h => h
 | e :: l, _, ⟨_, _, rfl, h1, _, _, rfl, h2, _, _, rfl, h3, h⟩ => by
  cases h1; cases h2; cases h3
  rw [List.flatMap_cons, ← Ke (l := l) h]; rfl
theorem La {γ : G} : ∀ {l : List Ed}, RelL γ (cellsL l) (l.flatMap encE)
 | [] => rfl
 | _ :: l => ⟨_, _, rfl, rfl, _, _, rfl, rfl, _, _, rfl, rfl, La (l := l)⟩
theorem U6 : ∀ (l : List Ed) (t : Nat), t < l.length * 3 → (l.flatMap encE)[t]? = some ((encE l[t / 3]!)[t % 3]!)
 | e :: l, t, h => by
  rw [List.flatMap_cons]
  by_cases h3 : t < 3
  ·rw [List.getElem?_append_left (by simpa [encE] using h3), Nat.div_eq_of_lt h3, Nat.mod_eq_of_lt h3]
   have : t = 0 ∨ t = 1 ∨ t = 2 := by omega
   rcases this with rfl | rfl | rfl <;> rfl
  ·obtain ⟨s, rfl⟩ : ∃ s, t = s + 3 := ⟨t - 3, by omega⟩
   rw [List.getElem?_append_right (by simp [encE]), show s + 3 - (encE e).length = s by simp [encE], U6 l s (by simp only [lcs] at h; omega), show (s + 3) / 3 = s / 3 + 1 by omega, show (s + 3) % 3 = s % 3 by omega]
   rfl
theorem Cp (l : List Ed) : (l.flatMap encE).length = l.length * 3 := by
 induction l with
 | nil => rfl
 | cons e l ih => rw [List.flatMap_cons, lap, ih, lcs]; simp [encE]; omega
theorem U5 (d : Array Ed) : (flatK encE 3 d).toList = d.toList.flatMap encE := by
 refine List.ext_getElem? fun t => ?_
 by_cases h : t < d.size * 3
 ·rw [U6 _ _ (by simpa using h), Array.getElem?_toList, Array.getElem?_eq_getElem (by simpa using h), ← getElem!_pos _ t (by simpa using h), get_flatK _ _ _ _ h]
  have h3 : t / 3 < d.size := by omega
  simp [h3]
 ·rw [List.getElem?_eq_none (by simpa using h), List.getElem?_eq_none (by rw [Cp]; simpa using h)]
theorem Rm (hP : PE E) (W : AW) (r n : Nat) (d : Array Ed) (hn : d.size = n) (hpos : 0 < n) (hsm : n < 4294967296) :
  ACalls E 102 [.slr r 0 n 3, (.fn (.func 77) [] [])] (pv W r d) fun X W' => X = .tuple [] ∧ W' = pv W r (sort ltE d) := by
 refine ⟨⟨_, _, by rw [hP]; exact Tryz.func102, rfl, by decide⟩, fun _ γ w ws hW hr => ?_⟩
 obtain ⟨v, _, rfl, ⟨b, a, hb, rfl, hcap, ha, _⟩, v2, _, rfl, ⟨fs, cs2, rfl, hf1, hf2⟩, rfl⟩ := hr
 cases hf1; cases hf2
 have hg : (pv W r d).get r = some (.vec 3 (cellsE d)) := Gf
 obtain ⟨b', pre, c, t, e, hb', hheap, hp, hcl, hz⟩ := hW.obj r _ hg
 rw [hb] at hb'; cases hb'
 obtain rfl := ha (by omega)
 have hc : c = (flatK encE 3 d).toList := by rw [U5]; exact Ke hcl
 have hbl := (hW.apart r _ b hg hb).2.1
 have hcs : c.length = d.size * 3 := by rw [hc]; simp
 have eg : ∀ args w, (callFunc 77 args).run Tryz.prog w = .ok (.enter 77 args) w := enters_of Tryz.func77 (by kernel_rfl) rfl
 have hcmp : CmpLays Tryz.prog 77 #[] encE 3 cmpE b pre.length d.size w := fun m os dk hs x y =>
  X1 (P := Tryz.prog) (vs := [x.V, y.V]) (ws := [.agg (encE x).toArray, .agg (encE y).toArray]) ⟨_, _, rfl, ⟨encE x, rfl, ⟨_, _, rfl, rfl, _, _, rfl, rfl, _, _, rfl, rfl, rfl⟩⟩, _, _, rfl, ⟨encE y, rfl, ⟨_, _, rfl, rfl, _, _, rfl, rfl, _, _, rfl, rfl, rfl⟩⟩, rfl⟩ ((Cx rfl AW.empty x y).mono fun _ _ h => h.1)
 have hk := AnyQ.slices_SortFunc laysEd 3 Tryz.isAgg47 Tryz.sizeOf47 encE (fun _ => rfl) (fun x v hv => by
  simp only [encE, List.mem_cons, List.not_mem_nil, or_false] at hv
  rcases hv with rfl | rfl | rfl <;> rfl) cmpE Gs 77 #[] b pre.length ((γ.vb r).2 - 0) d w eg hcmp (Kv id (flatK encE 3 d) hheap (by rw [hc]; simp)) hbl (by omega)
 rw [hP]
 rw [hn] at hk
 rw [show (γ.vb r).1 + 0 * 3 = pre.length by omega]
 refine Calls.mono hk ?_
 rintro en w' ⟨rfl, d', m, os, hpm, hso, rfl⟩
 have huq : ∀ {x : Array Ed}, PermIn 0 d.size d x → SortedIn ltE 0 d.size x → _ := fun {x} h1 h2 => sorted_unique_holds Gs (fun _ _ => Qa) d x h1 h2
 have hd' : d' = sort ltE d := by
  exact Array.toList_inj.1 ((huq (by rw [hn]; exact hpm) (by rw [hn]; exact hso)).trans (huq (sort_sorts ltE Gs d).1 (sort_sorts ltE Gs d).2).symm)
 have hds : d'.size = d.size := hpm.1
 refine ⟨_, γ, .tuple [], pv (pv W r d) r d', rfl, G.le.refl _ _, lr _, hW.laid hg hb hheap hp hz id (flatK encE 3 d') (by rw [size_flatK, hcs, hds]) ?_ m os, ⟨[], rfl, rfl⟩, rfl, by rw [pv_pv, hd']⟩
 rw [List.map_id, U5]
 exact La
theorem J7 (hP : PE E) (W : AW) : ACalls E 102 [.nilsl, (.fn (.func 77) [] [])] W fun X W' => X = .tuple [] ∧ W' = W := by
 refine ⟨⟨_, _, by rw [hP]; exact Tryz.func102, rfl, by decide⟩, fun _ γ w ws hW hr => ?_⟩
 obtain ⟨v, _, rfl, rfl, v2, _, rfl, _, rfl⟩ := hr
 rw [hP]
 refine Calls.mono (AnyF.slices_SortFunc_none laysEd none 0 v2 w) ?_
 rintro en w' ⟨rfl, rfl⟩
 exact ⟨_, γ, .tuple [], W, rfl, G.le.refl _ _, lr _, hW, ⟨[], rfl, rfl⟩, rfl, rfl⟩
end Go.AL.SE
namespace Go.AL.SE
open Go Go.AL Go.AL.S Go.Proofs Go.Sort
def c_e46 : AC := (.r [.u 4 (.load false 1) 1,.u 5 .rangem 4] (.block 0 (.loop (.r [.u 6 .nextm 5,.u 7 (.ext 0) 6] (.seq (.w 7 0) (.block 1 (.r [.u 8 .entry 5,.u 9 (.ext 0) 8,.p 3 (.alloc [.int .u16 0,.int .u16 0,.int .u8 0]) [],⟨none,.store 3, [.t 3,.t 9], none⟩] (.r [.m 10 0,.u 11 (.load true 3) 3,.b 12 .callv 10 11,.u 13 (.un .not) 12] (.cond (.t 13) .ret .skip)))))))))
theorem ok_e46e : compF Tryz.prog Tryz.f103 ⟨true, false, []⟩ = some (c_e46, [], 14) := by kernel_rfl
def c_e53 : AC := (.r [.u 2 .box 0,.v 4 (.nilsl)] (.seq (.r [.m 6 1] (.block 0 (.rangef (.t 6) [7] (.reg [.p 5 (.alloc [.int .u16 0,.int .u16 0,.int .u8 0]) [],⟨none,.store 3, [.t 5,.t 7], none⟩]) (.block 1 (.reg [.u 8 (.load false 1) 2,.u 9 (.load true 3) 5,.u 10 (.bslice 3 1 (.agg [.int .u16 0,.int .u16 0,.int .u8 0]) [0]) 9,.b 11 (.appendx 3 6 [.int .u16 0,.int .u16 0,.int .u8 0]) 8 10,⟨none,.store 1, [.t 2,.t 11], none⟩]))))) (.r [.u 12 (.load false 1) 2,.m 4 12] .ret)))
theorem ok_e53e : compF Tryz.prog Tryz.f125 ⟨true, false, []⟩ = some (c_e53, [.tmp 4], 13) := by kernel_rfl
def c_e44 : AC := (.r [.v 2 (.nilsl)] (.r [.m 3 0,.p 4 (.call 125) [.c (.nilsl),.t 3],.m 2 4] .ret))
theorem ok_e44e : compF Tryz.prog Tryz.f101 ⟨true, false, []⟩ = some (c_e44, [.tmp 2], 5) := by kernel_rfl
def c_e34 : AC := (.r [.v 4 (.nilsl)] (.r [.m 6 0,.u 7 (.call 101) 6,.m 5 7] (.r [.m 8 5,.m 9 1,.b 10 (.call 102) 8 9] (.r [.m 11 5,.m 4 11] .ret))))
theorem ok_e34e : compF Tryz.prog Tryz.f75 ⟨true, false, []⟩ = some (c_e34, [.tmp 4], 12) := by kernel_rfl
def c_e35 : AC := (.r [.u 1 .box 0,.v 2 (.nilfn)] (.r [.u 3 (.mkfn (.func 103) 0) 1,.m 2 3] .ret))
theorem ok_e35e : compF Tryz.prog Tryz.f76 ⟨true, false, []⟩ = some (c_e35, [.tmp 2], 4) := by kernel_rfl
variable {E : Env}
def edOf (e : En) : Ed := match e.1 with
 | .agg [.int _ a, .int _ b, .int _ c] => ⟨a, b, c⟩
 | _ => ⟨0, 0, 0⟩
theorem Sv (hP : PE E) {W : AW} {y pb m clock : Nat} {es : List En} (hb : W.get pb = some (.row [.map m])) (hm : W.get m = some (.map es clock)) (hf : Fresh es clock) (hlt : m < W.nx) (_ : pb < W.nx)
  (hk : ∀ e ∈ es, e.1 = (edOf e).V) (J : List En → AW → Prop) (h0 : J [] (W.alloc (.iter (some m) clock [] clock)))
  (hJ : ∀ done W1, J done W1 → Cl W1 ∧ W.nx < W1.nx ∧ W1.get W.nx = some (.iter (some m) clock (stamps done) clock) ∧ W1.get m = some (.map es clock))
  (hmono : ∀ (vs : List V) (W1 : AW) (K K' : V → AW → Prop), (∀ v W', K v W' → K' v W') → E.yield y vs W1 K → E.yield y vs W1 K')
  (hy : ∀ done e W1, J done W1 → e ∈ es → e.2.2 ∉ stamps done → done.length < es.length → E.yield y [(edOf e).V] (X (W1.put W.nx (.iter (some m) clock (stamps done ++ [e.2.2]) clock)) W1.nx [.row (cE (edOf e))]) (fun Y W2 => Y = .bool true ∧ J (done ++ [e]) W2)) :
  ACalls E 103 [.yld y, .ptr pb 0] W fun Y W' => Y = .tuple [] ∧ ∃ done : List En, done.Perm es ∧ J done W' := by
 refine ACalls.of hP Tryz.func103 ok_e46e (by simp) fun _ hok => ?_
 have hl : partV [V.map m] 0 1 false = some (.map m) := rfl
 simp only [c_e46, BZ, ↓reduceIte, Ch hb hl, Hc hm, Ai]
 refine alp (fun (done : List En) A1 W1 => A1 0 = some (.yld y) ∧ A1 5 = some (.ptr W.nx 0) ∧ J done W1 ∧ (stamps done).Nodup ∧ ∀ e ∈ done, e ∈ es) (fun done => es.length - done.length) []
  ⟨rfl, rfl, h0, List.nodup_nil, by simp⟩ ?_
 rintro done A1 W1 ⟨g0, g5, gJ, gn, gs⟩ _
 obtain ⟨k0, k1, k2, k3⟩ := hJ _ _ gJ
 simp only [BX, ↓reduceIte, nE, g5, Ik k2 k3]
 refine ⟨?_, ?_, ?_⟩
 ·cases es with
  | nil => exact .inr (.inl rfl)
  | cons e es => exact .inr (.inr ⟨e, by simp, hf.lt e (by simp)⟩)
 ·intro hall
  refine ⟨_, rfl, _, _, .weak Ab, Nat.le_of_lt k1, rfl, done, ?_, gJ⟩
  refine E4 (Az gn) (Az hf.nodup) fun x => ⟨gs x, fun hx => ?_⟩
  by_cases hm' : x.2.2 ∈ stamps done
  ·obtain ⟨x', h1, h2⟩ := List.mem_map.1 hm'
   rwa [← He hf.nodup (gs x' h1) hx h2]
  ·have := hall x hx hm'
   have := hf.lt x hx
   omega
 ·intro e he hne
  have hlen : done.length < es.length := by
   have h1 := C9 (l := done ++ [e]) (m := es) (Az (by
     simp only [stamps, mpp, mcs, List.map_nil]
     exact List.nodup_append.2 ⟨gn, by simp, fun a ha b hb => by
      rw [List.mem_singleton.1 hb]
      exact fun e' => hne (e' ▸ ha)⟩)) (fun x hx => by
      rcases List.mem_append.1 hx with hx | hx
      ·exact gs x hx
      ·rw [List.mem_singleton.1 hx]; exact he)
   simp at h1; omega
  obtain ⟨W2, hW2⟩ : ∃ W2, W2 = W1.put W.nx (.iter (some m) clock (stamps done ++ [e.2.2]) clock) := ⟨_, rfl⟩
  have hyv := hy done e W1 gJ he hne hlen
  rw [← hW2] at hyv ⊢
  have hn2 : W2.nx = W1.nx := by rw [hW2]; rfl
  have hC2 : Cl W2 := by rw [hW2]; exact k0.put k1
  have hne' : m ≠ W.nx := by omega
  have j1 : W2.get W.nx = some (.iter (some m) clock (stamps done ++ [e.2.2]) clock) := by rw [hW2, S.put_at]
  have j2 : W2.get m = some (.map es clock) := by rw [hW2, S.put_ne hne']; exact k3
  have j3 : (stamps done ++ [e.2.2]).getLast? = some e.2.2 := by simp
  rw [Il j1 j2 j3 (Fresh.find hf.nodup he), hk e he]
  rw [← hn2] at hyv
  rw [hC2.start]
  simp only [BZ, ↓reduceIte, nE, reduceCtorEq, BM, BD, nA, nL, nT, Ed.V, g0, Ej]
  refine hmono _ _ _ _ ?_ hyv
  rintro Y W3 ⟨rfl, gJ2⟩
  obtain ⟨l0, l1, l2, l3⟩ := hJ _ _ gJ2
  simp only [BS, BC, Ad, ↓reduceIte, nE, reduceCtorEq, BD, g0, g5]
  refine ⟨done ++ [e], ⟨tt, tt, gJ2, ?_, ?_⟩, ?_, ?_⟩
  ·simp only [stamps, mpp, mcs, List.map_nil]
   exact List.nodup_append.2 ⟨gn, by simp, fun a ha b hb => by
    rw [List.mem_singleton.1 hb]
    exact fun e' => hne (e' ▸ ha)⟩
  ·intro x hx
   rcases List.mem_append.1 hx with hx | hx
   ·exact gs x hx
   ·rw [List.mem_singleton.1 hx]; exact he
  ·simp; omega
  ·rw [Ag]; omega
theorem bs3 {W : AW} {K : V → AW → Prop} {a b c : V} (_ : a.cells = [a]) (_ : b.cells = [b]) (_ : c.cells = [c]) : sem E (.bslice 3 1 (.agg [.int .u16 0, .int .u16 0, .int .u8 0]) [0]) [.agg [a, b, c]] W K = K (.sl 3 true [.agg [a, b, c]]) W := by
 simp [sem, rsem, tsem, fillE, V.cells]
theorem X7 {W : AW} {K : V → AW → Prop} {by' : Nat} {z : List V} {v : V} (h : by' ≤ 2 ^ 46) : sem E (.appendx 3 by' z) [.nilsl, .sl 3 true [v]] W K = K (.slr W.nx 0 1 3) (W.alloc (.vec 3 v.cells)) := by
 simp [sem, elemsV, h]
theorem X6 {W : AW} {K : V → AW → Prop} {by' r len : Nat} {z cells : List V} {v : V} (hg : W.get r = some (.vec 3 cells)) (hl : cells.length = len * 3) (hv : v.cells.all V.one = true) (h : (len + 1) * by' ≤ 2 ^ 46) :
  sem E (.appendx 3 by' z) [.slr r 0 len 3, .sl 3 true [v]] W K = K (.slr W.nx 0 (len + 1) 3) (W.move r (.vec 3 (cells ++ v.cells))) := by
 have ht : cells.take (len * 3) = cells := List.take_of_length_le (by omega)
 simp only [sem, elemsV, hg]
 simp [hl, hv, h, ht]
theorem X_move {W : AW} {n r : Nat} {l : List AObj} {o : AObj} (h : r < n) : (X W n l).move r o = X (W.drop r) n (l ++ [o]) := by
 refine I5 (fun x => ?_) (by simp [AW.move, X, Nat.add_assoc])
 rw [E9]
 simp only [AW.move, Ci, rf, E9, AW.drop]
 by_cases h1 : x = n + l.length
 ·subst h1
  rw [if_pos rfl, if_neg (by omega)]
  simp
 ·rw [if_neg h1]
  by_cases h2 : x = r
  ·subst h2
   rw [if_pos rfl, if_pos h, if_pos rfl]
  ·rw [if_neg h2]
   by_cases h3 : x < n
   ·rw [if_pos h3, if_pos h3, if_neg h2]
   ·rw [if_neg h3, if_neg h3, List.getElem?_append]
    split
    ·rfl
    ·rw [List.getElem?_eq_none (by omega), List.getElem?_eq_none (by simp; omega)]
theorem drop_ne {W : AW} {r x : Nat} (h : x ≠ r) : (W.drop r).get x = W.get x := by simp [AW.drop, h]
theorem Mt {r k l s : Nat} : (V.slr r k l s).cells = [.slr r k l s] := id rfl
theorem Ud {r k l s : Nat} : (V.slr r k l s).one = true := id rfl
theorem Td (hP : PE E) {W : AW} {pb m clock : Nat} {es : List En} (hb : W.get pb = some (.row [.map m])) (hm : W.get m = some (.map es clock)) (hf : Fresh es clock) (hpb : pb < W.nx) (hmlt : m < W.nx)
  (hk : ∀ e ∈ es, e.1 = (edOf e).V) (hsz : es.length < 2 ^ 40) :
  ACalls E 125 [.nilsl, .fn (.func 103) [] [.ptr pb 0]] W fun Y W' => ∃ done : List En, done.Perm es ∧ Ex W W' ∧
   ((done = [] ∧ Y = .nilsl) ∨ ∃ r, (W.nx ≤ r ∧ done ≠ []) ∧ r < W'.nx ∧ Y = .slr r 0 done.length 3 ∧ W'.get r = some (.vec 3 (cellsL (done.map edOf)))) := by
 refine ACalls.of hP Tryz.func125 ok_e53e (by simp) fun _ hok => ?_
 refine Af hok ?_
 simp only [c_e53, BZ, ↓reduceIte, nE, BM, BD, Dp]
 intro E' eP eG ey _
 have hP' : E'.P = Tryz.prog := eP.trans hP
 obtain ⟨W0, hW0⟩ : ∃ W0, W0 = X W W.nx [.row [.nilsl], .loop .ready none] := ⟨_, rfl⟩
 rw [← hW0]
 have hn0 : W0.nx = W.nx + 2 := by rw [hW0]; rfl
 have hE0 : Ex W W0 := by rw [hW0]; exact .x0
 have hq0 : W0.get (W.nx + 0) = some (.row [.nilsl]) := by rw [hW0]; exact Ao (k := 0)
 have hr0 : W0.get (W.nx + 1) = some (.loop .ready none) := by rw [hW0]; exact Ao (k := 1)
 have r0 : rf W.nx 0 = W.nx + 0 := rfl
 have r1 : rf W.nx 1 = W.nx + 1 := rfl
 refine (Sv (E := E') hP' (W := W0) (y := rf W.nx 1) (pb := pb) (m := m) (clock := clock) (es := es) (by rw [hE0.get _ hpb]; exact hb) (by rw [hE0.get _ hmlt]; exact hm) hf (by omega) (by omega) hk
  (fun done W1 => Cl W1 ∧ W0.nx < W1.nx ∧ W1.get W0.nx = some (.iter (some m) clock (stamps done) clock) ∧ (∀ x, x < W.nx → W1.get x = W.get x) ∧ W1.get (W.nx + 1) = some (.loop .ready none) ∧
   ((done = [] ∧ W1.get (W.nx + 0) = some (.row [.nilsl])) ∨ ∃ r, (W0.nx < r ∧ done ≠ []) ∧ r < W1.nx ∧ W1.get (W.nx + 0) = some (.row [.slr r 0 done.length 3]) ∧ W1.get r = some (.vec 3 (cellsL (done.map edOf))))) ?_ ?_ (fun vs W1 K K' hh hy => E'.yieldMono _ _ _ _ _ hh hy) ?_).mono ?_
 ·refine ⟨fun x hx => ?_, by rw [Ag]; omega, by rw [Ca]; rfl, fun x hx => by rw [Al (by omega), hE0.get x hx], by rw [Al (by omega)]; exact hr0, .inl ⟨rfl, by rw [Al (by omega)]; exact hq0⟩⟩
  rw [Ag] at hx
  rw [Cq, if_neg (by omega)]
  exact hE0.cl x (by omega)
 ·rintro done W1 ⟨j0, j1, j2, j3, j4, j5⟩
  exact ⟨j0, j1, j2, by rw [j3 m hmlt]; exact hm⟩
 ·rintro done e W1 ⟨j0, j1, j2, j3, j4, j5⟩ he hne hlen
  apply ey
  have hst : ∀ (l : List En), stamps (l ++ [e]) = stamps l ++ [e.2.2] := fun l => by simp [stamps]
  refine ⟨by rw [Aj (by omega), put_ne (by omega)]; exact j4, rfl, ?_⟩
  rw [← r0] at j5
  rw [← r1] at j4
  have hcl : cellsL ([e].map edOf) = cE (edOf e) := by simp [cellsL]
  rcases j5 with ⟨rfl, j5⟩ | ⟨r, ⟨q1, q2⟩, q3, j5, q4⟩
  ·simp (disch:=omega) only [BS, BC, ↓reduceIte, nE, reduceCtorEq, BM, BD, nA, nL, nT, Ob, Oc, Ed.V, cE, S.put_ne, S.put_at, j4, j5, bs3 Dm Dm Dm, X7 (by' := 6) (by decide), Mt, Ud]
   refine ⟨tt, tt, tt, Cl.X, (by first | omega | (simp only [rf]; omega) | (simp only [rf, X, lcs, List.length_nil, Nat.zero_add]; omega) | (simp [rf, X]; omega)), ?_, fun x hx => ?_, ?_, .inr ⟨rf W1.nx 2, ⟨(by first | omega | (simp only [rf]; omega) | (simp only [rf, X, lcs, List.length_nil, Nat.zero_add]; omega) | (simp [rf, X]; omega)), by simp⟩, by simp [rf], ?_, ?_⟩⟩
   ·(try simp (disch:=omega) only [Aj, S.put_ne, S.put_at]); rfl
   ·(try simp (disch:=omega) only [Aj, S.put_ne]); exact j3 x hx
   ·rw [← r1]; simp (disch:=omega) only [S.put_at]
   ·show AW.get _ (rf W.nx 0) = _; (try simp (disch:=omega) only [S.put_at]); (try rfl)
   ·(try rw [Ao]); (try simp only [List.nil_append, hcl]); (try rfl)
  ·have hcn : (cellsL (done.map edOf)).length = done.length * 3 := by rw [Ho]; simp
   have happ : ∀ (o : List AObj) o1 o2 K (a b c : Int), sem E (.appendx 3 6 [.int .u16 0, .int .u16 0, .int .u8 0]) [.slr r 0 done.length 3, .sl 3 true [.agg [.int .u16 a, .int .u16 b, .int .u8 c]]] (X ((W1.put W0.nx o1).put (rf W.nx 1) o2) W1.nx o) K = K (.slr (rf W1.nx o.length) 0 (done.length + 1) 3) (X (((W1.put W0.nx o1).put (rf W.nx 1) o2).drop r) W1.nx (o ++ [.vec 3 (cellsL (done.map edOf) ++ [.int .u16 a, .int .u16 b, .int .u8 c])])) := fun o o1 o2 K a b c => by
    rw [X6 (v := .agg [.int .u16 a, .int .u16 b, .int .u8 c]) (len := done.length) (cells := cellsL (done.map edOf)) (by rw [Aj q3, S.put_ne (by omega), S.put_ne (by omega)]; exact q4) hcn rfl (by omega), X_move q3]
    rfl
   have hdrop : ∀ (B : AW) x, x ≠ r → (B.drop r).get x = B.get x := fun B x hx => drop_ne hx
   simp (disch:=omega) only [BS, BC, ↓reduceIte, nE, BM, BD, nA, nL, nT, Ob, Oc, Ed.V, cE, S.put_ne, S.put_at, j4, j5, bs3 Dm Dm Dm, happ, hdrop, Mt, Ud]
   refine ⟨tt, tt, tt, Cl.X, (by first | omega | (simp only [rf]; omega) | (simp only [rf, X, lcs, List.length_nil, Nat.zero_add]; omega) | (simp [rf, X]; omega)), ?_, fun x hx => ?_, ?_, .inr ⟨rf W1.nx 2, ⟨(by first | omega | (simp only [rf]; omega) | (simp only [rf, X, lcs, List.length_nil, Nat.zero_add]; omega) | (simp [rf, X]; omega)), by simp⟩, by simp [rf], ?_, ?_⟩⟩
   ·(try simp (disch:=omega) only [Aj, S.put_ne, S.put_at, hdrop]); rw [hst]
   ·(try simp (disch:=omega) only [Aj, S.put_ne, hdrop]); exact j3 x hx
   ·rw [← r1]; simp (disch:=omega) only [S.put_at]
   ·show AW.get _ (rf W.nx 0) = _; simp (disch:=omega) only [S.put_at]
   ·(try rw [Ao]); simp only [mpp, cellsL, List.flatMap_append]; simp [cE]
 ·rintro Y W1 ⟨rfl, done, hperm, j0, j1, j2, j3, j4, j5⟩
  rw [← r0] at j5
  rw [← r1] at j4
  simp only [doneQ, j4]
  have hC : Cl (W1.put (rf W.nx 1) (.loop .exhausted none)) := j0.put (by omega)
  have hx : ∀ x, x < W.nx → (W1.put (rf W.nx 1) (.loop .exhausted none)).get x = W.get x := fun x hx => by rw [S.put_ne (by omega)]; exact j3 x hx
  rcases j5 with ⟨rfl, j5⟩ | ⟨r, ⟨q1, q2⟩, q3, j5, q4⟩
  ·simp (disch:=omega) only [BZ, ↓reduceIte, nE, BM, S.put_ne, j5]
   exact ⟨_, rfl, _, _, .weak Ab, by rw [Ae]; omega, [], hperm, ⟨hC, by rw [Ae]; omega, hx⟩, .inl ⟨rfl, rfl⟩⟩
  ·simp (disch:=omega) only [BZ, ↓reduceIte, nE, BM, S.put_ne, j5]
   exact ⟨_, rfl, _, _, .weak Ab, by rw [Ae]; omega, done, hperm, ⟨hC, by rw [Ae]; omega, hx⟩, .inr ⟨r, ⟨by omega, q2⟩, by rw [Ae]; exact q3, rfl, by rw [S.put_ne (by omega)]; exact q4⟩⟩
theorem Gp (hP : PE E) {W : AW} {pb m clock : Nat} {es : List En} (hb : W.get pb = some (.row [.map m])) (hm : W.get m = some (.map es clock)) (hf : Fresh es clock) (hpb : pb < W.nx) (hmlt : m < W.nx)
  (hk : ∀ e ∈ es, e.1 = (edOf e).V) (hsz : es.length < 2 ^ 40) :
  ACalls E 101 [.fn (.func 103) [] [.ptr pb 0]] W fun Y W' => ∃ done : List En, done.Perm es ∧ Ex W W' ∧
   ((done = [] ∧ Y = .nilsl) ∨ ∃ r, (W.nx ≤ r ∧ done ≠ []) ∧ r < W'.nx ∧ Y = .slr r 0 done.length 3 ∧ W'.get r = some (.vec 3 (cellsL (done.map edOf)))) := by
 refine ACalls.of hP Tryz.func101 ok_e44e (by simp) fun _ hok => ?_
 simp only [c_e44, BZ, ↓reduceIte, reduceCtorEq]
 refine (Td hP hb hm hf hpb hmlt hk hsz).mono ?_
 rintro Y W' ⟨done, h1, h2, h3⟩
 have hfr : W'.frz Y = Y := by rcases h3 with ⟨_, rfl⟩ | ⟨r, _, _, rfl, _⟩ <;> rfl
 simp only [BS, BC, ↓reduceIte, hfr]
 exact ⟨_, rfl, _, _, .weak Ab, h2.nx, done, h1, h2, h3⟩
theorem J8 (d : Array Ed) : (sort ltE d).toList.Perm d.toList := by
 have := (sort_sorts ltE Gs d).1
 have h := this.2.2
 rw [show (sort ltE d).extract 0 d.size = (sort ltE d) from by rw [← this.1]; simp, show d.extract 0 d.size = d from by simp] at h
 exact h
theorem Yu (d : Array Ed) : (sort ltE d).toList.Pairwise fun a b => ltE b a = false := by
 have hp := J8 d
 have := (sort_sorts ltE Gs d).2
 rw [List.pairwise_iff_getElem]
 intro i j hi hj hij
 have hs : (sort ltE d).size = d.size := by simpa using hp.length_eq
 have h1 := this i j (Nat.zero_le _) hij (by simpa [hs] using hj)
 have hi' : i < (sort ltE d).size := by simpa using hi
 have hj' : j < (sort ltE d).size := by simpa using hj
 simpa [hi', hj'] using h1
def sortL (l : List Ed) : List Ed := (sort ltE l.toArray).toList
theorem Er (l : List Ed) : (sortL l).Perm l := J8 l.toArray
theorem O6 (l : List Ed) : (sortL l).Pairwise fun a b => ltE b a = false := Yu _
theorem M4 {l m : List Ed} (h : l.Perm m) (hm : m.Pairwise fun a b => ltE b a = false) : sortL l = m := by
 refine ((Er l).trans h).eq_of_pairwise ?_ (O6 l) hm
 intro x y _ _ h1 h2
 exact Qa h2 h1
theorem Yr {l l' : List Ed} (h : l.Perm l') : sortL l = sortL l' := M4 (h.trans (Er l').symm) (O6 l')
def sortedEV (l : List Ed) : V := if l = [] then .nilsl else .sl 3 false ((sortL l).map Ed.V)
theorem Vp : ∀ (l : List Ed), chunks 3 l.length (cellsL l) = l.map Ed.V
 | [] => rfl
 | e :: l => by
  have := Vp l
  show (if 3 = 1 then _ else V.agg ((cellsL (e :: l)).take 3)) :: chunks 3 l.length ((cellsL (e :: l)).drop 3) = _
  rw [if_neg (by decide), show cellsL (e :: l) = cE e ++ cellsL l from rfl, show (cE e ++ cellsL l).drop 3 = cellsL l from rfl, this]
  rfl
theorem Kl : ∀ (l : List Ed), (cellsL l).all V.one = true
 | [] => rfl
 | e :: l => by
  rw [show cellsL (e :: l) = cE e ++ cellsL l from rfl, List.all_append, Kl l]; rfl
theorem Ok (n : Nat) : ∀ (l : List Ed), V.belL n (l.map Ed.V) = true
 | [] => rfl
 | e :: l => by
  simp only [mcs, V.belL, Bool.and_eq_true]
  exact ⟨rfl, Ok n l⟩
theorem V2 (hP : PE E) {W : AW} {pb m clock : Nat} {es : List En} (hb : W.get pb = some (.row [.map m])) (hm : W.get m = some (.map es clock)) (hf : Fresh es clock) (hpb : pb < W.nx) (hmlt : m < W.nx)
  (hk : ∀ e ∈ es, e.1 = (edOf e).V) (hsz : es.length < 4294967296) :
  ACalls E 75 [.fn (.func 103) [] [.ptr pb 0], (.fn (.func 77) [] [])] W fun Y W' => Y = sortedEV (es.map edOf) ∧ W' = W := by
 refine ACalls.of hP Tryz.func75 ok_e34e (by simp) fun _ hok => ?_
 simp only [c_e34, BZ, ↓reduceIte, reduceCtorEq]
 refine (Gp hP hb hm hf hpb hmlt hk (by omega)).mono ?_
 rintro Y W' ⟨done, h1, h2, h4⟩
 rcases h4 with ⟨rfl, rfl⟩ | ⟨r, ⟨hr, hne⟩, hrn, rfl, hg⟩
 ·obtain rfl : es = [] := h1.symm.eq_nil
  simp only [BZ, ↓reduceIte, nE]
  refine pc (J7 hP _) ?_
  simp only [BZ, ↓reduceIte, nE]
  exact ⟨_, rfl, _, W, h2.back hok rfl, lr _, rfl, rfl⟩
 ·have hlen : done.length = es.length := h1.length_eq
  have hsd : (done.map edOf).toArray.size = done.length := by simp
  have hce : cellsL (done.map edOf) = cellsE (done.map edOf).toArray := by simp [cellsE]
  rw [hce] at hg
  have hpv := Nb hg
  simp only [BZ, ↓reduceIte, nE]
  rw [← hpv]
  refine (Rm hP W' r done.length (done.map edOf).toArray hsd (List.length_pos_iff.2 hne) (by omega)).mono ?_
  rintro Y W'' ⟨rfl, rfl⟩
  simp only [BZ, ↓reduceIte, nE]
  have hzl : (sortL (done.map edOf)).length = done.length := by rw [(Er _).length_eq]; simp
  have hzs : cellsE (sort ltE (done.map edOf).toArray) = cellsL (sortL (done.map edOf)) := rfl
  have hpos : 0 < done.length := List.length_pos_iff.2 hne
  have hX : V.sl 3 false ((sortL (done.map edOf)).map Ed.V) = sortedEV (es.map edOf) := by
   have : es.map edOf ≠ [] := by
    intro e
    have := congrArg List.length e
    simp at this
    subst this
    simp at hlen
    exact hne hlen
   rw [sortedEV, if_neg this, Yr (h1.map edOf)]
  have hch : chunks 3 done.length (cellsL (sortL (done.map edOf))) = (sortL (done.map edOf)).map Ed.V := by rw [← hzl]; exact Vp _
  refine ⟨_, rfl, .sl 3 false ((sortL (done.map edOf)).map Ed.V), W, ?_, lr _, hX, rfl⟩
  rw [← hch]
  refine .frz (by rw [Gf, hzs]) (by rw [Ho, hzl]) hpos (by decide) (Kl _) ?_
  refine An hok (by rw [hch]; exact Ok _ _) ?_
  intro x hx
  have : x ≠ r := by omega
  simp only [AW.drop, pv, AW.put, this, ↓reduceIte]
  exact h2.get x hx
end Go.AL.SE
namespace Go.AL.S
open Go Go.AL Go.AL.SE Go.Proofs
def toEd (e : Ek) : Ed := ⟨e.1, e.2.1, e.2.2⟩
def ofEd (e : Ed) : Ek := (e.fr, e.to, e.kd)
theorem of_to (e : Ek) : ofEd (toEd e) = e := rfl
theorem to_of (e : Ed) : toEd (ofEd e) = e := rfl
def edL (P : List Ek) : List Ed := sortL ((keysE (tally P)).map toEd)
theorem K4 (P : List Ek) : (edL P).Perm ((keysE (tally P)).map toEd) := Er _
theorem E7 {P : List Ek} {e : Ed} : e ∈ edL P ↔ ofEd e ∈ P := by
 rw [(K4 P).mem_iff, mmp]
 constructor
 ·rintro ⟨x, hx, rfl⟩; rw [of_to]; exact (Ii P x).1 hx
 ·intro h; exact ⟨ofEd e, (Ii P _).2 h, to_of e⟩
theorem edL_len (P : List Ek) : (edL P).length = (keysE (tally P)).length := by
 rw [(K4 P).length_eq, lmp]
theorem Ta (P : List Ek) : (edL P).length ≤ P.length := by
 rw [edL_len]; simp only [keysE, lmp]; exact Lm P
theorem Ol (s : Str) (c i : Int) (l : List Mi) : (beginR s c i l).2 ≠ 0 ∧ (beginR s c i l).1 = s ∨ (beginR s c i l).2 = 0 ∧ (beginR s c i l).1 = s ++ [⟨i, c, l, [], 0⟩] := by
 unfold beginR
 by_cases h1 : okB c l = true
 ·by_cases h2 : i ≤ lastId s
  ·simp [h1, h2]
  ·by_cases h3 : freshB s l = true
   ·simp [h1, h2, h3]
   ·simp [h1, h2, h3]
 ·simp [h1]
end Go.AL.S
namespace Go.AL.S
open Go Go.AL Go.Proofs
variable {E : Env}
def gmap (P : List Ek) : AObj := .map (gFrom 0 (tally P)) (tally P).length
structure ekOk (e : Ek) : Prop where
 a : 0 ≤ e.1 ∧ e.1 < 65536
 b : 0 ≤ e.2.1 ∧ e.2.1 < 65536
 c : 0 ≤ e.2.2 ∧ e.2.2 < 256
abbrev shE : Bool × List SK := (true, [.i .u16, .i .u16, .i .u8])
theorem Vi {e : Ek} (h : ekOk e) : (ekV e).has shE = true := by
 obtain ⟨⟨h1, h2⟩, ⟨h3, h4⟩, h5, h6⟩ := h
 simp [ekV, V.has, V.isAgg, V.cells, V.hasKs, V.hasK, Lit.wf, IntKind.min, IntKind.max, IntKind.signed, IntKind.bits]
 omega
theorem g_keys {l : List (Ek × Int)} (h : ∀ x ∈ l, ekOk x.1) {e : Ek} (he : ekOk e) : ∀ n, keysOk shE (ekV e) (gFrom n l) := by
 intro n
 refine ⟨Vi he, ?_⟩
 induction l generalizing n with
 | nil => intro e he; simp [gFrom] at he
 | cons x l ih =>
  intro e he
  rcases List.mem_cons.1 he with rfl | he
  ·exact Vi (h x (by simp))
  ·exact ih (fun x hx => h x (by simp [hx])) _ e he
theorem O2 {P : List Ek} (h : ∀ x ∈ P, ekOk x) : ∀ x ∈ tally P, ekOk x.1 := fun x hx => h _ ((Ii P _).1 (List.mem_map.2 ⟨x, hx, rfl⟩))
theorem Uo {sh : Bool × List SK} {l : List (Ek × Int)} {e : Ek} {n : Nat} {k : V → Prop} : lookK sh (.int .i64 0) false (ekV e) (gFrom n l) k = k (.int .i64 ((getE l e).getD 0)) := by
 have := N2 e l n
 unfold lookK
 cases hg : getE l e with
 | none => rw [hg] at this; simp only at this; rw [this]; rfl
 | some c => rw [hg] at this; obtain ⟨i, h1, _⟩ := this; rw [h1]; rfl
theorem V5 (l : List (Ek × Int)) (e : Ek) (c c' : Int) : ∀ n, setS (n + l.length) (.int .i64 c') (gFrom n (l ++ [(e, c)])) = some (gFrom n (l ++ [(e, c')])) := by
 induction l with
 | nil => intro n; simp [gFrom, setS]
 | cons x l ih =>
  intro n
  have := ih (n + 1)
  simp only [List.cons_append, gFrom, setS, lcs]
  rw [if_neg (by omega), show n + (l.length + 1) = n + 1 + l.length by omega, this]; rfl
theorem Jt {W : AW} {r : Nat} {a b : AObj} : (W.put r a).put r b = W.put r b := by
 simp only [AW.put, AW.mk.injEq, and_true]
 funext x
 by_cases h : x = r <;> simp [h]
theorem Ov {c : Int} (h0 : 0 ≤ c) (h : c < 2 ^ 41) : IntKind.i64.wrap c = c := by
 simp only [IntKind.wrap, IntKind.signed, IntKind.bits]
 simp
 omega
theorem g_bel (l : List (Ek × Int)) (m : Nat) : ∀ n, ((gFrom n l).all fun e => e.1.bel m && e.2.1.bel m) = true := by
 induction l with
 | nil => intro n; rfl
 | cons t s ih => intro n; simp only [gFrom, List.all_cons, ih, Bool.and_true]; rfl
theorem Ff (P : List Ek) (m : Nat) : (gmap P).bel m = true := g_bel _ _ _
theorem V0 {P : List Ek} {e : Ek} {c : Int} (h : getE (tally P) e = some c) : gmap (P ++ [e]) = .map (gFrom 0 (setE (tally P) e (c + 1))) (tally P).length := by
 have hk := congrArg List.length (Qc (tally P) e (c + 1))
 simp only [keysE, lmp] at hk
 have : tally (P ++ [e]) = setE (tally P) e (c + 1) := by rw [Fl, bumpL, h]
 simp only [gmap, this, hk]
theorem Vz {P : List Ek} {e : Ek} (h : getE (tally P) e = none) : gmap (P ++ [e]) = .map (gFrom 0 (tally P ++ [(e, 1)])) ((tally P).length + 1) := by
 have : tally (P ++ [e]) = tally P ++ [(e, 1)] := by rw [Fl, bumpL, h]
 simp only [gmap, this, lap, lcs, List.length_nil]
theorem get_cnt {P : List Ek} {e : Ek} {c : Int} (h : getE (tally P) e = some c) : 0 < c ∧ c ≤ P.length := by
 rw [Ln] at h
 split at h
 ·rename_i hm
  have := List.count_pos_iff.2 hm
  have := List.count_le_length (a := e) (l := P)
  cases h; omega
 ·cases h
theorem S9 (hP : PE E) (W : AW) {p o g m : Nat} {hn : V} {P : List Ek} (hg : W.get g = some (.row [hn, .map m])) (hm : W.get m = some (gmap P)) (hgl : g < W.nx) (hml : m < W.nx) (hPk : ∀ x ∈ P, ekOk x) (hPl : P.length < 2 ^ 40) (f t k : Int) (he : ekOk (f, t, k)) :
  ACalls E 68 [bV p o g, .int .u16 f, .int .u16 t, .int .u8 k] W fun Y W' => Y = .tuple [] ∧ W' = W.put m (gmap (P ++ edgeP f t k)) := by
 refine ACalls.of hP Tryz.func68 Z4 (by simp [bV]) fun _ hok => ?_
 refine Af hok ?_
 by_cases hft : f = t
 ·have hW : W.put m (gmap (P ++ edgeP f t k)) = W := by rw [edgeP, if_pos hft, apn]; exact C0 hm
  rw [hW]
  simp (disch:=omega) only [c_edge, BX, ↓reduceIte, nE, BM, BD, bV, Dl, show decide (f ≠ t) = false by simp [hft]]
  exact ⟨_, rfl, _, W, Ap hok rfl, lr _, rfl, rfl⟩
 ·have hpe : edgeP f t k = [(f, t, k)] := by rw [edgeP, if_neg hft]
  rw [hpe]
  have hgr : ∀ l, (X W W.nx l).get g = some (.row [hn, .map m]) := fun l => by rw [Aj hgl]; exact hg
  have hmr : ∀ l, (X W W.nx l).get m = some (gmap P) := fun l => by rw [Aj hml]; exact hm
  have hks := g_keys (O2 hPk) he 0
  have hlk : ∀ l K, sem E (.lookup shE (.int .i64 0) false) [.map m, .agg [.int .u16 f, .int .u16 t, .int .u8 k]] (X W W.nx l) K = K (.int .i64 ((getE (tally P) (f, t, k)).getD 0)) (X W W.nx l) := fun l K => by
   rw [show V.agg [.int .u16 f, .int .u16 t, .int .u8 k] = ekV (f, t, k) from rfl, D7 (hmr l) hks, Uo]
  cases hge : getE (tally P) (f, t, k) with
  | some c =>
   obtain ⟨c1, c2⟩ := get_cnt hge
   have hf := N2 (f, t, k) (tally P) 0
   rw [hge] at hf
   obtain ⟨i, hf1, hf2⟩ := hf
   have hmo : ∀ l K, sem E (.ment shE (.int .i64 0)) [.map m, .agg [.int .u16 f, .int .u16 t, .int .u8 k]] (X W W.nx l) K = K (.tuple [.int .i64 c, .int .i64 i]) (X W W.nx l) := fun l K => Sm (hmr l) hks hf1
   have hms : ∀ l K, sem E .mest [.map m, .int .i64 (i : Int), .int .i64 (c + 1)] (X W W.nx l) K = K .undef (X (W.put m (gmap (P ++ [(f, t, k)]))) W.nx l) := fun l K => by
    rw [m_mest (hmr l) (hf2 (c + 1)), ← V0 hge, D9 hml]
   simp (disch:=omega) only [c_edge, BX, ↓reduceIte, nE, BM, BD, nA, nL, bV, Dl, show decide (f ≠ t) = true by simp [hft], hg, hlk, hge, Option.getD_some, hmo, Ov, hms]
   exact ⟨⟨_, rfl, _, W.put m (gmap (P ++ [(f, t, k)])), I4 rfl (Eb hok hml (Ff _ _)) rfl, lr _, rfl, rfl⟩, ⟨_, rfl, _, W.put m (gmap (P ++ [(f, t, k)])), I4 rfl (Eb hok hml (Ff _ _)) rfl, lr _, rfl, rfl⟩⟩
  | none =>
   have hf := N2 (f, t, k) (tally P) 0
   rw [hge] at hf
   simp only at hf
   have hks' : keysOk shE (ekV (f, t, k)) (gFrom 0 (tally P ++ [((f, t, k), 0)])) := g_keys (fun x hx => by
    rcases List.mem_append.1 hx with hx | hx
    ·exact O2 hPk x hx
    ·rw [List.mem_singleton.1 hx]; exact he) he 0
   obtain ⟨A, hA⟩ : ∃ A, A = AObj.map (gFrom 0 (tally P ++ [((f, t, k), (0 : Int))])) ((tally P).length + 1) := ⟨_, rfl⟩
   have hmo : ∀ l K, sem E (.ment shE (.int .i64 0)) [.map m, .agg [.int .u16 f, .int .u16 t, .int .u8 k]] (X W W.nx l) K = K (.tuple [.int .i64 0, .int .i64 (tally P).length]) (X (W.put m A) W.nx l) := fun l K => by
    have := Sn (E := E) (K := K) (z := .int .i64 0) (hmr l) hks hf
    rw [show V.agg [.int .u16 f, .int .u16 t, .int .u8 k] = ekV (f, t, k) from rfl, this, D9 hml, hA, S1, Nat.zero_add]
   have hmr' : ∀ l, (X (W.put m A) W.nx l).get m = some A := fun l => by rw [Aj hml, put_at]
   have hlk' : ∀ l K, sem E (.lookup shE (.int .i64 0) false) [.map m, .agg [.int .u16 f, .int .u16 t, .int .u8 k]] (X (W.put m A) W.nx l) K = K (.int .i64 0) (X (W.put m A) W.nx l) := fun l K => by
    rw [show V.agg [.int .u16 f, .int .u16 t, .int .u8 k] = ekV (f, t, k) from rfl, D7 (by rw [hmr' l, hA]) hks', Uo, Qh hge]
    simp
   have hms : ∀ l K, sem E .mest [.map m, .int .i64 ((tally P).length : Int), .int .i64 (0 + 1)] (X (W.put m A) W.nx l) K = K .undef (X (W.put m (gmap (P ++ [(f, t, k)]))) W.nx l) := fun l K => by
    have hs := V5 (tally P) (f, t, k) 0 (0 + 1) 0
    rw [Nat.zero_add] at hs
    rw [m_mest (by rw [hmr' l, hA]) hs, D9 hml, Jt, Vz hge]; rfl
   simp (disch:=omega) only [c_edge, BX, ↓reduceIte, nE, BM, BD, nA, nL, bV, Dl, show decide (f ≠ t) = true by simp [hft], hg, hlk, hge, Option.getD_none, hmo, Ov, hlk', hms]
   exact ⟨⟨_, rfl, _, W.put m (gmap (P ++ [(f, t, k)])), I4 rfl (Eb hok hml (Ff _ _)) rfl, lr _, rfl, rfl⟩, ⟨_, rfl, _, W.put m (gmap (P ++ [(f, t, k)])), I4 rfl (Eb hok hml (Ff _ _)) rfl, lr _, rfl, rfl⟩⟩
def c_pairs : AC := (.r [.u 2 .box 0,.u 3 .box 1,.v 4 (.nilfn)] (.r [.b 5 (.mkfn (.func 96) 0) 2 3,.m 4 5] .ret))
theorem Wo : compF Tryz.prog Tryz.f66 ⟨false, false, []⟩ = some (c_pairs, [.tmp 4], 6) := by kernel_rfl
def c_pairs1_0 : AC := (.r [.b 13 (.bin .lss) 12 11] (.seq (.w 13 0) (.seq (.block 1 (.r [.m 14 12,.m 5 14] (.seq (.par (.step 0 (.m 15 0) (.step 1 (.m 16 4) (.step 2 (.m 17 5) (.step 5 (.m 20 4) (.step 6 (.m 21 5) (.step 7 (.a 22 (.bin .add) 21 1) (.step 3 (.b 18 (.idxp 1) 16 17) (.step 4 (.u 19 (.load false 1) 18) (.step 8 (.b 23 (.idxp 1) 20 22) (.step 9 (.u 24 (.load false 1) 23) (.step 10 (.p 25 .callv [.t 15,.t 19,.t 24]) (.step 11 (.u 26 (.un .not) 25) .done))))))))))))) (.cond (.t 26) .ret .skip)))) (.reg [.a 27 (.bin .add) 12 1,.m 12 27]))))
def c_pairs1 : AC := (.r [.u 6 (.load false 1) 1,.u 7 (.load false 1) 2,.b 8 (.call 97) 6 7,.m 4 8] (.r [.m 9 4,.u 10 (.len 1 0) 9,.a 11 (.bin .sub) 10 1,.v 12 (.int .i64 0)] (.block 0 (.loop c_pairs1_0))))
theorem R0 : compF Tryz.prog Tryz.f96 ⟨false, false, []⟩ = some (c_pairs1, [], 28) := by kernel_rfl
def c_key : AC := (.r [.u 2 .box 0,.u 3 .box 1] (.r [.u 10 (.fld 1) 2,.u 11 (.load false 1) 10,.u 12 (.load false 1) 3,.b 13 (.call 66) 11 12] (.block 0 (.rangef (.t 13) [14, 15] (.r [.m 4 14] (.reg [.m 5 15])) (.block 1 (.r [.u 17 (.load true 3) 2,.u 18 (.load false 1) 3,.m 19 4,.p 20 (.call 67) [.t 17,.t 18,.t 19],.m 16 20,.u 21 (.ext 0) 16,.u 22 (.ext 1) 16,.m 6 21,.m 7 22] (.r [.u 24 (.load true 3) 2,.u 25 (.load false 1) 3,.m 26 5,.p 27 (.call 67) [.t 24,.t 25,.t 26],.m 23 27,.u 28 (.ext 0) 23,.u 29 (.ext 1) 23,.m 8 28,.m 9 29] (.r [.m 30 7,.m 31 30,.M 32 9 31 true,.p 33 .pick [.t 31,.t 32,.F]] (.cond (.t 33) (.reg [.u 34 (.load true 3) 2,.m 35 6,.m 36 8,.p 37 (.call 68) [.t 34,.t 35,.t 36,.c (.int .u8 0)]]) .skip)))))))))
theorem ok_keye : compF Tryz.prog Tryz.f40 ⟨false, false, []⟩ = some (c_key, [], 38) := by kernel_rfl
theorem pairs_c (hP : PE E) (W : AW) (o : Nat) (k : Int) : ACalls E 66 [.ptr o 0, .int .u8 k] W fun Y W' => ∃ q1 q2, Y = .fn (.func 96) [] [.ptr q1 0, .ptr q2 0] ∧ W'.get q1 = some (.row [.ptr o 0]) ∧ W'.get q2 = some (.row [.int .u8 k]) ∧ q1 < W'.nx ∧ q2 < W'.nx ∧ Ex W W' := by
 refine ACalls.of hP Tryz.func66 Wo (by simp) fun _ hok => ?_
 refine Af hok ?_
 simp only [c_pairs, BZ, ↓reduceIte, nE, BM, BD]
 exact ⟨_, rfl, _, _, .weak Ab, by simp [X], rf W.nx 0, rf W.nx 1, rfl, by rw [Ao]; rfl, by rw [Ao]; rfl, by simp [X, rf], by simp [X, rf], .x0⟩
theorem Rw (hP : PE E) {W : AW} {y q1 q2 q : Nat} {os : Ods} {k : Int} (k0 : 0 ≤ k) (k1 : k < 256) (h1 : W.get q1 = some (.row [.ptr q 0])) (h2 : W.get q2 = some (.row [.int .u8 k])) (h : Od W q os) (J : Nat → AW → Prop)
  (h0 : J 0 W) (hJ : ∀ i W1, J i W1 → W.nx ≤ W1.nx) (hmono : ∀ (vs : List V) (W1 : AW) (K K' : V → AW → Prop), (∀ v W', K v W' → K' v W') → E.yield y vs W1 K → E.yield y vs W1 K')
  (hy : ∀ i (hi : i + 1 < (keyO os k).length) W1, J i W1 → E.yield y [.int .u16 (keyO os k)[i], .int .u16 (keyO os k)[i + 1]] W1 (fun Y W2 => Y = .bool true ∧ J (i + 1) W2)) :
  ACalls E 96 [.yld y, .ptr q1 0, .ptr q2 0] W fun Y W' => Y = .tuple [] ∧ J ((keyO os k).length - 1) W' := by
 refine ACalls.of hP Tryz.func96 R0 (by simp) fun _ hok => ?_
 have hs := Et (keyO os k)
 have hl := (Fw h k).1
 have hw : IntKind.i64.wrap ((keyO os k).length - 1 : Int) = (keyO os k).length - 1 := by simp only [IntKind.wrap, IntKind.signed, IntKind.bits]; simp; omega
 simp only [c_pairs1, BZ, ↓reduceIte, nE, BM, h1, h2]
 refine pc (Kj hP _ h k k0 k1) ?_
 simp only [BS, Am, ↓reduceIte, hs.len, Ak, hw]
 rw [Ai]
 refine alp (fun (i : Nat) A1 W1 => A1 0 = some (.yld y) ∧ A1 4 = some (oV (keyO os k)) ∧ A1 11 = some (.int .i64 ((keyO os k).length - 1)) ∧ A1 12 = some (.int .i64 i) ∧ i ≤ (keyO os k).length - 1 ∧ J i W1) (fun i => (keyO os k).length - i) 0
  ⟨rfl, rfl, rfl, rfl, Nat.zero_le _, h0⟩ ?_
 rintro i A1 W1 ⟨g0, g4, g11, g12, gi, gJ⟩ hn
 by_cases hi : i + 1 < (keyO os k).length
 ·have hd : decide ((i : Int) < (keyO os k).length - 1) = true := by simp; omega
  have hwi : IntKind.i64.wrap ((i : Int) + 1) = ((i + 1 : Nat) : Int) := Ah (by omega)
  simp only [c_pairs1_0, BX, ↓reduceIte, nE, reduceCtorEq, BM, g0, g4, g11, g12, hd, hwi, hs.idx (Cc (show i < (keyO os k).length by omega)), hs.idx (Cc hi), Ej]
  refine hmono _ _ _ _ ?_ (hy i hi W1 gJ)
  rintro Y W2 ⟨rfl, g⟩
  simp only [BS, BC, Ad, ↓reduceIte, nE, reduceCtorEq, BD, g0, g4, g11, g12, hwi]
  exact ⟨i + 1, ⟨tt, tt, tt, tt, by omega, g⟩, by omega, hJ _ _ g⟩
 ·have hd : decide ((i : Int) < (keyO os k).length - 1) = false := by simp; omega
  obtain rfl : i = (keyO os k).length - 1 := by omega
  simp only [c_pairs1_0, BX, ↓reduceIte, g11, g12, hd]
  exact ⟨_, rfl, _, _, .weak Ab, hJ _ _ gJ, rfl, gJ⟩
theorem Pr (hP : PE E) {W0 : AW} {A : AFr} {q1 q2 q pu pv : Nat} {os : Ods} {k : Int} (k0 : 0 ≤ k) (k1 : k < 256) {g : AX} {asg body : AC} {Q : Exit → AFr → AW → Prop} (hg : g.ev E A = some (.fn (.func 96) [] [.ptr q1 0, .ptr q2 0])) (h1 : W0.get q1 = some (.row [.ptr q 0])) (h2 : W0.get q2 = some (.row [.int .u8 k])) (hq1 : q1 < W0.nx) (hq2 : q2 < W0.nx) (hC : Cl W0) (h : Od W0 q os)
  (J : Nat → AW → Prop) (h0 : ∀ W1, Ex W0 W1 → W0.nx < W1.nx → J 0 W1) (hJ : ∀ i W1, J i W1 → W0.nx < W1.nx)
  (hb : ∀ i (hi : i + 1 < (keyO os k).length) W1, J i W1 → W1.get W0.nx = some (.loop .ready none) →
   awp E asg (thenQ (fun A1 W2 => W2.get W0.nx = some (.loop .ready none) ∧ awp E body (fun e _ W3 => e = .normal ∧ W3.get W0.nx = some (.loop .busy none) ∧ J (i + 1) (W3.put W0.nx (.loop .ready none))) A1 (W2.put W0.nx (.loop .busy none))) (fun _ _ _ => False)) ((A.put pu (.int .u16 (keyO os k)[i])).put pv (.int .u16 (keyO os k)[i + 1])) W1)
  (hQ : ∀ W1, J ((keyO os k).length - 1) W1 → W1.get W0.nx = some (.loop .ready none) → Q .normal A (W1.put W0.nx (.loop .exhausted none))) : awp E (.rangef g [pu, pv] asg body) Q A W0 := by
 rw [Dp, hg]
 intro E' eP eG ey _
 have hP' : E'.P = Tryz.prog := eP.trans hP
 have hE : Ex W0 (W0.alloc (.loop .ready none)) := ⟨fun r hr => by rw [Ag] at hr; rw [Cq, if_neg (by omega)]; exact hC r (by omega), by rw [Ag]; omega, fun x hx => Al hx⟩
 simp only [mcs, List.map_nil, Gz]
 refine (Rw (E := E') hP' (y := W0.nx) k0 k1 (by rw [Al hq1]; exact h1) (by rw [Al hq2]; exact h2) (h.ex hE) (fun k W1 => J k W1 ∧ W1.get W0.nx = some (.loop .ready none)) ⟨h0 _ hE (by rw [Ag]; omega), Ca⟩ (fun i W1 g => by rw [Ag]; exact hJ _ _ g.1) (fun vs W1 K K' hk hy => E'.yieldMono _ _ _ _ _ hk hy) ?_).mono ?_
 ·rintro i hi W1 ⟨g1, g2⟩
  refine ey _ _ _ ⟨g2, rfl, ?_⟩
  refine Ar _ ?_ (hb i hi W1 g1 g2)
  intro e A1 W2 hh
  cases e with
  | normal =>
   refine ⟨hh.1, Ar _ ?_ hh.2⟩
   rintro e A3 W3 ⟨rfl, h2, h3⟩
   exact ⟨h2, rfl, h3, put_at⟩
  | _ => exact hh
 ·rintro Y W1 ⟨_, g1, g2⟩
  simp only [doneQ, g2]
  exact hQ _ g1 g2
structure Bd (W : AW) (p ra rw q g m : Nat) (s : Str) (os : Ods) (hn : V) (P : List Ek) : Prop where
 st : St W p ra rw s
 od : Od W q os
 hg : W.get g = some (.row [hn, .map m])
 hm : W.get m = some (gmap P)
 lg : g < W.nx
 lm : m < W.nx
 mra : m ≠ ra
 mrw : m ≠ rw
 pk : ∀ x ∈ P, ekOk x
theorem St.by {W W1 : AW} {p ra rw : Nat} {s : Str} (h : St W p ra rw s) (hn : W.nx ≤ W1.nx) (h1 : W1.get p = W.get p) (h2 : W1.get ra = W.get ra) (h3 : W1.get rw = W.get rw) : St W1 p ra rw s := by
 obtain ⟨ws, cw, a, b⟩ := h.hw
 have := h.lp
 have := h.la
 have := h.lw
 exact ⟨h1.trans h.hp, h2.trans h.ha, ⟨ws, cw, h3.trans a, b⟩, h.ne, by omega, by omega, by omega, h.ok⟩
theorem Od.by {W W1 : AW} {q : Nat} {o : Ods} (h : Od W q o) (hn : W.nx ≤ W1.nx) (h1 : W1.get q = W.get q) : Od W1 q o := by
 have := h.lq
 exact ⟨h1.trans h.hq, h.len, by omega, h.ok⟩
section
variable {W W1 : AW} {p ra rw q g m : Nat} {s : Str} {os : Ods} {hn : V} {P P' : List Ek}
theorem Bd.nem (h : Bd W p ra rw q g m s os hn P) : p ≠ m ∧ q ≠ m ∧ g ≠ m := by
 refine ⟨?_, ?_, ?_⟩ <;> rintro rfl
 ·have := h.st.hp.symm.trans h.hm; cases this
 ·have := h.od.hq.symm.trans h.hm; cases this
 ·have := h.hg.symm.trans h.hm; cases this
theorem Bd.to (h : Bd W p ra rw q g m s os hn P) (hx : W.nx ≤ W1.nx) (hg : ∀ x, x < W.nx → x ≠ m → W1.get x = W.get x) (hm : W1.get m = some (gmap P')) (hk : ∀ x ∈ P', ekOk x) : Bd W1 p ra rw q g m s os hn P' := by
 obtain ⟨n1, n2, n3⟩ := h.nem
 have a1 := h.lg
 have a2 := h.lm
 exact ⟨h.st.by hx (hg _ h.st.lp n1) (hg _ h.st.la h.mra.symm) (hg _ h.st.lw h.mrw.symm), h.od.by hx (hg _ h.od.lq n2), (hg _ h.lg n3).trans h.hg, hm, by omega, by omega, h.mra, h.mrw, hk⟩
theorem Bd.ex (h : Bd W p ra rw q g m s os hn P) (hE : Ex W W1) : Bd W1 p ra rw q g m s os hn P :=
 h.to hE.nx (fun x hx _ => hE.get x hx) ((hE.get _ h.lm).trans h.hm) h.pk
end
theorem F7 {s : Str} (h : SOk s) (k v : Int) : 0 ≤ (wrR s k v).1 ∧ (wrR s k v).1 < 65536 := by
 unfold wrR
 cases hw : who s k v with
 | none => simp
 | some t => have := h.ok t (Hs hw).1; exact ⟨this.id0, this.id1⟩
theorem edgeP_ok {f t k : Int} (hf : 0 ≤ f ∧ f < 65536) (ht : 0 ≤ t ∧ t < 65536) (hk : 0 ≤ k ∧ k < 256) : ∀ x ∈ edgeP f t k, ekOk x := by
 intro x hx
 rw [(Dy.1 hx).2]; exact ⟨hf, ht, hk⟩
def kf (s : Str) (k : Int) (x : Int × Int) : List Ek := if (wrR s k x.1).2 = true ∧ (wrR s k x.2).2 = true then edgeP (wrR s k x.1).1 (wrR s k x.2).1 0 else []
theorem kf_ok {s : Str} (h : SOk s) (k : Int) (x : Int × Int) : ∀ e ∈ kf s k x, ekOk e := by
 unfold kf
 split
 ·exact edgeP_ok (F7 h _ _) (F7 h _ _) (by decide)
 ·simp
theorem key_c (hP : PE E) (W : AW) {p ra rw q g m : Nat} {s : Str} {os : Ods} {hn : V} {P : List Ek} (h : Bd W p ra rw q g m s os hn P) (k : Int) (k0 : 0 ≤ k) (k1 : k < 256) (hPl : (P ++ keyP s os k).length < 2 ^ 40) :
  ACalls E 40 [bV p q g, .int .u8 k] W fun Y W' => Y = .tuple [] ∧ W' = W.put m (gmap (P ++ keyP s os k)) := by
 refine ACalls.of hP Tryz.func40 ok_keye (by simp [bV]) fun _ hok => ?_
 refine Af hok ?_
 simp only [c_key, BZ, ↓reduceIte, nE, BM, BD, bV]
 refine (pairs_c hP _ q k).mono ?_
 rintro _ W0 ⟨q1, q2, rfl, h1, h2, h1n, h2n, hE⟩
 have hE0 : Ex W W0 := Ex.x0.trans hE
 have hb2 : W0.get (rf W.nx 0) = some (.row [.ptr p 0, .ptr q 0, .ptr g 0]) := by rw [hE.get _ (by simp [X, rf]), Ao]; rfl
 have hb3 : W0.get (rf W.nx 1) = some (.row [.int .u8 k]) := by rw [hE.get _ (by simp [X, rf]), Ao]; rfl
 have hb2n : rf W.nx 0 < W0.nx := by have := hE.nx; simp [X, rf] at this ⊢; omega
 have hb3n : rf W.nx 1 < W0.nx := by have := hE.nx; simp [X, rf] at this ⊢; omega
 have hB0 := h.ex hE0
 have hlm := h.lm
 obtain ⟨n1, n2, n3⟩ := h.nem
 have hm2 : rf W.nx 0 ≠ m := by simp only [rf]; omega
 have hm3 : rf W.nx 1 ≠ m := by simp only [rf]; omega
 have hkP : keyP s os k = ((keyO os k).zip (keyO os k).tail).flatMap (kf s k) := rfl
 obtain ⟨Z, hZ⟩ : ∃ Z, Z = (keyO os k).zip (keyO os k).tail := ⟨_, rfl⟩
 rw [← hZ] at hkP
 have hZl : Z.length = (keyO os k).length - 1 := by rw [hZ]; simp
 have hpart : ∀ i, ((Z.take i).flatMap (kf s k)).length ≤ (keyP s os k).length := fun i => by
  rw [hkP]
  conv => rhs; rw [← List.take_append_drop i Z, List.flatMap_append, lap]
  omega
 have hpok : ∀ i, ∀ x ∈ P ++ (Z.take i).flatMap (kf s k), ekOk x := fun i x hx => by
  rcases List.mem_append.1 hx with hx | hx
  ·exact h.pk x hx
  ·obtain ⟨z, _, hz⟩ := List.mem_flatMap.1 hx
   exact kf_ok h.st.ok k z x hz
 simp only [BS]
 refine Pr hP k0 k1 (q1 := q1) (q2 := q2) (q := q) (os := os) rfl h1 h2 h1n h2n hE0.cl (h.od.ex hE0) (fun i W1 => Cl W1 ∧ W0.nx < W1.nx ∧ (∀ x, x < W0.nx → x ≠ m → W1.get x = W0.get x) ∧ W1.get m = some (gmap (P ++ (Z.take i).flatMap (kf s k)))) ?_ ?_ ?_ ?_
 ·intro W1 hE1 hn1
  exact ⟨hE1.cl, hn1, fun x hx _ => hE1.get x hx, by rw [hE1.get _ hB0.lm, hB0.hm]; simp⟩
 ·exact fun i W1 h => h.2.1
 ·rintro i hi W1 ⟨j0, j1, j2, j3⟩ hl
  have hiZ : i < Z.length := by omega
  have hZi : Z[i] = ((keyO os k)[i], (keyO os k)[i + 1]) := by simp [hZ]
  have hstep : (Z.take (i + 1)).flatMap (kf s k) = (Z.take i).flatMap (kf s k) ++ kf s k Z[i] := by
   rw [tao, gEg hiZ, List.flatMap_append]; simp [List.flatMap]
  have hu := (Fw h.od k).2 _ (gmm (show i < (keyO os k).length by omega))
  have hv := (Fw h.od k).2 _ (gmm hi)
  have hB1 := hB0.to (W1 := W1.put W0.nx (.loop .busy none)) (P' := P ++ (Z.take i).flatMap (kf s k)) (by rw [Ae]; omega) (fun x hx hxm => by rw [put_ne (by omega)]; exact j2 x hx hxm) (by have := hB0.lm; rw [put_ne (by omega)]; exact j3) (hpok i)
  have g2 : (W1.put W0.nx (.loop .busy none)).get (rf W.nx 0) = some (.row [.ptr p 0, .ptr q 0, .ptr g 0]) := by rw [put_ne (by omega), j2 _ hb2n hm2]; exact hb2
  have g3 : (W1.put W0.nx (.loop .busy none)).get (rf W.nx 1) = some (.row [.int .u8 k]) := by rw [put_ne (by omega), j2 _ hb3n hm3]; exact hb3
  have hPi := hpart (i + 1)
  simp only [BZ, ↓reduceIte, nE, BM, hl]
  refine ⟨tt, ?_⟩
  simp only [BS, BC, ↓reduceIte, BM, BD, nA, nL, g2, g3]
  refine pc (Hr hP _ hB1.st k _ k0 k1 hu.1 hu.2) ?_
  simp only [BZ, ↓reduceIte, nE, BM, BD, nA, nL, g2, g3]
  refine pc (Hr hP _ hB1.st k _ k0 k1 hv.1 hv.2) ?_
  have hJ : ∀ {Q : List Ek}, Q = kf s k Z[i] → ∀ W3, W3 = (W1.put W0.nx (.loop .busy none)).put m (gmap (P ++ (Z.take i).flatMap (kf s k) ++ Q)) → W3.get W0.nx = some (.loop .busy none) ∧ Cl (W3.put W0.nx (.loop .ready none)) ∧ W0.nx < (W3.put W0.nx (.loop .ready none)).nx ∧ (∀ x, x < W0.nx → x ≠ m → (W3.put W0.nx (.loop .ready none)).get x = W0.get x) ∧ (W3.put W0.nx (.loop .ready none)).get m = some (gmap (P ++ (Z.take (i + 1)).flatMap (kf s k))) := by
   rintro Q rfl W3 rfl
   have hm0 : m ≠ W0.nx := by have := hB0.lm; omega
   have hm1 : m < W1.nx := by have := hB0.lm; omega
   refine ⟨by rw [put_ne hm0.symm, put_at], ?_, by simp only [Ae]; exact j1, fun x hx hxm => by rw [put_ne (by omega), put_ne hxm, put_ne (by omega)]; exact j2 x hx hxm, by rw [put_ne hm0, put_at, hstep, List.append_assoc]⟩
   exact Cl.put (Cl.put (Cl.put j0 j1) (by rw [Ae]; exact hm1)) (by simp only [Ae]; exact j1)
  cases c1 : (wrR s k (keyO os k)[i]).2 with
  | false =>
   simp only [BX, Aa, ↓reduceIte, nE, BM]
   refine ⟨tt, ?_⟩
   refine hJ (Q := []) (by rw [kf, hZi, if_neg (by simp [c1])]) _ ?_
   rw [apn]; exact (C0 hB1.hm).symm
  | true =>
   cases c2 : (wrR s k (keyO os k)[i + 1]).2 with
   | false =>
    simp only [BX, Aa, ↓reduceIte, nE]
    refine ⟨tt, ?_⟩
    refine hJ (Q := []) (by rw [kf, hZi, if_neg (by simp [c2])]) _ ?_
    rw [apn]; exact (C0 hB1.hm).symm
   | true =>
    simp only [BX, Aa, ↓reduceIte, nE, BM, BD, nA, nL, g2]
    refine (S9 hP _ hB1.hg hB1.hm hB1.lg hB1.lm (hpok i) ?_ _ _ 0 ⟨F7 h.st.ok _ _, F7 h.st.ok _ _, show (0 : Int) ≤ 0 ∧ (0 : Int) < 256 by decide⟩).mono ?_
    ·have := hpart i
     rw [lap] at hPl ⊢; omega
    rintro _ W3 ⟨rfl, hW3⟩
    simp only [BS]
    refine ⟨tt, hJ (Q := edgeP (wrR s k (keyO os k)[i]).1 (wrR s k (keyO os k)[i + 1]).1 0) (by rw [kf, hZi, if_pos ⟨c1, c2⟩]) _ hW3⟩
 ·rintro W1 ⟨j0, j1, j2, j3⟩ hl
  rw [← hZl, tkl, ← hkP] at j3
  have hpo := hpok Z.length
  rw [tkl, ← hkP] at hpo
  simp only [e_blk]
  refine ⟨_, Oa, .tuple [], W.put m (gmap (P ++ keyP s os k)), .weak (An (Eb hok hlm (Ff _ _)) rfl fun x hx => ?_), lr _, rfl, rfl⟩
  have hx' : x < W.nx := hx
  have hx0 : x < W0.nx := by have := hE0.nx; omega
  by_cases e : x = m
  ·subst e; rw [put_at, put_ne (by omega)]; exact j3
  ·rw [put_ne e, put_ne (by omega), j2 x hx0 e]; exact hE0.get x hx'
def c_read : AC := (.r [.u 3 .box 0,.u 5 .box 2] (.r [.u 13 (.fld 1) 5,.u 14 (.load false 1) 13,.u 15 (.len 1 0) 14,.m 6 15] (.seq (.r [.m 16 6,.a 17 (.bin .gtr) 16 0] (.cond (.t 17) (.seq (.par (.step 1 (.u 20 (.fld 0) 5) (.step 3 (.u 22 (.fld 1) 5) (.step 5 (.m 24 6) (.step 6 (.a 25 (.bin .sub) 24 1) (.step 0 (.u 19 (.load true 3) 3) (.step 2 (.u 21 (.load false 1) 20) (.step 4 (.u 23 (.load false 1) 22) (.step 7 (.b 26 (.idxp 1) 23 25) (.step 8 (.u 27 (.load false 1) 26) (.step 9 (.p 28 (.call 67) [.t 19,.t 21,.t 27]) (.step 10 (.m 18 28) (.step 11 (.u 29 (.ext 0) 18) (.step 12 (.u 30 (.ext 1) 18) (.step 13 (.m 7 29) (.step 14 (.m 8 30) .done)))))))))))))))) (.r [.m 31 8] (.cond (.t 31) (.reg [.u 32 (.load true 3) 3,.m 33 7,.m 34 1,.p 35 (.call 68) [.t 32,.t 33,.t 34,.c (.int .u8 1)]]) .skip))) .skip)) (.r [.u 37 (.fld 1) 3,.u 38 (.load false 1) 37,.u 39 (.fld 0) 5,.u 40 (.load false 1) 39,.m 41 6,.p 42 (.call 74) [.t 38,.t 40,.t 41],.m 36 42,.u 43 (.ext 0) 36,.u 44 (.ext 1) 36,.m 9 43,.m 10 44] (.r [.m 45 10] (.cond (.t 45) (.r [.u 47 (.load true 3) 3,.u 48 (.fld 0) 5,.u 49 (.load false 1) 48,.m 50 9,.p 51 (.call 67) [.t 47,.t 49,.t 50],.m 46 51,.u 52 (.ext 0) 46,.u 53 (.ext 1) 46,.m 11 52,.m 12 53] (.r [.m 54 12] (.cond (.t 54) (.reg [.u 55 (.load true 3) 3,.m 56 1,.m 57 11,.p 58 (.call 68) [.t 55,.t 56,.t 57,.c (.int .u8 2)]]) .skip))) .skip))))))
theorem Zp : compF Tryz.prog Tryz.f44 ⟨false, false, []⟩ = some (c_read, [], 59) := by kernel_rfl
def c_counts_0 : AC := (.r [.b 31 (.bin .lss) 30 29] (.seq (.w 31 0) (.seq (.block 1 (.r [.b 32 (.idxp 1) 28 30,.u 33 (.load false 1) 32,.m 8 33] (.r [.m 35 0,.u 36 (.fld 0) 5,.u 37 (.load false 1) 36,.m 38 8,.p 39 (.call 73) [.t 35,.t 37,.t 38],.m 34 39,.u 40 (.ext 0) 34,.u 41 (.ext 1) 34,.p 9 (.alloc [.int .u16 0,.int .u8 0,.nilsl,.nilsl,.int .u8 0]) [],⟨none,.store 5, [.t 9,.t 40], none⟩,.m 10 41] (.r [.m 42 10,.u 43 (.un .not) 42] (.cond (.t 43) (.r [.v 6 (.bool false)] .ret) .skip))))) (.reg [.a 44 (.bin .add) 30 1,.m 30 44]))))
def c_counts : AC := (.r [.u 5 .box 2,.v 6 (.bool false)] (.seq (.seq (.par (.step 0 (.m 11 0) (.step 1 (.p 12 (.eqn false 0) [.t 11,.c (.nilptr)]) (.step 2 (.m 13 12) (.step 3 (.M 14 1 13 false) (.step 4 (.P 15 (.eqn false 0) [.t 14,.c (.nilptr)] 13 false) (.step 5 (.p 16 .pick [.t 13,.T,.t 15]) (.step 6 (.m 17 16) (.step 7 (.U 18 (.fld 1) 5 17 false) (.step 9 (.M 20 1 17 false) (.step 10 (.U 21 (.fld 0) 5 17 false) (.step 8 (.U 19 (.load false 1) 18 17 false) (.step 11 (.U 22 (.load false 1) 21 17 false) (.step 12 (.B 23 (.pcall 72) 20 22 17 false) (.step 13 (.B 24 (.pcall 59) 19 23 17 false) (.step 14 (.U 25 (.un .not) 24 17 false) (.step 15 (.p 26 .pick [.t 17,.T,.t 25]) .done))))))))))))))))) (.cond (.t 26) (.r [.v 6 (.bool false)] .ret) .skip)) (.seq (.r [.u 27 (.fld 1) 5,.u 28 (.load false 1) 27,.u 29 (.len 1 0) 28,.v 30 (.int .i64 0)] (.block 0 (.loop c_counts_0))) (.r [.v 6 (.bool true)] .ret))))
theorem Sd : compF Tryz.prog Tryz.f43 ⟨false, false, []⟩ = some (c_counts, [.tmp 6], 45) := by kernel_rfl
def hd1 : AC → AC
 | .seq a _ => a
 | c => c
def tl1 : AC → AC
 | .seq _ b => b
 | c => c
def rdA : AC := hd1 (tl1 (tl1 c_read))
def rdB : AC := tl1 (tl1 (tl1 c_read))
theorem X2 : c_read = .seq (hd1 c_read) (.seq (hd1 (tl1 c_read)) (.seq rdA rdB)) := rfl
theorem rdB_go (hP : PE E) {W : AW} {p ra rw q g m b3 b5 : Nat} {s : Str} {os : Ods} {hn : V} {P : List Ek} (h : Bd W p ra rw q g m s os hn P) {b : Int} {r : Rd} (hb : 0 ≤ b ∧ b < 65536) (hr : 0 ≤ r.1 ∧ r.1 < 256)
  (hPl : (P ++ nextP s os b r).length < 2 ^ 40) {A : AFr} {Q : Exit → AFr → AW → Prop} (a1 : A 1 = some (.int .u16 b)) (a3 : A 3 = some (.ptr b3 0)) (a5 : A 5 = some (.ptr b5 0)) (a6 : A 6 = some (.int .i64 (nums r.2).length))
  (g3 : W.get b3 = some (.row [.ptr p 0, .ptr q 0, .ptr g 0])) (g5 : W.get b5 = some (.row [.int .u8 r.1, elV r.2]))
  (hQ : ∀ A', Q .normal A' (W.put m (gmap (P ++ nextP s os b r)))) : awp E rdB Q A W := by
 simp only [rdB, tl1, c_read, BZ, ↓reduceIte, nE, BM, BD, a3, a5, a6, g3, g5]
 refine pc (at_c hP W h.od r.1 hr.1 hr.2 (nums r.2).length) ?_
 cases hk : (keyO os r.1)[(nums r.2).length]? with
 | none =>
  have hk' : ¬ (nums r.2).length < (keyO os r.1).length := fun hlt => by rw [gEg hlt] at hk; cases hk
  have e : nextP s os b r = [] := by simp only [nextP, hk]
  simp only [BX, ↓reduceIte, nE, decide_eq_false hk']
  have := hQ
  rw [e, apn, C0 h.hm] at this
  exact this _
 | some v =>
  have hk' : (nums r.2).length < (keyO os r.1).length := by
   rcases Nat.lt_or_ge (nums r.2).length (keyO os r.1).length with h | h
   ·exact h
   ·rw [List.getElem?_eq_none h] at hk; cases hk
  have hv : 0 ≤ v ∧ v < 65536 := (Fw h.od r.1).2 v (List.mem_of_getElem? hk)
  simp only [BX, ↓reduceIte, nE, BM, BD, nA, nL, a3, a5, g3, g5, decide_eq_true hk', Option.getD_some]
  refine pc (Hr hP W h.st r.1 v hr.1 hr.2 hv.1 hv.2) ?_
  cases hw : (wrR s r.1 v).2 with
  | false =>
   have e : nextP s os b r = [] := by simp only [nextP, hk, hw]; simp
   simp only [BX, ↓reduceIte, nE]
   have := hQ
   rw [e, apn, C0 h.hm] at this
   exact this _
  | true =>
   have e : nextP s os b r = edgeP b (wrR s r.1 v).1 2 := by simp only [nextP, hk, hw, if_true]
   rw [e] at hQ hPl
   simp only [BX, ↓reduceIte, nE, BM, BD, nA, nL, a1, a3, g3]
   refine (S9 hP _ h.hg h.hm h.lg h.lm h.pk ?_ _ _ 2 ⟨hb, F7 h.st.ok _ _, show (0 : Int) ≤ 2 ∧ (2 : Int) < 256 by decide⟩).mono ?_
   ·rw [lap] at hPl; omega
   rintro _ W3 ⟨rfl, rfl⟩
   simp only [BS]
   exact hQ _
theorem last_at {l : List Int} (h : l ≠ []) : l.getLast? = some (l[l.length - 1]'(by have := List.length_pos_iff.2 h; omega)) := by
 rw [List.getLast?_eq_getElem?, gEg]
theorem rdA_go (hP : PE E) {W : AW} {p ra rw q g m b3 b5 : Nat} {s : Str} {os : Ods} {hn : V} {P : List Ek} (h : Bd W p ra rw q g m s os hn P) {b : Int} {r : Rd} (hb : 0 ≤ b ∧ b < 65536) (hr : 0 ≤ r.1 ∧ r.1 < 256) (hrl : (nums r.2).length < 2 ^ 40) (hrn : ∀ n ∈ nums r.2, 0 ≤ n ∧ n < 65536)
  (hPl : (P ++ lastP s b r).length < 2 ^ 40) {A : AFr} {Q : Exit → AFr → AW → Prop} (a1 : A 1 = some (.int .u16 b)) (a3 : A 3 = some (.ptr b3 0)) (a5 : A 5 = some (.ptr b5 0)) (a6 : A 6 = some (.int .i64 (nums r.2).length))
  (g3 : W.get b3 = some (.row [.ptr p 0, .ptr q 0, .ptr g 0])) (g5 : W.get b5 = some (.row [.int .u8 r.1, elV r.2]))
  (hQ : ∀ A', A' 1 = A 1 → A' 3 = A 3 → A' 5 = A 5 → A' 6 = A 6 → Q .normal A' (W.put m (gmap (P ++ lastP s b r)))) : awp E rdA Q A W := by
 have hs := (Cm r.2).isS
 by_cases hl0 : nums r.2 = []
 ·have e : lastP s b r = [] := by simp only [lastP, hl0]; rfl
  have hd : decide (((nums r.2).length : Int) > 0) = false := by simp [hl0]
  simp only [rdA, hd1, tl1, c_read, BX, ↓reduceIte, a6, hd]
  have := hQ
  rw [e, apn, C0 h.hm] at this
  refine this _ ?_ ?_ ?_ ?_ <;> simp only [BS, ↓reduceIte, nE, a1, a3, a5, a6]
 ·have hpos := List.length_pos_iff.2 hl0
  have hd : decide (((nums r.2).length : Int) > 0) = true := by simp; omega
  have hw1 : IntKind.i64.wrap ((nums r.2).length - 1 : Int) = ((nums r.2).length - 1 : Nat) := by
   have : ((nums r.2).length - 1 : Int) = ((nums r.2).length - 1 : Nat) := by omega
   rw [this]; exact Ov (by omega) (by omega)
  have hla := last_at hl0
  have hlt : (nums r.2).length - 1 < (nums r.2).length := by omega
  generalize hv : (nums r.2)[(nums r.2).length - 1]'hlt = v at hla
  have hvr : 0 ≤ v ∧ v < 65536 := hrn v (by rw [← hv]; exact gmm _)
  simp only [rdA, hd1, tl1, c_read, BX, ↓reduceIte, nE, BM, BD, nA, nL, a3, a5, a6, hd, g3, g5, hw1, hs.idx (Cc hlt), hv]
  refine pc (Hr hP W h.st r.1 v hr.1 hr.2 hvr.1 hvr.2) ?_
  cases hw : (wrR s r.1 v).2 with
  | false =>
   have e : lastP s b r = [] := by simp only [lastP, hla, hw]; simp
   simp only [BX, ↓reduceIte, nE]
   have := hQ
   rw [e, apn, C0 h.hm] at this
   refine this _ ?_ ?_ ?_ ?_ <;> simp only [BS, ↓reduceIte, nE, a1, a3, a5, a6]
  | true =>
   have e : lastP s b r = edgeP (wrR s r.1 v).1 b 1 := by simp only [lastP, hla, hw, if_true]
   rw [e] at hQ hPl
   simp only [BX, ↓reduceIte, nE, BM, BD, nA, nL, a1, a3, g3]
   refine (S9 hP _ h.hg h.hm h.lg h.lm h.pk ?_ _ _ 1 ⟨F7 h.st.ok _ _, hb, show (0 : Int) ≤ 1 ∧ (1 : Int) < 256 by decide⟩).mono ?_
   ·rw [lap] at hPl; omega
   rintro _ W3 ⟨rfl, rfl⟩
   simp only [BS]
   refine hQ _ ?_ ?_ ?_ ?_ <;> simp only [BS, ↓reduceIte, nE, a1, a3, a5, a6]
theorem Qb {s : Str} (h : SOk s) {b : Int} (hb : 0 ≤ b ∧ b < 65536) (r : Rd) : ∀ x ∈ lastP s b r, ekOk x := by
 intro x hx
 obtain ⟨v, _, _, _, e⟩ := L8.1 hx
 rw [e]; exact ⟨F7 h _ _, hb, show (0 : Int) ≤ 1 ∧ (1 : Int) < 256 by decide⟩
theorem nextP_ok {s : Str} (h : SOk s) (os : Ods) {b : Int} (hb : 0 ≤ b ∧ b < 65536) (r : Rd) : ∀ x ∈ nextP s os b r, ekOk x := by
 intro x hx
 obtain ⟨v, _, _, _, e⟩ := L7.1 hx
 rw [e]; exact ⟨hb, F7 h _ _, show (0 : Int) ≤ 2 ∧ (2 : Int) < 256 by decide⟩
theorem bread_c (hP : PE E) (W : AW) {p ra rw q g m : Nat} {s : Str} {os : Ods} {hn : V} {P : List Ek} (h : Bd W p ra rw q g m s os hn P) {b : Int} {r : Rd} (hb : 0 ≤ b ∧ b < 65536) (hr : 0 ≤ r.1 ∧ r.1 < 256) (hrl : (nums r.2).length < 2 ^ 40) (hrn : ∀ n ∈ nums r.2, 0 ≤ n ∧ n < 65536) (hPl : (P ++ readP s os b r).length < 2 ^ 40) :
  ACalls E 44 [bV p q g, .int .u16 b, rdV r] W fun Y W' => Y = .tuple [] ∧ W' = W.put m (gmap (P ++ readP s os b r)) := by
 refine ACalls.of hP Tryz.func44 Zp (by simp [bV]) fun _ hok => ?_
 refine Af hok ?_
 have hs := (Cm r.2).isS
 have hlm := h.lm
 have hPl1 : (P ++ lastP s b r).length < 2 ^ 40 := by simp only [readP, lap] at hPl ⊢; omega
 have hPl2 : (P ++ lastP s b r ++ nextP s os b r).length < 2 ^ 40 := by simp only [readP, lap] at hPl ⊢; omega
 rw [X2]
 simp only [hd1, tl1, c_read, BZ, ↓reduceIte, nE, BM, BD, bV, rdV, hs.len, Ak]
 refine rdA_go hP (h.ex .x0) hb hr hrl hrn hPl1 rfl rfl rfl rfl (by rw [Ao]; rfl) (by rw [Ao]; rfl) ?_
 intro A' q1 q3 q5 q6
 rw [D9 hlm]
 have hpk : ∀ x ∈ P ++ lastP s b r, ekOk x := fun x hx => by
  rcases List.mem_append.1 hx with hx | hx
  ·exact h.pk x hx
  ·exact Qb h.st.ok hb r x hx
 have h2 : Bd (X (W.put m (gmap (P ++ lastP s b r))) W.nx [.row [.ptr p 0, .ptr q 0, .ptr g 0], .row [.int .u8 r.1, elV r.2]]) p ra rw q g m s os hn (P ++ lastP s b r) :=
  h.to (by simp [X]) (fun x hx hxm => by rw [Aj hx, put_ne hxm]) (by rw [Aj hlm, put_at]) hpk
 refine rdB_go hP h2 hb hr hPl2 (q1.trans rfl) (q3.trans rfl) (q5.trans rfl) (q6.trans rfl) (by rw [Ao]; rfl) (by rw [Ao]; rfl) ?_
 intro A''
 rw [D9 hlm, Jt, List.append_assoc]
 exact ⟨_, Oa, _, _, I4 rfl (Eb hok hlm (Ff _ _)) rfl, lr _, rfl, rfl⟩
theorem counts_g (hP : PE E) (W : AW) {p ra rw q : Nat} {s : Str} {os : Ods} (hS : St W p ra rw s) (hO : Od W q os) {r : Rd} {v0 : V} (hv0 : isEl v0 r.2) (hr : 0 ≤ r.1 ∧ r.1 < 256) (hrl : (nums r.2).length < 2 ^ 40) (hrn : ∀ n ∈ nums r.2, 0 ≤ n ∧ n < 65536) :
  ACalls E 43 [.ptr p 0, .ptr q 0, .agg [.int .u8 r.1, v0]] W fun Y W' => Y = .bool (countsR s os r) ∧ W' = W := by
 refine ACalls.of hP Tryz.func43 Sd (by simp) fun _ hok => ?_
 refine Af hok ?_
 have hs := hv0.isS
 simp only [c_counts, BZ, Aa, ↓reduceIte, nE, reduceCtorEq, BM, BD]
 refine Ay (v := oV (keyO os r.1)) rfl (of_c' hP _ (hO.ex .x0) r.1 hr.1 hr.2) ?_
 have hk := Et (keyO os r.1)
 simp only [BS, Aa, ↓reduceIte, nE]
 refine Ay (v := .bool (begins (nums r.2) (keyO os r.1))) (by rw [mcs, mcs, List.map_nil, hs.frz, hk.frz]) (H9 hP _ hs hk hrl) ?_
 cases hb : begins (nums r.2) (keyO os r.1) with
 | false =>
  simp only [BX, Aa, ↓reduceIte, nE, BD]
  exact ⟨_, rfl, _, W, Ap hok rfl, lr _, by simp [countsR, hb], rfl⟩
 | true =>
  simp only [BX, Aa, ↓reduceIte, nE, BM, BD, hs.len, Ak]
  rw [Ai]
  refine alp (fun (k : Nat) A1 W1 => A1 0 = some (.ptr p 0) ∧ A1 5 = some (.ptr (rf W.nx 0) 0) ∧ A1 28 = some (v0) ∧ A1 29 = some (.int .i64 (nums r.2).length) ∧ A1 30 = some (.int .i64 k) ∧ k ≤ (nums r.2).length ∧ Ex W W1 ∧ rf W.nx 0 < W1.nx ∧ W1.get (rf W.nx 0) = some (.row [.int .u8 r.1, v0]) ∧ ((nums r.2).take k).all (fun v => (who s r.1 v).isSome) = true) (fun k => (nums r.2).length - k) 0
   ⟨rfl, rfl, rfl, rfl, rfl, Nat.zero_le _, .x0, by simp [X, rf], by rw [Ao]; rfl, rfl⟩ ?_
  rintro k A1 W1 ⟨g0, g5, g28, g29, g30, gk, gE, gn, gr, ga⟩ _
  refine Au gE.cl ?_
  by_cases hk1 : k < (nums r.2).length
  ·have hat := Cc hk1
   have hv := hrn _ (gmm hk1)
   have htk : (nums r.2).take (k + 1) = (nums r.2).take k ++ [(nums r.2)[k]] := by rw [tao, gEg hk1]; rfl
   generalize hvv : (nums r.2)[k] = v at hat hv htk
   simp (disch:=omega) only [c_counts_0, BX, ↓reduceIte, nE, reduceCtorEq, BM, BD, g0, g5, g28, g29, g30, clt, hk1, dT, hs.idx hat, gr]
   refine pc (Tl hP _ (hS.ex gE.X) r.1 v hr.1 hr.2 hv.1 hv.2) ?_
   cases hw : who s r.1 v with
   | none =>
    simp (disch:=omega) only [BX, ↓reduceIte, nE, BM, BD, nA, nL, nT, Ce, Cb, Option.isSome_none, Option.getD_none, Tx.V, Tx.zero]
    refine ⟨_, rfl, _, W, gE.X.back hok rfl, lr _, ?_, rfl⟩
    have : (nums r.2).all (fun v => (who s r.1 v).isSome) = false := by
     rw [List.all_eq_false]
     exact ⟨v, by rw [← hvv]; exact gmm _, by simp [hw]⟩
    simp [countsR, this]
   | some t =>
    simp (disch:=omega) only [BX, ↓reduceIte, nE, reduceCtorEq, BM, BD, nA, nL, nT, Ce, Cb, Option.isSome_some, Option.getD_some, Tx.V, g0, g5, g28, g29, g30, Ah]
    refine ⟨k + 1, ⟨tt, tt, tt, tt, tt, tt, gE.X, ?_, ?_, ?_⟩, by omega, ?_⟩
    ·simp only [rf] at gn; (try simp only [rf]); omega
    ·first | exact gr | (rw [Aj gn]; exact gr)
    ·rw [htk, List.all_append, ga]; simp [hw]
    ·have := gE.nx; simp only [rf]; omega
  ·obtain rfl : k = (nums r.2).length := by omega
   rw [tkl] at ga
   simp (disch:=omega) only [c_counts_0, BX, ↓reduceIte, BM, BD, g29, g30, clt, hk1, dF]
   exact ⟨_, rfl, _, W, gE.X.back hok rfl, lr _, by simp [countsR, hb, ga], rfl⟩
theorem counts_c (hP : PE E) (W : AW) {p ra rw q : Nat} {s : Str} {os : Ods} (hS : St W p ra rw s) (hO : Od W q os) {r : Rd} (hr : 0 ≤ r.1 ∧ r.1 < 256) (hrl : (nums r.2).length < 2 ^ 40) (hrn : ∀ n ∈ nums r.2, 0 ≤ n ∧ n < 65536) :
  ACalls E 43 [.ptr p 0, .ptr q 0, rdV r] W fun Y W' => Y = .bool (countsR s os r) ∧ W' = W := counts_g hP W hS hO (Cm r.2) hr hrl hrn
def c_build_B3_0 : AC := (.r [.b 52 (.bin .lss) 51 50] (.seq (.w 52 4) (.seq (.block 5 (.r [.b 53 (.idxp 2) 49 51,.u 54 (.load true 2) 53,.p 9 (.alloc [.int .u8 0,.nilsl]) [],⟨none,.store 2, [.t 9,.t 54], none⟩] (.r [.u 55 (.load false 1) 2,.u 56 (.load false 1) 3,.u 57 (.load true 2) 9,.p 58 (.call 43) [.t 55,.t 56,.t 57]] (.cond (.t 58) (.reg [.u 59 (.load true 3) 5,.u 60 (.fld 0) 7,.u 61 (.load false 1) 60,.u 62 (.load true 2) 9,.p 63 (.call 44) [.t 59,.t 61,.t 62]]) .skip)))) (.reg [.a 64 (.bin .add) 51 1,.m 51 64]))))
def c_build_B3 : AC := (.block 3 (.seq (.r [.u 32 (.load true 5) 7,.u 33 (.call 42) 32,.u 34 (.un .not) 33] (.cond (.t 34) (.exit 3) .skip)) (.seq (.par (.step 0 (.u 35 (.fld 2) 5) (.step 2 (.u 37 (.fld 2) 5) (.step 7 (.u 42 (.fld 0) 7) (.step 3 (.u 38 (.load false 1) 37) (.step 4 (.u 39 .nilck 38) (.step 5 (.u 40 (.fld 0) 39) (.step 6 (.u 41 (.load false 1) 40) (.step 8 (.u 43 (.load false 1) 42) (.step 9 (.u 44 (.bslice 1 1 (.int .u16 0) [0]) 43) (.alt (.step 1 (.u 36 (.load false 1) 35) (.step 10 (.b 45 (.append 1 2) 41 44) (.step 11 (.u 46 .nilck 36) (.step 12 (.u 47 (.fld 0) 46) (.step 13 ⟨none,.store 1, [.t 47,.t 45], none⟩ .done))))) (.step 10 (.b 45 (.append 1 2) 41 44) (.step 1 (.u 36 (.load false 1) 35) (.step 11 (.u 46 .nilck 36) (.step 12 (.u 47 (.fld 0) 46) (.step 13 ⟨none,.store 1, [.t 47,.t 45], none⟩ .done)))))))))))))))) (.r [.u 48 (.load true 5) 7,.u 49 (.call 32) 48,.u 50 (.len 1 0) 49,.v 51 (.int .i64 0)] (.block 4 (.loop c_build_B3_0))))))
def c_build_0 : AC := (.r [.p 23 (.bin .lss) [.t 22,.c (.int .u8 8)]] (.seq (.w 23 0) (.seq (.block 1 (.r [.m 24 22,.m 6 24] (.reg [.u 25 (.load true 3) 5,.m 26 6,.b 27 (.call 40) 25 26]))) (.reg [.p 28 (.bin .add) [.t 22,.c (.int .u8 1)],.m 22 28]))))
def c_build : AC := (.r [.u 2 .box 0,.u 3 .box 1,.v 4 (.nilptr)] (.seq (.r [.u 10 (.load false 1) 2,.p 11 (.eqn false 0) [.t 10,.c (.nilptr)],.m 12 11,.U 13 (.load false 1) 3 12 false,.P 14 (.eqn false 0) [.t 13,.c (.nilptr)] 12 false,.p 15 .pick [.t 12,.T,.t 14]] (.cond (.t 15) (.r [.v 4 (.nilptr)] .ret) .skip)) (.r [.u 16 (.load false 1) 2,.u 17 (.load false 1) 3,.p 18 .mkmap [],.u 19 (.build [.nilsl,.nilmap] [(1, 1)]) 18,.u 20 .box 19,.p 21 (.build [.nilptr,.nilptr,.nilptr] [(0, 1), (1, 1), (2, 1)]) [.t 16,.t 17,.t 20],.p 5 (.alloc [.nilptr,.nilptr,.nilptr]) [],⟨none,.store 3, [.t 5,.t 21], none⟩] (.seq (.r [.v 22 (.int .u8 0)] (.block 0 (.loop c_build_0))) (.seq (.r [.u 29 (.load false 1) 2,.u 30 (.call 41) 29] (.block 2 (.rangef (.t 30) [31] (.reg [.p 7 (.alloc [.int .u16 0,.int .u8 0,.nilsl,.nilsl,.int .u8 0]) [],⟨none,.store 5, [.t 7,.t 31], none⟩]) c_build_B3))) (.r [.u 65 (.fld 2) 5,.u 66 (.load false 1) 65,.m 4 66] .ret))))))
theorem Xa : compF Tryz.prog Tryz.f11 ⟨false, false, []⟩ = some (c_build, [.tmp 4], 67) := by kernel_rfl
def rf1 (s : Str) (os : Ods) (b : Int) (r : Rd) : List Ek := if countsR s os r = true then readP s os b r else []
theorem Y8 {s : Str} (h : SOk s) (os : Ods) {b : Int} (hb : 0 ≤ b ∧ b < 65536) (r : Rd) : ∀ x ∈ readP s os b r, ekOk x := by
 intro x hx
 rcases List.mem_append.1 hx with hx | hx
 ·exact Qb h hb r x hx
 ·exact nextP_ok h os hb r x hx
theorem Y5 {s : Str} (h : SOk s) (os : Ods) {b : Int} (hb : 0 ≤ b ∧ b < 65536) (r : Rd) : ∀ x ∈ rf1 s os b r, ekOk x := by
 unfold rf1
 split
 ·exact Y8 h os hb r
 ·simp
theorem Fg {α β : Type} {f : α → List β} {l : List α} {k : Nat} (h : k < l.length) : (l.take (k + 1)).flatMap f = (l.take k).flatMap f ++ f l[k] := by
 rw [tao, gEg h, List.flatMap_append]; simp [List.flatMap]
theorem flat_le {α β : Type} {f : α → List β} (l : List α) (k : Nat) : ((l.take k).flatMap f).length ≤ (l.flatMap f).length := by
 conv => rhs; rw [← List.take_append_drop k l, List.flatMap_append, lap]
 omega
theorem Rv {l : List Rd} {k : Nat} (h : k < l.length) : (l.map rdV)[k]? = some (rdV l[k]) := by simp [h]
theorem Gu (r : Rd) : (rdV r).cells = [.int .u8 r.1, elV r.2] := rfl
theorem D5 {t : Tx} (h : t.ok) : ∀ r ∈ readsR t, (nums r.2).length ≤ 32 ∧ ∀ n ∈ nums r.2, 0 ≤ n ∧ n < 65536 := by
 intro r hr
 unfold readsR at hr
 split at hr
 ·simp at hr
 ·exact h.ls _ (List.of_mem_zip (a := r.1) (b := r.2) hr).2
theorem Df {t : Tx} (h : t.ok) : (readsR t).length ≤ 8 := by
 unfold readsR
 split
 ·simp
 ·rw [List.length_zip]; have := h.lsl; omega
theorem rds_go (hP : PE E) {W0 : AW} {p ra rw q g m b2 b3 b5 b7 : Nat} {s : Str} {os : Ods} {hn : V} {P : List Ek} (hC : Cl W0) (h : Bd W0 p ra rw q g m s os hn P) {t : Tx} (ht : t.ok) {r7 : List V}
  (hPl : (P ++ (readsR t).flatMap (rf1 s os t.id)).length < 2 ^ 40) {A : AFr} {Q : Exit → AFr → AW → Prop} (a2 : A 2 = some (.ptr b2 0)) (a3 : A 3 = some (.ptr b3 0)) (a5 : A 5 = some (.ptr b5 0)) (a7 : A 7 = some (.ptr b7 0)) (a49 : A 49 = some (nowGS 2 ((readsR t).map rdV))) (a50 : A 50 = some (.int .i64 (readsR t).length)) (a51 : A 51 = some (.int .i64 0))
  (g2 : W0.get b2 = some (.row [.ptr p 0])) (g3 : W0.get b3 = some (.row [.ptr q 0])) (g5 : W0.get b5 = some (.row [.ptr p 0, .ptr q 0, .ptr g 0])) (g7 : W0.get b7 = some (.row (.int .u16 t.id :: r7)))
  (l2 : b2 < W0.nx) (l3 : b3 < W0.nx) (l5 : b5 < W0.nx) (l7 : b7 < W0.nx)
  (hQ : ∀ A' W', Cl W' → W0.nx ≤ W'.nx → (∀ x, x < W0.nx → x ≠ m → W'.get x = W0.get x) → W'.get m = some (gmap (P ++ (readsR t).flatMap (rf1 s os t.id))) → Q (.exit 4) A' W') : ALoop (awp E c_build_B3_0) Q A W0 := by
 have hsl := Cr 2 ((readsR t).map rdV)
 have htid := And.intro ht.id0 ht.id1
 have n2 : b2 ≠ m := by rintro rfl; have := g2.symm.trans h.hm; cases this
 have n3 : b3 ≠ m := by rintro rfl; have := g3.symm.trans h.hm; cases this
 have n5 : b5 ≠ m := by rintro rfl; have := g5.symm.trans h.hm; cases this
 have n7 : b7 ≠ m := by rintro rfl; have := g7.symm.trans h.hm; cases this
 have hlm := h.lm
 have hr8 := Df ht
 have hpok : ∀ i, ∀ x ∈ P ++ ((readsR t).take i).flatMap (rf1 s os t.id), ekOk x := fun i x hx => by
  rcases List.mem_append.1 hx with hx | hx
  ·exact h.pk x hx
  ·obtain ⟨z, _, hz⟩ := List.mem_flatMap.1 hx
   exact Y5 h.st.ok os htid z x hz
 refine alp (fun (k : Nat) A1 W1 => A1 2 = some (.ptr b2 0) ∧ A1 3 = some (.ptr b3 0) ∧ A1 5 = some (.ptr b5 0) ∧ A1 7 = some (.ptr b7 0) ∧ A1 49 = some (nowGS 2 ((readsR t).map rdV)) ∧ A1 50 = some (.int .i64 (readsR t).length) ∧ A1 51 = some (.int .i64 k) ∧ k ≤ (readsR t).length ∧
  Cl W1 ∧ W0.nx ≤ W1.nx ∧ (∀ x, x < W0.nx → x ≠ m → W1.get x = W0.get x) ∧ W1.get m = some (gmap (P ++ ((readsR t).take k).flatMap (rf1 s os t.id)))) (fun k => (readsR t).length - k) 0
  ⟨a2, a3, a5, a7, a49, a50, a51, Nat.zero_le _, hC, lr _, fun _ _ _ => rfl, by simpa using h.hm⟩ ?_
 rintro k A1 W1 ⟨q2, q3, q5, q7, q49, q50, q51, qk, jC, jn, jg, jm⟩ _
 by_cases hk1 : k < (readsR t).length
 ·have hB := h.to (P' := P ++ ((readsR t).take k).flatMap (rf1 s os t.id)) jn jg jm (hpok k)
  have hrk := Dg ht.ms _ (gmm hk1)
  have hrn := D5 ht _ (gmm hk1)
  have hst := Fg (f := rf1 s os t.id) hk1
  have hat := Rv hk1
  have hle := flat_le (f := rf1 s os t.id) (readsR t) (k + 1)
  generalize (readsR t)[k] = r at hrk hrn hst hat
  have k2 := (jg _ l2 n2).trans g2
  have k3 := (jg _ l3 n3).trans g3
  have k5 := (jg _ l5 n5).trans g5
  have k7 := (jg _ l7 n7).trans g7
  have hm1 := hB.lm
  have hre := (Cm r.2).isS
  refine Au jC ?_
  simp (disch:=omega) only [c_build_B3_0, BX, ↓reduceIte, nE, BM, BD, nA, nL, nT, q2, q3, q49, q50, q51, clt, hk1, dT, hsl.idx hat, Gu, hre.one, k2, k3]
  refine pc (counts_c hP _ (hB.st.ex .x0) (hB.od.ex .x0) (r := r) hrk (by have := hrn.1; omega) hrn.2) ?_
  cases hc : countsR s os r with
  | false =>
   have e : rf1 s os t.id r = [] := by simp [rf1, hc]
   rw [e, apn] at hst
   simp (disch:=omega) only [BS, BC, Ad, ↓reduceIte, nE, BM, BD, q2, q3, q5, q7, q49, q50, q51, Ah]
   refine ⟨k + 1, ⟨tt, tt, tt, tt, tt, tt, tt, tt, Cl.X, by simp only [rf]; omega, fun x hx hxm => by rw [Aj (by omega)]; exact jg x hx hxm, by (try rw [Aj hm1]); rw [hst]; exact jm⟩, by omega, by simp only [rf]; omega⟩
  | true =>
   have e : rf1 s os t.id r = readP s os t.id r := by simp [rf1, hc]
   rw [e] at hst
   simp (disch:=omega) only [BS, BC, Ad, ↓reduceIte, nE, BM, BD, nA, nL, q5, q7, k5, k7]
   refine (bread_c hP _ (hB.ex .x0) htid (r := r) hrk (by have := hrn.1; omega) hrn.2 ?_).mono ?_
   ·rw [List.append_assoc, ← hst]
    rw [lap] at hPl ⊢
    omega
   rintro _ W3 ⟨rfl, rfl⟩
   simp (disch:=omega) only [BS, ↓reduceIte, nE, BM, BD, q2, q3, q5, q7, q49, q50, q51, Ah]
   refine ⟨k + 1, ⟨tt, tt, tt, tt, tt, tt, tt, tt, Cl.X, by simp only [rf]; omega, fun x hx hxm => by rw [Aj (by omega), put_ne hxm]; exact jg x hx hxm, ?_⟩, by omega, by simp only [rf]; omega⟩
   (try rw [Aj hm1]); rw [put_at, hst, List.append_assoc]
 ·obtain rfl : k = (readsR t).length := by omega
  rw [tkl] at jm
  simp (disch:=omega) only [c_build_B3_0, BX, ↓reduceIte, q50, q51, clt, hk1, dF]
  exact hQ _ _ jC jn jg jm
theorem I1 {b : Bool} {r s n : Nat} : (V.buf b r s n).cells = [.buf b r s n] := id rfl
theorem Ng {b : Bool} {r s n : Nat} : (V.buf b r s n).one = true := id rfl
theorem bs1 {W : AW} {K : V → AW → Prop} {a : Int} : sem E (.bslice 1 1 (.int .u16 0) [0]) [.int .u16 a] W K = K (.sl 1 true [.int .u16 a]) W := by
 simp [sem, rsem, tsem, fillE, V.cells]
theorem nowG.cells1 {W : AW} {h : V} {xs : List V} {s lo : Nat} (hn : nowG W h xs s lo) : h.cells = [h] ∧ h.one = true := by
 rcases hn with ⟨rfl, rfl⟩ | ⟨r, h1, h2, rfl, h4, h5⟩
 ·exact ⟨rfl, rfl⟩
 ·exact ⟨rfl, rfl⟩
theorem Bd.lo {W W1 : AW} {p ra rw q g m lo : Nat} {s : Str} {os : Ods} {hn hn' : V} {P P' : List Ek} (h : Bd W p ra rw q g m s os hn P) (hl : p < lo ∧ ra < lo ∧ rw < lo ∧ q < lo ∧ g < lo ∧ m < lo) (gne : g ≠ p ∧ g ≠ q ∧ g ≠ ra ∧ g ≠ rw) (hn1 : W.nx ≤ W1.nx) (hlo : lo ≤ W.nx) (hx : ∀ x, x < lo → x ≠ g → x ≠ m → W1.get x = W.get x)
  (hg : W1.get g = some (.row [hn', .map m])) (hm : W1.get m = some (gmap P')) (hk : ∀ x ∈ P', ekOk x) : Bd W1 p ra rw q g m s os hn' P' := by
 obtain ⟨n1, n2, n3⟩ := h.nem
 obtain ⟨e1, e2, e3, e4⟩ := gne
 obtain ⟨l1, l2, l3, l4, l5, l6⟩ := hl
 exact ⟨h.st.by hn1 (hx _ l1 e1.symm n1) (hx _ l2 e3.symm h.mra.symm) (hx _ l3 e4.symm h.mrw.symm), h.od.by hn1 (hx _ l4 e2.symm n2), hg, hm, by omega, by omega, h.mra, h.mrw, hk⟩
def nodeP (t : Tx) : List Int := if t.st = 2 then [] else [t.id]
theorem Xh (s : Str) : nodesR s = s.flatMap nodeP := by
 induction s with
 | nil => rfl
 | cons t s ih =>
  simp only [nodesR, List.filter_cons, List.flatMap_cons, nodeP] at ih ⊢
  rw [← ih]
  by_cases h : t.st = 2
  ·simp [h]
  ·simp [h]
theorem b3_go (hP : PE E) {W1 : AW} {p ra rw q g m b2 b3 b5 b7 lo : Nat} {s : Str} {os : Ods} {hn : V} {P : List Ek} {N : List Int} (hC : Cl W1) (h : Bd W1 p ra rw q g m s os hn P) (hnow : nowG W1 hn (intsV N) 1 lo) (hlo : lo ≤ W1.nx) (hgl : g < lo) (hml : m < lo) (hst : p < lo ∧ ra < lo ∧ rw < lo ∧ q < lo) (gne : g ≠ p ∧ g ≠ q ∧ g ≠ ra ∧ g ≠ rw) (hN : N.length < 2 ^ 20) {t : Tx} (ht : t.ok)
  (hPl : (P ++ txnP s os t).length < 2 ^ 40) {A : AFr} {Q : Exit → AFr → AW → Prop} (a2 : A 2 = some (.ptr b2 0)) (a3 : A 3 = some (.ptr b3 0)) (a5 : A 5 = some (.ptr b5 0)) (a7 : A 7 = some (.ptr b7 0))
  (g2 : W1.get b2 = some (.row [.ptr p 0])) (g3 : W1.get b3 = some (.row [.ptr q 0])) (g5 : W1.get b5 = some (.row [.ptr p 0, .ptr q 0, .ptr g 0])) (g7 : W1.get b7 = some (.row [.int .u16 t.id, .int .u8 t.client, msV t.ms, lsV t.ls, .int .u8 t.st]))
  (l2 : b2 < lo) (l3 : b3 < lo) (l5 : b5 < lo) (l7 : b7 < W1.nx) (n2 : b2 ≠ g) (n3 : b3 ≠ g) (n7 : b7 ≠ g)
  (hQ : ∀ A' W' hn', Cl W' → W1.nx ≤ W'.nx → (∀ x, x < W1.nx → x ≠ m → x ≠ g → (x < lo ∨ ∀ ys, W1.get x ≠ some (.buf true 1 ys)) → W'.get x = W1.get x) → W'.get g = some (.row [hn', .map m]) → W'.get m = some (gmap (P ++ txnP s os t)) → nowG W' hn' (intsV (N ++ nodeP t)) 1 lo → Q .normal A' W') : awp E c_build_B3 Q A W1 := by
 have hbv : ∀ x : V, V.agg [.int .u16 t.id, .int .u8 t.client, msV t.ms, lsV t.ls, .int .u8 t.st] = t.V := fun _ => rfl
 have n5 : b5 ≠ g := by rintro rfl; have := g5.symm.trans h.hg; simp at this
 simp only [c_build_B3, BZ, ↓reduceIte, BM, BD, nA, nL, a7, g7]
 refine pc (J2 hP _ t) ?_
 by_cases hs2 : t.st = 2
 ·simp only [BS, Ad, ↓reduceIte, BD, show decide (t.st ≠ 2) = false by simp [hs2]]
  have e1 : txnP s os t = [] := by simp [txnP, hs2]
  have e2 : nodeP t = [] := by simp [nodeP, hs2]
  rw [e1, e2, apn, apn] at hQ
  exact hQ _ _ hn hC (lr _) (fun _ _ _ _ _ => rfl) h.hg h.hm hnow
 ·have e1 : txnP s os t = (readsR t).flatMap (rf1 s os t.id) := by simp only [txnP, if_neg hs2]; rfl
  have e2 : nodeP t = [t.id] := by simp [nodeP, hs2]
  rw [e1] at hQ hPl
  rw [e2] at hQ
  have hg5 := h.hg
  have ones : (V.int IntKind.u16 t.id).cells.all V.one = true := rfl
  have hsn : intsV (N ++ [t.id]) = intsV N ++ [.int .u16 t.id] := by simp [intsV]
  have hlen : (intsV N).length = N.length := Ak N
  -- what is left, behind the append
  have fin : ∀ (A' : AFr) (h' : V) (W' : AW), A' 2 = some (.ptr b2 0) → A' 3 = some (.ptr b3 0) → A' 5 = some (.ptr b5 0) → A' 7 = some (.ptr b7 0) → nowG W' h' (intsV N ++ [.int .u16 t.id]) 1 lo → Cl W' → W1.nx ≤ W'.nx → (∀ y, y < W1.nx → (y < lo ∨ ∀ ys, W1.get y ≠ some (.buf true 1 ys)) → W'.get y = W1.get y) →
    awp E (.seq (.reg [⟨(some 48), .load true 5, [.t 7], none⟩, ⟨(some 49), .call 32, [.t 48], none⟩, ⟨(some 50), .len 1 0, [.t 49], none⟩, ⟨(some 51), .mov, [.c (.int .i64 0)], none⟩]) (.block 4 (.loop c_build_B3_0))) (blockQ 3 Q) A' (W'.put g (.row [h', .map m])) := by
   intro A' h' W' q2 q3 q5 q7 gN gC gn gg
   have hgm : g ≠ m := h.nem.2.2
   have hB : Bd (W'.put g (.row [h', .map m])) p ra rw q g m s os h' P :=
    h.lo (lo := lo) ⟨hst.1, hst.2.1, hst.2.2.1, hst.2.2.2, hgl, hml⟩ gne (by rw [Ae]; exact gn) hlo (fun x hx hxg _ => by rw [put_ne hxg]; exact gg x (by omega) (.inl hx)) put_at (by rw [put_ne hgm.symm, gg _ h.lm (.inl hml)]; exact h.hm) h.pk
   have k2 : (W'.put g (.row [h', .map m])).get b2 = some (.row [.ptr p 0]) := by rw [put_ne n2, gg _ (by omega) (.inl l2)]; exact g2
   have k3 : (W'.put g (.row [h', .map m])).get b3 = some (.row [.ptr q 0]) := by rw [put_ne n3, gg _ (by omega) (.inl l3)]; exact g3
   have k5 : (W'.put g (.row [h', .map m])).get b5 = some (.row [.ptr p 0, .ptr q 0, .ptr g 0]) := by rw [put_ne n5, gg _ (by omega) (.inl l5)]; exact g5
   have k7 : (W'.put g (.row [h', .map m])).get b7 = some (.row [.int .u16 t.id, .int .u8 t.client, msV t.ms, lsV t.ls, .int .u8 t.st]) := by rw [put_ne n7, gg _ l7 (.inr fun ys => by rw [g7]; simp)]; exact g7
   have hsl := Cr 2 ((readsR t).map rdV)
   simp only [BZ, ↓reduceIte, BM, BD, nA, nL, q7, k7]
   refine pc (Js hP _ ht) ?_
   simp only [BS, ↓reduceIte, hsl.len, lmp]
   rw [Ai]
   refine rds_go hP (gC.put (by omega)) hB ht hPl (b2 := b2) (b3 := b3) (b5 := b5) (b7 := b7) q2 q3 q5 q7 rfl rfl rfl k2 k3 k5 k7 (by rw [Ae]; omega) (by rw [Ae]; omega) (by rw [Ae]; omega) (by rw [Ae]; omega) ?_
   intro A'' W'' fC fn ff fm
   rw [Ae] at fn
   simp only [BS, ↓reduceIte]
   have hgn : g < W'.nx := by omega
   refine hQ _ W'' h' fC (by omega) (fun x hx hxm hxg hc => ?_) ?_ fm ?_
   ·rw [ff x (by rw [Ae]; omega) hxm, put_ne hxg]; exact gg x hx hc
   ·rw [ff g (by rw [Ae]; omega) hgm, put_at]
   ·rw [hsn]
    refine gN.to fn fun r hr1 hr2 _ => ?_
    rw [ff r (by rw [Ae]; omega) (by omega), put_ne (by omega)]
  have hlen2 : ((intsV N).length + 1) * 2 ≤ 2 ^ 46 := by rw [hlen]; omega
  simp only [BX, ↓reduceIte, nE, BM, BD, show decide (t.st ≠ 2) = true by simp [hs2], a5, a7, g5, g7, hg5, bs1]
  constructor
  ·refine Ia (lo := lo) hnow hC hlo (by decide) ones hlen2 ?_
   intro h' W' gN gC gn gg1 gg2
   have hg' : W'.get g = some (.row [hn, .map m]) := by rw [gg2 _ hgl]; exact hg5
   simp only [BS, ↓reduceIte, nE, BM, BD, nA, nL, gN.cells1.1, gN.cells1.2, hg']
   exact fin _ h' W' a2 a3 a5 a7 gN gC gn fun y hy hc => hc.elim (gg2 y) (gg1 y hy)
  ·refine Ia (lo := lo) hnow hC hlo (by decide) ones hlen2 ?_
   intro h' W' gN gC gn gg1 gg2
   have hg' : W'.get g = some (.row [hn, .map m]) := by rw [gg2 _ hgl]; exact hg5
   have h5' : W'.get b5 = some (.row [.ptr p 0, .ptr q 0, .ptr g 0]) := by rw [gg2 _ l5]; exact g5
   simp only [BS, BC, ↓reduceIte, nE, BM, BD, nA, nL, gN.cells1.1, gN.cells1.2, hg', h5']
   exact fin _ h' W' a2 a3 a5 a7 gN gC gn fun y hy hc => hc.elim (gg2 y) (gg1 y hy)
structure Gr (W : AW) (g m : Nat) (h : V) (P : List Ek) (N : List Int) (lo : Nat) : Prop where
 hg : W.get g = some (.row [h, .map m])
 hm : W.get m = some (gmap P)
 now : nowG W h (intsV N) 1 lo
 lg : g < W.nx
 lm : m < W.nx
 gg : lo ≤ g
 gm : lo ≤ m
 pk : ∀ x ∈ P, ekOk x
 pl : P.length < 2 ^ 32
 nl : N.length < 2 ^ 20
theorem Iz (f t k : Int) : (edgeP f t k).length ≤ 1 := by unfold edgeP; split <;> simp
theorem Xp (s : Str) (b : Int) (r : Rd) : (lastP s b r).length ≤ 1 := by
 unfold lastP
 split
 ·split
  ·exact Iz _ _ _
  ·simp
 ·simp
theorem Xl (s : Str) (os : Ods) (b : Int) (r : Rd) : (nextP s os b r).length ≤ 1 := by
 unfold nextP
 split
 ·split
  ·exact Iz _ _ _
  ·simp
 ·simp
theorem Cp {α β : Type} {f : α → List β} {n : Nat} : ∀ {l : List α}, (∀ x ∈ l, (f x).length ≤ n) → (l.flatMap f).length ≤ l.length * n
 | [], _ => by simp
 | x :: l, h => by
  have h1 := h x (by simp)
  have h2 := Cp (l := l) (f := f) (n := n) fun y hy => h y (by simp [hy])
  rw [List.flatMap_cons, lap, lcs, Nat.add_mul]; omega
theorem Yl {s : Str} {os : Ods} {t : Tx} (h : t.ok) : (txnP s os t).length ≤ 16 := by
 unfold txnP
 split
 ·simp
 ·have := Cp (f := fun r => if countsR s os r = true then readP s os t.id r else []) (n := 2) (l := readsR t) fun r _ => by
   split
   ·have h1 := Xp s t.id r
    have h2 := Xl s os t.id r
    rw [readP, lap]; omega
   ·simp
  have h8 := Df h
  omega
theorem keyP_len {W : AW} {q : Nat} {s : Str} {os : Ods} (h : Od W q os) (k : Int) : (keyP s os k).length ≤ 32 := by
 have := Cp (f := kf s k) (n := 1) (l := (keyO os k).zip (keyO os k).tail) fun x _ => by
  unfold kf
  split
  ·exact Iz _ _ _
  ·simp
 have h1 := (Fw h k).1
 have h2 : ((keyO os k).zip (keyO os k).tail).length ≤ 32 := by rw [List.length_zip]; omega
 have h3 : keyP s os k = ((keyO os k).zip (keyO os k).tail).flatMap (kf s k) := rfl
 rw [h3]; omega
theorem Th {W : AW} {q : Nat} {s : Str} {os : Ods} (hs : SOk s) (h : Od W q os) : (buildP s os).length < 2 ^ 21 := by
 have h1 := Cp (f := fun (k : Nat) => keyP s os (k : Int)) (n := 32) (l := List.range 8) fun k _ => keyP_len h k
 have h2 := Cp (f := txnP s os) (n := 16) (l := s) fun t ht => Yl (hs.ok t ht)
 have h3 := Hb hs
 have h4 : (List.range 8).length = 8 := rfl
 rw [buildP, keysP, lap]
 omega
theorem Mx {s : Str} {os : Ods} (hs : SOk s) : ∀ x ∈ buildP s os, ekOk x := by
 intro x hx
 rcases List.mem_append.1 hx with hx | hx
 ·obtain ⟨k, _, hx⟩ := List.mem_flatMap.1 hx
  obtain ⟨z, _, hz⟩ := List.mem_flatMap.1 hx
  exact kf_ok hs _ z x hz
 ·obtain ⟨t, ht, hx⟩ := List.mem_flatMap.1 hx
  have hto := hs.ok t ht
  unfold txnP at hx
  split at hx
  ·simp at hx
  ·obtain ⟨r, _, hr⟩ := List.mem_flatMap.1 hx
   exact Y5 hs os ⟨hto.id0, hto.id1⟩ r x hr
theorem Xg (s : Str) : (nodesR s).length ≤ s.length := by
 simp only [nodesR, lmp]; exact List.length_filter_le _ _
theorem Ly {s : Str} {os : Ods} (hs : SOk s) {P' : List Ek} (h : P' <+: buildP s os) : ∀ x ∈ P', ekOk x := fun x hx => Mx hs x (h.subset hx)
theorem u8add1 {k : Nat} (h : k < 100) : IntKind.u8.wrap ((k : Int) + 1) = ((k + 1 : Nat) : Int) := by
 simp only [IntKind.wrap, IntKind.signed, IntKind.bits]; simp; omega
theorem build_c (hP : PE E) (W : AW) {p ra rw q : Nat} {s : Str} {os : Ods} (hS : St W p ra rw s) (hO : Od W q os) :
  ACalls E 11 [.ptr p 0, .ptr q 0] W fun Y W' => ∃ g m h, Y = .ptr g 0 ∧ Gr W' g m h (buildP s os) (nodesR s) W.nx ∧ Ex W W' := by
 refine ACalls.of hP Tryz.func11 Xa (by simp) fun _ hok => ?_
 refine Af hok ?_
 have hlp := hS.lp
 have hla := hS.la
 have hlw := hS.lw
 have hlq := hO.lq
 have hbl := Th hS.ok hO
 have hsl := Hb hS.ok
 simp only [c_build, BX, Aa, ↓reduceIte, nE, BM, BD, nA, nL, nT]
 rw [Ai]
 obtain ⟨W0, hW0⟩ : ∃ W0, W0 = X W W.nx [.row [.ptr p 0], .row [.ptr q 0], .map [] 0, .row [.nilsl, .map (rf W.nx 2)], .row [.ptr p 0, .ptr q 0, .ptr (rf W.nx 3) 0]] := ⟨_, rfl⟩
 rw [← hW0]
 have hE0 : Ex W W0 := by rw [hW0]; exact .x0
 have hn0 : W0.nx = W.nx + 5 := by rw [hW0]; rfl
 have r0 : rf W.nx 0 = W.nx := rfl
 have r1 : rf W.nx 1 = W.nx + 1 := rfl
 have r2 : rf W.nx 2 = W.nx + 2 := rfl
 have r3 : rf W.nx 3 = W.nx + 3 := rfl
 have r4 : rf W.nx 4 = W.nx + 4 := rfl
 have w0 : W0.get (rf W.nx 0) = some (.row [.ptr p 0]) := by rw [hW0, Ao]; rfl
 have w1 : W0.get (rf W.nx 1) = some (.row [.ptr q 0]) := by rw [hW0, Ao]; rfl
 have w2 : W0.get (rf W.nx 2) = some (gmap []) := by rw [hW0, Ao]; rfl
 have w3 : W0.get (rf W.nx 3) = some (.row [.nilsl, .map (rf W.nx 2)]) := by rw [hW0, Ao]; rfl
 have w4 : W0.get (rf W.nx 4) = some (.row [.ptr p 0, .ptr q 0, .ptr (rf W.nx 3) 0]) := by rw [hW0, Ao]; rfl
 have hB0 : Bd W0 p ra rw q (rf W.nx 3) (rf W.nx 2) s os .nilsl [] := ⟨hS.ex hE0, hO.ex hE0, w3, w2, by omega, by omega, by omega, by omega, by simp⟩
 clear hW0
 refine alp (fun (k : Nat) A1 W1 => A1 2 = some (.ptr (rf W.nx 0) 0) ∧ A1 3 = some (.ptr (rf W.nx 1) 0) ∧ A1 5 = some (.ptr (rf W.nx 4) 0) ∧ A1 22 = some (.int .u8 k) ∧ k ≤ 8 ∧ W1 = W0.put (rf W.nx 2) (gmap ((List.range k).flatMap fun (j : Nat) => keyP s os (j : Int)))) (fun k => 8 - k) 0
  ⟨rfl, rfl, rfl, rfl, Nat.zero_le _, (C0 w2).symm⟩ ?_
 rintro k A1 W1 ⟨q2, q3, q5, q22, qk, rfl⟩ _
 have hpre : ∀ j, j ≤ 8 → ((List.range j).flatMap fun (j : Nat) => keyP s os (j : Int)) <+: keysP s os := by
  intro j hj
  have : List.range 8 = List.range j ++ (List.range (8 - j)).map (j + ·) := by rw [← List.range_add]; congr 1; omega
  rw [keysP, this, List.flatMap_append]; exact List.prefix_append _ _
 have hkb : keysP s os <+: buildP s os := List.prefix_append _ _
 have hB1 : Bd (W0.put (rf W.nx 2) (gmap ((List.range k).flatMap fun (j : Nat) => keyP s os (j : Int)))) p ra rw q (rf W.nx 3) (rf W.nx 2) s os .nilsl ((List.range k).flatMap fun (j : Nat) => keyP s os (j : Int)) :=
  hB0.to (by rw [Ae]; omega) (fun x _ hx => put_ne hx) put_at (Ly hS.ok ((hpre k qk).trans hkb))
 have v4 : (W0.put (rf W.nx 2) (gmap ((List.range k).flatMap fun (j : Nat) => keyP s os (j : Int)))).get (rf W.nx 4) = some (.row [.ptr p 0, .ptr q 0, .ptr (rf W.nx 3) 0]) := by rw [put_ne (by omega)]; exact w4
 by_cases hk : k < 8
 ·have hk' : decide ((k : Int) < 8) = true := by simp; omega
  have hst : ((List.range (k + 1)).flatMap fun (j : Nat) => keyP s os (j : Int)) = ((List.range k).flatMap fun (j : Nat) => keyP s os (j : Int)) ++ keyP s os k := by
   rw [List.range_succ, List.flatMap_append]; simp [List.flatMap]
  have hle := ((hpre (k + 1) hk).trans hkb).length_le
  simp (disch:=omega) only [c_build_0, BX, ↓reduceIte, nE, BM, BD, nA, nL, q5, q22, hk', v4]
  refine (key_c hP _ hB1 k (by omega) (by omega) (by rw [← hst]; omega)).mono ?_
  rintro _ W3 ⟨rfl, rfl⟩
  simp (disch:=omega) only [BS, ↓reduceIte, nE, q2, q3, q5, q22, u8add1]
  refine ⟨k + 1, ⟨tt, tt, tt, tt, hk, ?_⟩, by omega, by simp only [Ae]; omega⟩
  rw [Jt, hst]
 ·obtain rfl : k = 8 := by omega
  have hk' : decide (((8 : Nat) : Int) < 8) = false := by decide
  obtain ⟨W1, hW1⟩ : ∃ W1, W1 = W0.put (rf W.nx 2) (gmap ((List.range 8).flatMap fun (j : Nat) => keyP s os (j : Int))) := ⟨_, rfl⟩
  rw [← hW1] at hB1 v4 ⊢
  have hn1 : W1.nx = W.nx + 5 := by rw [hW1, Ae]; exact hn0
  have hg1 : ∀ x, x ≠ rf W.nx 2 → W1.get x = W0.get x := fun x hx => by rw [hW1, put_ne hx]
  have v0 : W1.get (rf W.nx 0) = some (.row [.ptr p 0]) := by rw [hg1 _ (by omega)]; exact w0
  have v1 : W1.get (rf W.nx 1) = some (.row [.ptr q 0]) := by rw [hg1 _ (by omega)]; exact w1
  have hC1 : Cl W1 := by rw [hW1]; exact hE0.cl.put (by omega)
  have hE1 : Ex W W1 := ⟨hC1, by omega, fun x hx => by rw [hg1 _ (by omega)]; exact hE0.get x hx⟩
  clear hW1
  simp (disch:=omega) only [c_build_0, BX, ↓reduceIte, nE, BM, q2, q22, hk', v0]
  refine (all_c hP _ p).mono ?_
  rintro _ W2 ⟨rfl, rfl⟩
  simp (disch:=omega) only [BS]
  obtain ⟨W2, hW2⟩ : ∃ W2, W2 = W1.alloc (.row [.ptr p 0]) := ⟨_, rfl⟩
  rw [← hW2]
  have hn2 : W2.nx = W.nx + 6 := by rw [hW2, Ag, hn1]
  have hq2 : W2.get W1.nx = some (.row [.ptr p 0]) := by rw [hW2, Ca]
  have hE12 : Ex W1 W2 := ⟨fun x hx => by rw [hW2, Cq]; rw [hW2, Ag] at hx; rw [if_neg (by omega)]; exact hC1 x (by omega), by omega, fun x hx => by rw [hW2, Al hx]⟩
  have hB2 := hB1.ex hE12
  have u0 := (hE12.get _ (by omega : rf W.nx 0 < W1.nx)).trans v0
  have u1 := (hE12.get _ (by omega : rf W.nx 1 < W1.nx)).trans v1
  have u4 := (hE12.get _ (by omega : rf W.nx 4 < W1.nx)).trans v4
  have hE2 := hE1.trans hE12
  have hb8 : keysP s os = (List.range 8).flatMap fun (j : Nat) => keyP s os (j : Int) := rfl
  rw [← hb8] at hB2
  have hpreb : ∀ i, (keysP s os ++ (s.take i).flatMap (txnP s os)) <+: buildP s os := fun i => by
   refine List.prefix_append_right_inj _ |>.2 ?_
   generalize txnP s os = f
   conv => rhs; rw [← List.take_append_drop i s, List.flatMap_append]
   exact List.prefix_append _ _
  refine Lw hP (q := W1.nx) (s := s) (W0 := W2) (by simp only [S6]; exact if_pos rfl) hq2 (by omega) hE2.cl (hS.ex hE2)
   (fun i W' => Cl W' ∧ (∀ x, x < W2.nx → x ≠ rf W.nx 2 → x ≠ rf W.nx 3 → W'.get x = W2.get x) ∧ W'.get (rf W.nx 2) = some (gmap (keysP s os ++ (s.take i).flatMap (txnP s os))) ∧ ∃ hn, W'.get (rf W.nx 3) = some (.row [hn, .map (rf W.nx 2)]) ∧ nowG W' hn (intsV ((s.take i).flatMap nodeP)) 1 W2.nx) ?_ ?_ ?_ ?_
  ·intro W' hE
   refine ⟨hE.cl, fun x hx _ _ => hE.get x hx, ?_, .nilsl, ?_, .inl ⟨rfl, rfl⟩⟩
   ·rw [hE.get _ (by omega), hB2.hm]; simp
   ·rw [hE.get _ (by omega), hB2.hg]
  ·rintro i W' ⟨j0, j1, _⟩
   exact ⟨j0, j1 _ (by omega) (by omega) (by omega), j1 _ (by omega) (by omega) (by omega), j1 _ (by omega) (by omega) (by omega)⟩
  ·rintro i hi W' ⟨j0, j1, j2, hn, j3, j4⟩ hl hnn
   have hto := hS.ok.ok s[i] (gmm hi)
   have st1 := Fg (f := txnP s os) hi
   have st2 := Fg (f := nodeP) hi
   have hpi := hpreb (i + 1)
   rw [st1, ← List.append_assoc] at hpi
   have hnl : ((s.take i).flatMap nodeP).length < 2 ^ 20 := by
    have := Cp (f := nodeP) (n := 1) (l := s.take i) fun t _ => by unfold nodeP; split <;> simp
    have h2 : (s.take i).length ≤ s.length := by simp; omega
    omega
   generalize s[i] = t at hto st1 st2 hpi
   refine Au j0 ?_
   simp (disch:=omega) only [BS, BC, ↓reduceIte, nE, BM, BD, nA, nL, nT, Ce, Cb, Tx.V, hl]
   refine ⟨tt, ?_⟩
   have hB : Bd (X (W'.put W2.nx (.loop .busy none)) W'.nx [.row [.int .u16 t.id, .int .u8 t.client, msV t.ms, lsV t.ls, .int .u8 t.st]]) p ra rw q (rf W.nx 3) (rf W.nx 2) s os hn (keysP s os ++ (s.take i).flatMap (txnP s os)) :=
    hB2.lo (lo := W2.nx) (by omega) (by omega) (by simp only [Ci, rf]; omega) (lr _) (fun x hx h3 h2 => by rw [Aj (by omega), put_ne (by omega)]; exact j1 x hx h2 h3) (by rw [Aj (by omega), put_ne (by omega)]; exact j3) (by rw [Aj (by omega), put_ne (by omega)]; exact j2) (Ly hS.ok (hpreb i))
   refine b3_go hP (lo := W2.nx) (b2 := rf W.nx 0) (b3 := rf W.nx 1) (b5 := rf W.nx 4) (b7 := rf W'.nx 0) (N := (s.take i).flatMap nodeP) (t := t) Cl.X hB (j4.to (by simp only [Ci, rf]; omega) fun r h1 h2 ⟨ys, hy⟩ => by rw [Aj h2, put_ne (by rintro rfl; rw [hl] at hy; cases hy)]) (by simp only [Ci, rf]; omega) (by omega) (by omega) (by omega) (by omega) hnl hto (by have := hpi.length_le; omega) q2 q3 q5 rfl ?_ ?_ ?_ (by rw [Ao]; rfl) (by omega) (by omega) (by omega) (by simp [Ci, rf]) (by omega) (by omega) (by simp only [rf]; omega) ?_
   ·rw [Aj (by omega), put_ne (by omega), j1 _ (by omega) (by omega) (by omega)]; exact u0
   ·rw [Aj (by omega), put_ne (by omega), j1 _ (by omega) (by omega) (by omega)]; exact u1
   ·rw [Aj (by omega), put_ne (by omega), j1 _ (by omega) (by omega) (by omega)]; exact u4
   intro A'' W'' hn' fC fn ff fg fm fnow
   simp only [Ci, rf, lcs, List.length_nil] at fn
   have hloop : W''.get W2.nx = some (.loop .busy none) := by
    rw [ff W2.nx (by simp only [Ci, rf]; omega) (by omega) (by omega) (.inr fun ys => by rw [Aj (by omega), put_at]; simp), Aj (by omega), put_at]
   refine ⟨rfl, hloop, by omega, fC.put (by omega), fun x hx h2 h3 => ?_, ?_, hn', ?_, ?_⟩
   ·rw [put_ne (by omega), ff x (by simp only [Ci, rf]; omega) h2 h3 (.inl hx), Aj (by omega), put_ne (by omega)]
    exact j1 x hx h2 h3
   ·rw [put_ne (by omega), fm, st1, List.append_assoc]
   ·rw [put_ne (by omega), fg]
   ·rw [st2]
    exact fnow.to (by rw [Ae]; exact lr _) fun r h1 h2 ⟨ys, hy⟩ => put_ne (by rintro rfl; rw [hloop] at hy; cases hy)
  ·rintro W' ⟨j0, j1, j2, hn, j3, j4⟩ hl hnn
   rw [tkl] at j2 j4
   rw [← Xh] at j4
   have k4 : (W'.put W2.nx (.loop .exhausted none)).get (rf W.nx 4) = some (.row [.ptr p 0, .ptr q 0, .ptr (rf W.nx 3) 0]) := by rw [put_ne (by omega), j1 _ (by omega) (by omega) (by omega)]; exact u4
   simp (disch:=omega) only [BZ, ↓reduceIte, nE, BM, BD, q5, k4]
   have hnl := Xg s
   have hbp : buildP s os = keysP s os ++ s.flatMap (txnP s os) := rfl
   refine ⟨_, rfl, _, _, .weak Ab, by rw [Ae]; omega, rf W.nx 3, rf W.nx 2, hn, rfl, ⟨by rw [put_ne (by omega)]; exact j3, by rw [put_ne (by omega)]; exact j2, ?_, by rw [Ae]; omega, by rw [Ae]; omega, by omega, by omega, Mx hS.ok, by omega, by omega⟩, j0.put (by omega), by rw [Ae]; omega, fun x hx => by rw [put_ne (by omega), j1 x (by omega) (by omega) (by omega)]; exact hE2.get x hx⟩
   rcases j4 with j4 | ⟨r, h1, h2, h3, h4, h5⟩
   ·exact .inl j4
   ·exact .inr ⟨r, by omega, by rw [Ae]; exact h2, h3, h4, by rw [put_ne (by rintro rfl; rw [hl] at h5; cases h5)]; exact h5⟩
open Go Go.AL Go.AL.SE Go.Proofs
def c_nodes : AC := (.r [.v 2 (.nilsl)] (.seq (.r [.m 3 0,.p 4 (.eqn false 0) [.t 3,.c (.nilptr)]] (.cond (.t 4) (.r [.v 2 (.nilsl)] .ret) .skip)) (.r [.m 5 0,.u 6 .nilck 5,.u 7 (.fld 0) 6,.u 8 (.load false 1) 7,.u 9 (.call 56) 8,.m 2 9] .ret)))
theorem Wq : compF Tryz.prog Tryz.f81 ⟨false, false, []⟩ = some (c_nodes, [.tmp 2], 10) := by kernel_rfl
def c_sorted : AC := (.r [.v 2 (.nilsl)] (.seq (.r [.m 3 0,.p 4 (.eqn false 0) [.t 3,.c (.nilptr)]] (.cond (.t 4) (.r [.v 2 (.nilsl)] .ret) .skip)) (.r [.m 5 0,.u 6 .nilck 5,.u 7 (.fld 1) 6,.u 8 (.load false 1) 7,.u 9 (.call 76) 8,.p 10 (.call 75) [.t 9,.f 77],.m 2 10] .ret)))
theorem Ry : compF Tryz.prog Tryz.f46 ⟨false, false, []⟩ = some (c_sorted, [.tmp 2], 11) := by kernel_rfl
def c_edges : AC := (.r [.u 1 .box 0,.v 2 (.nilfn)] (.r [.u 3 (.mkfn (.func 45) 0) 1,.m 2 3] .ret))
theorem Ww : compF Tryz.prog Tryz.f12 ⟨false, false, []⟩ = some (c_edges, [.tmp 2], 4) := by kernel_rfl
def c_edges1_0 : AC := (.r [.b 9 (.bin .lss) 8 7] (.seq (.w 9 0) (.seq (.block 1 (.r [.b 10 (.idxp 3) 6 8,.u 11 (.load true 3) 10,.p 4 (.alloc [.int .u16 0,.int .u16 0,.int .u8 0]) [],⟨none,.store 3, [.t 4,.t 11], none⟩] (.r [.m 12 0,.u 13 (.load true 3) 4,.b 14 .callv 12 13,.u 15 (.un .not) 14] (.cond (.t 15) .ret .skip)))) (.reg [.a 16 (.bin .add) 8 1,.m 8 16]))))
def c_edges1 : AC := (.r [.u 5 (.load false 1) 1,.u 6 (.call 46) 5,.u 7 (.len 1 0) 6,.v 8 (.int .i64 0)] (.block 0 (.loop c_edges1_0)))
theorem Kn : compF Tryz.prog Tryz.f45 ⟨false, false, []⟩ = some (c_edges1, [], 17) := by kernel_rfl
theorem gs_clone (l : List Int) : cloneV 1 (nowGS 1 (intsV l)) = nowGS 1 (intsV l) := by
 cases l with
 | nil => rfl
 | cons a l => rfl
theorem nodes_c (hP : PE E) (W : AW) {g m lo : Nat} {h : V} {P : List Ek} {N : List Int} (hG : Gr W g m h P N lo) : ACalls E 81 [.ptr g 0] W fun Y W' => Y = nowGS 1 (intsV N) ∧ W' = W := by
 refine ACalls.of hP Tryz.func81 Wq (by simp) fun _ hok => ?_
 simp only [c_nodes, BX, ↓reduceIte, reduceCtorEq, BM, BD, hG.hg, hG.now.frz]
 have hs := Cr 1 (intsV N)
 refine pc (D0 hP W _ _ hs (Dc _ _) (by rw [Ak]; have := hG.nl; omega)) ?_
 rw [gs_clone]
 simp only [BS, BC, ↓reduceIte, hs.frz]
 exact ⟨_, rfl, _, _, .weak Ab, lr _, rfl, rfl⟩
theorem keys35_c (hP : PE E) (W : AW) (m : Nat) : ACalls E 76 [.map m] W fun Y W' => Y = .fn (.func 103) [] [.ptr W.nx 0] ∧ W' = W.alloc (.row [.map m]) := by
 refine ACalls.of hP Tryz.func76 ok_e35e (by simp) fun _ hok => ?_
 simp only [c_e35, BZ, ↓reduceIte, nE, BM, BD]
 exact ⟨_, rfl, _, _, .weak Ab, by rw [Ag]; omega, rfl, rfl⟩
theorem g_edOf (l : List (Ek × Int)) : ∀ n, (gFrom n l).map edOf = (keysE l).map toEd := by
 induction l with
 | nil => intro n; rfl
 | cons x l ih => intro n; simp only [gFrom, mcs, ih, keysE]; rfl
theorem g_key (l : List (Ek × Int)) : ∀ n, ∀ e ∈ gFrom n l, e.1 = (edOf e).V := by
 induction l with
 | nil => intro n e he; simp [gFrom] at he
 | cons x l ih =>
  intro n e he
  rcases List.mem_cons.1 he with rfl | he
  ·rfl
  ·exact ih _ e he
theorem g_len (l : List (Ek × Int)) : ∀ n, (gFrom n l).length = l.length := by
 induction l with
 | nil => intro n; rfl
 | cons x l ih => intro n; simp [gFrom, ih]
theorem g_fresh (l : List (Ek × Int)) : ∀ n, (∀ e ∈ gFrom n l, n ≤ e.2.2 ∧ e.2.2 < n + l.length) ∧ (stamps (gFrom n l)).Nodup := by
 induction l with
 | nil => intro n; exact ⟨fun _ h => by simp [gFrom] at h, List.nodup_nil⟩
 | cons x l ih =>
  intro n
  obtain ⟨h1, h2⟩ := ih (n + 1)
  refine ⟨fun e he => ?_, ?_⟩
  ·rcases List.mem_cons.1 he with rfl | he
   ·simp
   ·have := h1 e he; simp only [lcs]; omega
  ·refine List.nodup_cons.2 ⟨fun h => ?_, h2⟩
   obtain ⟨e, he, h3⟩ := List.mem_map.1 h
   have := h1 e he
   simp only at h3
   omega
def edsV (l : List Ed) : V := if l = [] then .nilsl else .sl 3 false (l.map Ed.V)
theorem N7 (l : List Ed) : isS 3 (edsV l) (l.map Ed.V) := by
 unfold edsV
 split
 ·rename_i h; subst h; exact .nil
 ·exact .mk
theorem V1 (P : List Ek) : sortedEV ((gFrom 0 (tally P)).map edOf) = edsV (edL P) := by
 rw [g_edOf, sortedEV, edsV]
 by_cases h : (keysE (tally P)).map toEd = []
 ·have : edL P = [] := by rw [edL, h]; exact (Er []).eq_nil
  rw [if_pos h, if_pos this]
 ·have : edL P ≠ [] := by
   intro e
   apply h
   have := K4 P
   rw [e] at this
   exact this.symm.eq_nil
  rw [if_neg h, if_neg this]; rfl
theorem bel_eds (l : List Ed) (n : Nat) : (edsV l).bel n = true := (N7 l).lens (Ok n l)
theorem J6 (hP : PE E) (W : AW) {g m lo : Nat} {h : V} {P : List Ek} {N : List Int} (hG : Gr W g m h P N lo) : ACalls E 46 [.ptr g 0] W fun Y W' => Y = edsV (edL P) ∧ W' = W := by
 refine ACalls.of hP Tryz.func46 Ry (by simp) fun _ hok => ?_
 simp only [c_sorted, BX, ↓reduceIte, reduceCtorEq, BM, BD, hG.hg]
 refine (keys35_c hP _ m).mono ?_
 rintro _ W1 ⟨rfl, rfl⟩
 simp only [BS, BC, ↓reduceIte]
 have hf := g_fresh (tally P) 0
 have hlm := hG.lm
 have hE : Ex W (W.alloc (.row [.map m])) := ⟨fun x hx => by rw [Ag] at hx; rw [Cq, if_neg (by omega)]; exact Je hok x (by omega), by rw [Ag]; omega, fun x hx => Al hx⟩
 refine pc (V2 hP (pb := W.nx) (m := m) Ca (by rw [Al hlm]; exact hG.hm) ⟨hf.2, fun e he => by have := (hf.1 e he).2; omega⟩ (by rw [Ag]; omega) (by rw [Ag]; omega) (g_key _ 0) (by rw [g_len]; have := Lm P; have := hG.pl; omega)) ?_
 rw [V1]
 have hs := N7 (edL P)
 simp only [BS, BC, ↓reduceIte, hs.frz]
 exact ⟨_, rfl, _, W, hE.back hok (bel_eds _ _), lr _, rfl, rfl⟩
theorem N8 (hP : PE E) (W : AW) (g : Nat) : ACalls E 12 [.ptr g 0] W fun Y W' => ∃ q, Y = .fn (.func 45) [] [.ptr q 0] ∧ W'.get q = some (.row [.ptr g 0]) ∧ q < W'.nx ∧ Ex W W' := by
 refine ACalls.of hP Tryz.func12 Ww (by simp) fun _ hok => ?_
 refine Af hok ?_
 simp only [c_edges, BZ, ↓reduceIte, nE, BM, BD]
 exact ⟨_, rfl, _, _, .weak Ab, by simp [X], rf W.nx 0, rfl, by rw [Ao]; rfl, by simp [X, rf], .x0⟩
theorem ed_at {l : List Ed} {k : Nat} (h : k < l.length) : (l.map Ed.V)[k]? = some (l[k]).V := by simp [h]
theorem Qy (e : Ed) : e.V.cells = [.int .u16 e.fr, .int .u16 e.to, .int .u8 e.kd] := rfl
theorem N9 {W : AW} {g m lo : Nat} {h : V} {P : List Ek} {N : List Int} (hG : Gr W g m h P N lo) : (edL P).length < 2 ^ 32 := by
 have := Ta P; have := hG.pl; omega
theorem S8 (hP : PE E) {W : AW} {y q g m lo : Nat} {h : V} {P : List Ek} {N : List Int} (hq : W.get q = some (.row [.ptr g 0])) (hG : Gr W g m h P N lo) (J : Nat → AW → Prop)
  (h0 : J 0 W) (hJ : ∀ i W1, J i W1 → Cl W1 ∧ W.nx ≤ W1.nx) (hmono : ∀ (vs : List V) (W1 : AW) (K K' : V → AW → Prop), (∀ v W', K v W' → K' v W') → E.yield y vs W1 K → E.yield y vs W1 K')
  (hy : ∀ i (hi : i < (edL P).length) W1 l, J i W1 → E.yield y [(edL P)[i].V] (X W1 W1.nx l) (fun Y W2 => Y = .bool true ∧ J (i + 1) W2)) :
  ACalls E 45 [.yld y, .ptr q 0] W fun Y W' => Y = .tuple [] ∧ J (edL P).length W' := by
 refine ACalls.of hP Tryz.func45 Kn (by simp) fun _ hok => ?_
 have hs := N7 (edL P)
 have hl := N9 hG
 simp (disch:=omega) only [c_edges1, BZ, ↓reduceIte, BM, hq]
 refine pc (J6 hP _ hG) ?_
 simp (disch:=omega) only [BS, ↓reduceIte, hs.len, lmp]
 rw [Ai]
 refine alp (fun (i : Nat) A1 W1 => A1 0 = some (.yld y) ∧ A1 6 = some (edsV (edL P)) ∧ A1 7 = some (.int .i64 (edL P).length) ∧ A1 8 = some (.int .i64 i) ∧ i ≤ (edL P).length ∧ J i W1) (fun i => (edL P).length - i) 0
  ⟨rfl, rfl, rfl, rfl, Nat.zero_le _, h0⟩ ?_
 rintro i A1 W1 ⟨g0, g6, g7, g8, gi, gJ⟩ hn
 by_cases hi : i < (edL P).length
 ·have hat := ed_at hi
  have hyi := fun l => hy i hi W1 l gJ
  generalize (edL P)[i] = e at hat hyi
  refine Au (hJ _ _ gJ).1 ?_
  simp (disch:=omega) only [c_edges1_0, BX, ↓reduceIte, nE, reduceCtorEq, BM, BD, nA, nL, nT, g0, g6, g7, g8, clt, hi, dT, hs.idx hat, Qy, Ej]
  refine hmono _ _ _ _ ?_ (hyi _)
  rintro Y W2 ⟨rfl, g⟩
  simp (disch:=omega) only [BS, BC, Ad, ↓reduceIte, nE, reduceCtorEq, BD, g0, g6, g7, g8, Ah]
  exact ⟨i + 1, ⟨tt, tt, tt, tt, by omega, g⟩, by omega, (hJ _ _ g).2⟩
 ·obtain rfl : i = (edL P).length := by omega
  simp (disch:=omega) only [c_edges1_0, BX, ↓reduceIte, g7, g8, clt, hi, dF]
  exact ⟨_, rfl, _, _, .weak Ab, (hJ _ _ gJ).2, rfl, gJ⟩
theorem Gr.ex {W W1 : AW} {g m lo : Nat} {h : V} {P : List Ek} {N : List Int} (hG : Gr W g m h P N lo) (hE : Ex W W1) : Gr W1 g m h P N lo := by
 have := hG.lg
 have := hG.lm
 have := hE.nx
 exact ⟨(hE.get _ hG.lg).trans hG.hg, (hE.get _ hG.lm).trans hG.hm, hG.now.to hE.nx fun r _ hr _ => hE.get r hr, by omega, by omega, hG.gg, hG.gm, hG.pk, hG.pl, hG.nl⟩
theorem Ja (hP : PE E) {W0 : AW} {A : AFr} {q pv g m lo : Nat} {h : V} {P : List Ek} {N : List Int} {gx : AX} {asg body : AC} {Q : Exit → AFr → AW → Prop} (hg : gx.ev E A = some (.fn (.func 45) [] [.ptr q 0])) (hq : W0.get q = some (.row [.ptr g 0])) (hqn : q < W0.nx) (hC : Cl W0) (hG : Gr W0 g m h P N lo)
  (J : Nat → AW → Prop) (h0 : ∀ W1, Ex W0 W1 → W0.nx < W1.nx → J 0 W1) (hJ : ∀ i W1, J i W1 → Cl W1 ∧ W0.nx < W1.nx)
  (hb : ∀ i (hi : i < (edL P).length) W1 W1', J i W1 → Ex W1 W1' → W1'.get W0.nx = some (.loop .ready none) →
   awp E asg (thenQ (fun A1 W2 => W2.get W0.nx = some (.loop .ready none) ∧ awp E body (fun e _ W3 => e = .normal ∧ W3.get W0.nx = some (.loop .busy none) ∧ J (i + 1) (W3.put W0.nx (.loop .ready none))) A1 (W2.put W0.nx (.loop .busy none))) (fun _ _ _ => False)) (A.put pv (edL P)[i].V) W1')
  (hQ : ∀ W1, J (edL P).length W1 → W1.get W0.nx = some (.loop .ready none) → Q .normal A (W1.put W0.nx (.loop .exhausted none))) : awp E (.rangef gx [pv] asg body) Q A W0 := by
 rw [Dp, hg]
 intro E' eP eG ey _
 have hP' : E'.P = Tryz.prog := eP.trans hP
 have hE : Ex W0 (W0.alloc (.loop .ready none)) := ⟨fun r hr => by rw [Ag] at hr; rw [Cq, if_neg (by omega)]; exact hC r (by omega), by rw [Ag]; omega, fun x hx => Al hx⟩
 simp only [mcs, List.map_nil, Gz]
 refine (S8 (E := E') hP' (y := W0.nx) (q := q) (by rw [Al hqn]; exact hq) (hG.ex hE) (fun k W1 => J k W1 ∧ W1.get W0.nx = some (.loop .ready none)) ⟨h0 _ hE (by rw [Ag]; omega), Ca⟩ (fun i W1 g => ⟨(hJ _ _ g.1).1, by rw [Ag]; exact (hJ _ _ g.1).2⟩) (fun vs W1 K K' hk hy => E'.yieldMono _ _ _ _ _ hk hy) ?_).mono ?_
 ·rintro i hi W1 l ⟨g1, g2⟩
  have hlt := (hJ _ _ g1).2
  refine ey _ _ _ ⟨by rw [Aj hlt]; exact g2, rfl, ?_⟩
  refine Ar _ ?_ (hb i hi W1 _ g1 ((Ex.refl (hJ _ _ g1).1).X (l := l)) (by rw [Aj hlt]; exact g2))
  intro e A1 W2 hh
  cases e with
  | normal =>
   refine ⟨hh.1, Ar _ ?_ hh.2⟩
   rintro e A3 W3 ⟨rfl, h2, h3⟩
   exact ⟨h2, rfl, h3, put_at⟩
  | _ => exact hh
 ·rintro Y W1 ⟨_, g1, g2⟩
  simp only [doneQ, g2]
  exact hQ _ g1 g2
end Go.AL.S
namespace Go.AL.S
open Go Go.AL Go.Proofs
def c_idx8 : AC := (.r [.v 4 (.int .i64 0)] (.seq (.r [.m 6 0,.u 7 (.len 1 0) 6,.v 8 (.int .i64 0)] (.block 0 (.loop (.r [.b 9 (.bin .lss) 8 7] (.seq (.w 9 0) (.seq (.block 1 (.r [.m 10 8,.m 5 10] (.r [.m 11 1,.m 12 0,.m 13 5,.b 14 (.idxp 1) 12 13,.u 15 (.load false 1) 14,.b 16 (.bin .eql) 11 15] (.cond (.t 16) (.r [.m 17 5,.m 4 17] .ret) .skip)))) (.reg [.a 18 (.bin .add) 8 1,.m 8 18]))))))) (.r [.v 4 (.int .i64 (-1))] .ret)))
theorem Z0 : compF Tryz.prog Tryz.f130 ⟨false, false, []⟩ = some (c_idx8, [.tmp 4], 19) := by kernel_rfl
def c_has8 : AC := (.r [.v 4 (.bool false)] (.r [.m 5 0,.m 6 1,.b 7 (.call 130) 5 6,.a 8 (.bin .geq) 7 0,.m 4 8] .ret))
theorem Z3 : compF Tryz.prog Tryz.f108 ⟨false, false, []⟩ = some (c_has8, [.tmp 4], 9) := by kernel_rfl
def c_idxI : AC := (.r [.v 4 (.int .i64 0)] (.seq (.r [.m 6 0,.u 7 (.len 1 0) 6,.v 8 (.int .i64 0)] (.block 0 (.loop (.r [.b 9 (.bin .lss) 8 7] (.seq (.w 9 0) (.seq (.block 1 (.r [.m 10 8,.m 5 10] (.r [.m 11 1,.m 12 0,.m 13 5,.b 14 (.idxp 1) 12 13,.u 15 (.load false 1) 14,.b 16 (.bin .eql) 11 15] (.cond (.t 16) (.r [.m 17 5,.m 4 17] .ret) .skip)))) (.reg [.a 18 (.bin .add) 8 1,.m 8 18]))))))) (.r [.v 4 (.int .i64 (-1))] .ret)))
theorem P2 : compF Tryz.prog Tryz.f131 ⟨false, false, []⟩ = some (c_idxI, [.tmp 4], 19) := by kernel_rfl
def c_hasI : AC := (.r [.v 4 (.bool false)] (.r [.m 5 0,.m 6 1,.b 7 (.call 131) 5 6,.a 8 (.bin .geq) 7 0,.m 4 8] .ret))
theorem Z2 : compF Tryz.prog Tryz.f109 ⟨false, false, []⟩ = some (c_hasI, [.tmp 4], 9) := by kernel_rfl
def c_bs16_0 : AC := (.seq (.r [.m 13 7,.m 14 8,.b 15 (.bin .lss) 13 14] (.w 15 0)) (.block 1 (.r [.m 16 7,.m 17 8,.b 18 (.bin .add) 16 17,.u 19 (.conv .u64) 18,.p 20 (.bin .shr) [.t 19,.c (.int .u64 1)],.u 21 (.conv .i64) 20,.m 9 21] (.r [.m 22 0,.m 23 9,.b 24 (.idxp 1) 22 23,.u 25 (.load false 1) 24,.m 26 1,.b 27 (.call 110) 25 26] (.cond (.t 27) (.reg [.m 28 9,.a 29 (.bin .add) 28 1,.m 7 29]) (.reg [.m 30 9,.m 8 30]))))))
def c_bs16 : AC := (.r [.v 4 (.int .i64 0),.v 5 (.bool false)] (.r [.m 10 0,.u 11 (.len 1 0) 10,.m 6 11] (.r [.m 12 6,.v 7 (.int .i64 0),.m 8 12] (.seq (.block 0 (.loop c_bs16_0)) (.r [.m 31 7,.m 32 7,.m 33 6,.b 34 (.bin .lss) 32 33,.m 35 34,.M 36 0 35 true,.M 37 7 35 true,.B 38 (.idxp 1) 36 37 35 true,.U 39 (.load false 1) 38 35 true,.M 40 1 35 true,.B 41 (.bin .eql) 39 40 35 true,.M 42 41 35 true,.M 43 0 42 false,.M 44 7 42 false,.B 45 (.idxp 1) 43 44 42 false,.U 46 (.load false 1) 45 42 false,.U 47 (.call 111) 46 42 false,.M 48 47 42 false,.M 49 1 48 true,.U 50 (.call 111) 49 48 true,.P 51 .pick [.t 48,.t 50,.F] 42 false,.P 52 .pick [.t 42,.T,.t 51] 35 true,.p 53 .pick [.t 35,.t 52,.F],.m 4 31,.m 5 53] .ret)))))
theorem Z8 : compF Tryz.prog Tryz.f84 ⟨false, false, []⟩ = some (c_bs16, [.tmp 4, .tmp 5], 54) := by kernel_rfl
def c_snan : AC := (.r [.v 2 (.bool false)] (.r [.m 3 0,.m 4 0,.b 5 (.bin .neq) 3 4,.m 2 5] .ret))
theorem Zo : compF Tryz.prog Tryz.f111 ⟨false, false, []⟩ = some (c_snan, [.tmp 2], 6) := by kernel_rfl
variable {E : Env}
def u8s (l : List Int) : List V := l.map (V.int .u8)
def i64s (l : List Int) : List V := l.map (V.int .i64)
theorem Yk {l : List Int} {k : Nat} (h : k < l.length) : (u8s l)[k]? = some (.int .u8 l[k]) := by simp [u8s, h]
theorem Uu {l : List Int} {k : Nat} (h : k < l.length) : (i64s l)[k]? = some (.int .i64 l[k]) := by simp [i64s, h]
theorem u8s_len (l : List Int) : (u8s l).length = l.length := by simp [u8s]
theorem Qg (l : List Int) : (i64s l).length = l.length := by simp [i64s]
theorem idx8_c (hP : PE E) (W : AW) {v : V} {l : List Int} (h : isS 1 v (u8s l)) (hl : l.length < 2 ^ 40) (n : Int) :
  ACalls E 130 [v, .int .u8 n] W fun Y W' => Y = .int .i64 (idxV (fun x => decide (n = x)) l) ∧ W' = W := by
 refine ACalls.of hP Tryz.func130 Z0 (by simp) fun _ hok => ?_
 simp only [c_idx8, BZ, ↓reduceIte, reduceCtorEq, h.len, u8s_len]
 rw [Ai]
 refine alp (fun (k : Nat) A1 W1 => A1 0 = some v ∧ A1 1 = some (.int .u8 n) ∧ A1 7 = some (.int .i64 l.length) ∧ A1 8 = some (.int .i64 k) ∧ k ≤ l.length ∧ W1 = W ∧ ∀ i (hi : i < l.length), i < k → decide (n = l[i]) = false) (fun k => l.length - k) 0
  ⟨rfl, rfl, rfl, rfl, Nat.zero_le _, rfl, fun _ _ h => by omega⟩ ?_
 rintro k A1 W1 ⟨g0, g1, g7, g8, gk, rfl, ge⟩ _
 by_cases hk1 : k < l.length
 ·cases hb : decide (n = l[k])
  ·simp (disch:=omega) only [BX, ↓reduceIte, nE, reduceCtorEq, BM, g0, g1, g7, g8, clt, hk1, dT, h.idx (Yk hk1), D8, hb, Ah]
   refine ⟨k + 1, ⟨tt, tt, tt, tt, tt, tt, fun i hi hk => ?_⟩, by omega, lr _⟩
   by_cases e : i = k
   ·subst e; exact hb
   ·exact ge i hi (by omega)
  ·simp (disch:=omega) only [BX, ↓reduceIte, nE, reduceCtorEq, BM, g0, g1, g7, g8, clt, hk1, dT, h.idx (Yk hk1), D8, hb]
   exact ⟨_, rfl, _, _, .weak Ab, lr _, by rw [Ez hk1 hb ge], rfl⟩
 ·obtain rfl : k = l.length := by omega
  simp only [BX, ↓reduceIte, g7, g8, clt, hk1, dF]
  exact ⟨_, rfl, _, _, .weak Ab, lr _, by rw [Eo fun i hi => ge i hi hi], rfl⟩
theorem has8_c (hP : PE E) (W : AW) {v : V} {l : List Int} (h : isS 1 v (u8s l)) (hl : l.length < 2 ^ 40) (n : Int) :
  ACalls E 108 [v, .int .u8 n] W fun Y W' => Y = .bool (l.any fun x => decide (n = x)) ∧ W' = W := by
 refine ACalls.of hP Tryz.func108 Z3 (by simp) fun _ hok => ?_
 simp only [c_has8, BZ, ↓reduceIte, nE, reduceCtorEq, h.frz]
 refine pc (idx8_c hP W h hl n) ?_
 simp only [BS, BC, ↓reduceIte, H5]
 exact ⟨_, rfl, _, _, .weak Ab, lr _, rfl, rfl⟩
theorem idxI_c (hP : PE E) (W : AW) {v : V} {l : List Int} (h : isS 1 v (i64s l)) (hl : l.length < 2 ^ 40) (n : Int) :
  ACalls E 131 [v, .int .i64 n] W fun Y W' => Y = .int .i64 (idxV (fun x => decide (n = x)) l) ∧ W' = W := by
 refine ACalls.of hP Tryz.func131 P2 (by simp) fun _ hok => ?_
 simp only [c_idxI, BZ, ↓reduceIte, reduceCtorEq, h.len, Qg]
 rw [Ai]
 refine alp (fun (k : Nat) A1 W1 => A1 0 = some v ∧ A1 1 = some (.int .i64 n) ∧ A1 7 = some (.int .i64 l.length) ∧ A1 8 = some (.int .i64 k) ∧ k ≤ l.length ∧ W1 = W ∧ ∀ i (hi : i < l.length), i < k → decide (n = l[i]) = false) (fun k => l.length - k) 0
  ⟨rfl, rfl, rfl, rfl, Nat.zero_le _, rfl, fun _ _ h => by omega⟩ ?_
 rintro k A1 W1 ⟨g0, g1, g7, g8, gk, rfl, ge⟩ _
 by_cases hk1 : k < l.length
 ·cases hb : decide (n = l[k])
  ·simp (disch:=omega) only [BX, ↓reduceIte, nE, reduceCtorEq, BM, g0, g1, g7, g8, clt, hk1, dT, h.idx (Uu hk1), D8, hb, Ah]
   refine ⟨k + 1, ⟨tt, tt, tt, tt, tt, tt, fun i hi hk => ?_⟩, by omega, lr _⟩
   by_cases e : i = k
   ·subst e; exact hb
   ·exact ge i hi (by omega)
  ·simp (disch:=omega) only [BX, ↓reduceIte, nE, reduceCtorEq, BM, g0, g1, g7, g8, clt, hk1, dT, h.idx (Uu hk1), D8, hb]
   exact ⟨_, rfl, _, _, .weak Ab, lr _, by rw [Ez hk1 hb ge], rfl⟩
 ·obtain rfl : k = l.length := by omega
  simp only [BX, ↓reduceIte, g7, g8, clt, hk1, dF]
  exact ⟨_, rfl, _, _, .weak Ab, lr _, by rw [Eo fun i hi => ge i hi hi], rfl⟩
theorem hasI_c (hP : PE E) (W : AW) {v : V} {l : List Int} (h : isS 1 v (i64s l)) (hl : l.length < 2 ^ 40) (n : Int) :
  ACalls E 109 [v, .int .i64 n] W fun Y W' => Y = .bool (l.any fun x => decide (n = x)) ∧ W' = W := by
 refine ACalls.of hP Tryz.func109 Z2 (by simp) fun _ hok => ?_
 simp only [c_hasI, BZ, ↓reduceIte, nE, reduceCtorEq, h.frz]
 refine pc (idxI_c hP W h hl n) ?_
 simp only [BS, BC, ↓reduceIte, H5]
 exact ⟨_, rfl, _, _, .weak Ab, lr _, rfl, rfl⟩
theorem snan_c (hP : PE E) (W : AW) (a : Int) : ACalls E 111 [.int .u16 a] W fun X W' => X = .bool false ∧ W' = W := by
 refine ACalls.of hP Tryz.func111 Zo (by simp) fun _ hok => ?_
 simp only [BZ, ↓reduceIte, nE, reduceCtorEq, c_snan, Dl, show decide (a ≠ a) = false by simp]
 exact ⟨_, rfl, _, _, .weak Ab, lr _, rfl, rfl⟩
def lowB (l : List Int) (x : Int) : Nat := (l.takeWhile fun y => decide (y < x)).length
theorem Um {l : List Int} {x : Int} {k : Nat} (hk : k ≤ l.length) (h1 : ∀ i (h : i < l.length), i < k → l[i] < x) (h2 : ∀ (h : k < l.length), ¬ l[k] < x) : lowB l x = k := by
 induction l generalizing k with
 | nil => simp at hk; subst hk; rfl
 | cons a l ih =>
  cases k with
  | zero =>
   have := h2 (by simp)
   simp only [List.getElem_cons_zero] at this
   simp [lowB, this]
  | succ k =>
   have h0 := h1 0 (by simp) (by omega)
   simp only [List.getElem_cons_zero] at h0
   have := ih (k := k) (by simpa using hk) (fun i h hi => by have := h1 (i + 1) (by simpa using h) (by omega); simpa using this) (fun h => by have := h2 (by simpa using h); simpa using this)
   simp only [lowB, List.takeWhile_cons, decide_eq_true h0, if_true, lcs] at this ⊢
   omega
theorem half {a b : Nat} (h : a + b < 2 ^ 41) : IntKind.i64.wrap ((a : Int) + b) = ((a + b : Nat) : Int) := by
 rw [show (a : Int) + b = ((a + b : Nat) : Int) by omega]; exact Ov (by omega) (by omega)
theorem wrapu {n : Nat} (h : n < 2 ^ 41) : IntKind.u64.wrap (n : Int) = n := by
 simp only [IntKind.wrap, IntKind.signed, IntKind.bits]
 simp
 omega
theorem Oi (hP : PE E) (W : AW) {v : V} {l : List Int} (h : isS 1 v (intsV l)) (hs : l.Pairwise fun a b => a < b) (hl : l.length < 2 ^ 40) (x : Int) :
  ACalls E 84 [v, .int .u16 x] W fun Y W' => Y = .tuple [.int .i64 (lowB l x), .bool (decide (x ∈ l))] ∧ W' = W := by
 refine ACalls.of hP Tryz.func84 Z8 (by simp) fun _ hok => ?_
 simp (disch:=omega) only [BZ, ↓reduceIte, nE, reduceCtorEq, c_bs16, h.len, Ak]
 rw [Ai]
 refine alp (fun (σ : Nat × Nat) A1 W1 => A1 0 = some v ∧ A1 1 = some (.int .u16 x) ∧ A1 6 = some (.int .i64 l.length) ∧ A1 7 = some (.int .i64 σ.1) ∧ A1 8 = some (.int .i64 σ.2) ∧ σ.1 ≤ σ.2 ∧ σ.2 ≤ l.length ∧ W1 = W ∧ (∀ i (hi : i < l.length), i < σ.1 → l[i] < x) ∧ (∀ i (hi : i < l.length), σ.2 ≤ i → ¬ l[i] < x)) (fun σ => σ.2 - σ.1) (0, l.length)
  ⟨rfl, rfl, rfl, rfl, rfl, Nat.zero_le _, lr _, rfl, fun _ _ h => by simp at h, fun i hi h => by simp at h; omega⟩ ?_
 rintro ⟨i, j⟩ A1 W1 ⟨g0, g1, g6, g7, g8, gij, gj, rfl, gl, gh⟩ _
 simp only at g7 g8 gij gj gl gh
 by_cases hij : i < j
 ·have hm : (i + j) / 2 ^ 1 < l.length := by simp; omega
  have hm' : (i + j) / 2 ^ 1 < j ∧ i ≤ (i + j) / 2 ^ 1 := by simp; omega
  generalize hmm : (i + j) / 2 ^ 1 = m at hm hm'
  have hsh : ∀ K, sem E (.bin .shr) [.int .u64 ((i + j : Nat) : Int), .int .u64 1] W1 K = K (.int .u64 (m : Int)) W1 := fun K => by rw [← hmm]; exact shrN 1 (by decide)
  have hcm : IntKind.i64.wrap (m : Int) = m := Ov (by omega) (by omega)
  simp (disch:=omega) only [BX, ↓reduceIte, nE, reduceCtorEq, BM, c_bs16_0, g0, g1, g7, g8, clt, hij, dT, half (a := i) (b := j) (by omega), wrapu, hsh, hcm, h.idx (Cc hm)]
  refine pc (Cx hP _ _ _) ?_
  by_cases hx : l[m] < x
  ·simp (disch:=omega) only [BS, Ad, ↓reduceIte, nE, reduceCtorEq, g0, g1, g6, g8, decide_eq_true hx, Ah]
   refine ⟨(m + 1, j), ⟨tt, tt, tt, tt, tt, by show m + 1 ≤ j; omega, gj, tt, fun i' hi' h' => ?_, gh⟩, by show j - (m + 1) < j - i; omega, lr _⟩
   by_cases e : i' = m
   ·subst e; exact hx
   ·have := List.pairwise_iff_getElem.1 hs i' m hi' hm (by simp only at h'; omega)
    omega
  ·simp (disch:=omega) only [BS, BC, Ad, ↓reduceIte, nE, reduceCtorEq, g0, g1, g6, g7, decide_eq_false hx]
   refine ⟨(i, m), ⟨tt, tt, tt, tt, tt, hm'.2, by show m ≤ l.length; omega, tt, gl, fun i' hi' h' => ?_⟩, by show m - i < j - i; omega, lr _⟩
   by_cases e : i' = m
   ·subst e; exact hx
   ·have := List.pairwise_iff_getElem.1 hs m i' hm hi' (by simp only at h'; omega)
    omega
 ·obtain rfl : i = j := by omega
  have hlb := Um (x := x) gj gl (fun h => gh i h (lr _))
  by_cases hil : i < l.length
  ·have hni : decide (x ∈ l) = decide (l[i] = x) := by
    refine decide_eq_decide.2 ⟨fun hx => ?_, fun e => by rw [← e]; exact gmm _⟩
    obtain ⟨k, hk, rfl⟩ := List.mem_iff_getElem.1 hx
    rcases Nat.lt_trichotomy k i with h1 | h1 | h1
    ·have := gl k hk h1; omega
    ·subst h1; rfl
    ·have h2 := List.pairwise_iff_getElem.1 hs i k hil hk h1
     have := gh i hil (lr _); omega
   by_cases he : l[i] = x
   ·simp (disch:=omega) only [BX, ↓reduceIte, nE, c_bs16_0, g6, g7, g8, clt, hij, hil, dT, dF]
    repeat (rw [Aa]; simp (disch:=omega) only [BS, BC, ↓reduceIte, nE, reduceCtorEq, BM, g0, g1, g7, h.idx (Cc hil), D8, decide_eq_true he])
    exact ⟨_, rfl, _, _, .weak Ab, lr _, by rw [hlb, hni, decide_eq_true he], rfl⟩
   ·simp (disch:=omega) only [BX, ↓reduceIte, nE, c_bs16_0, g6, g7, g8, clt, hij, hil, dT, dF]
    repeat (rw [Aa]; simp (disch:=omega) only [BS, BC, ↓reduceIte, nE, reduceCtorEq, BM, g0, g1, g7, h.idx (Cc hil), D8, decide_eq_false he])
    refine pc (snan_c hP _ _) ?_
    simp (disch:=omega) only [BS]
    repeat (rw [Aa]; simp (disch:=omega) only [BS, BC, ↓reduceIte, nE, BM])
    exact ⟨_, rfl, _, _, .weak Ab, lr _, by rw [hlb, hni, decide_eq_false he], rfl⟩
  ·have hni : decide (x ∈ l) = false := by
    refine decide_eq_false fun hx => ?_
    obtain ⟨k, hk, rfl⟩ := List.mem_iff_getElem.1 hx
    have := gl k hk (by omega); omega
   simp (disch:=omega) only [BX, ↓reduceIte, nE, c_bs16_0, g6, g7, g8, clt, hij, hil, dF]
   repeat (rw [Aa]; simp (disch:=omega) only [BS, BC, ↓reduceIte, nE, BM])
   exact ⟨_, rfl, _, _, .weak Ab, lr _, by rw [hlb, hni], rfl⟩
end Go.AL.S
