/- What the program's functions do, part 4. Conditions: none. -/
import Derived.Test.YtfncnpcoekinjaaGreatDoorBc
open Nat renaming reduceEqDiff → nE, reduceLeDiff → nL, reduceAdd → nA, reduceLT → nT, le_refl → lr
open List renaming getElem?_eq_getElem → gEg, length_map → lmp, getElem_mem → gmm, length_append → lap, length_cons → lcs, mem_singleton → msg, append_nil → apn, mem_append → map', take_length → tkl, map_cons → mcs, map_append → mpp, mem_map → mmp, any_eq_true → aet, length_replicate → lrp, take_add_one → tao, length_take → ltk, mem_filter → mfl
set_option maxRecDepth 100000
set_option maxHeartbeats 2000000
namespace Go.AL.S
open Go Go.AL Go.Proofs
variable {E : Env}
set_option maxHeartbeats 4000000
def isQ (s : Nat) (v : V) (xs : List V) : Prop := isS s v xs ∨ (xs = [] ∧ ∃ r, v = .slr r 0 0 s)
section
variable {W : AW} {K : V → AW → Prop} {s : Nat} {v : V} {xs : List V}
theorem isQ.idx (h : isQ s v xs) {k : Nat} {x : V} {kk : IntKind} (hx : xs[k]? = some x) : sem E (.idxp s) [v, .int kk (k : Int)] W K = K (.cptr x.cells) W := by
 rcases h with h | ⟨rfl, r, rfl⟩
 ·exact h.idx hx
 ·simp at hx
end
structure Nx (nv : V) (nx : Nat → List Nat) (n : Nat) : Prop where
 el : ∃ xs, isQ 1 nv xs ∧ xs.length = n ∧ ∀ i (h : i < xs.length), isS 1 xs[i] (natsV (nx i))
 lt : ∀ i, i < n → ∀ k ∈ nx i, k < n
 sm : ∀ i, i < n → (nx i).length < 2 ^ 40
theorem Nx.at {nv : V} {nx : Nat → List Nat} {n i : Nat} (h : Nx nv nx n) (hi : i < n) : ∃ xs x, isQ 1 nv xs ∧ xs[i]? = some x ∧ isS 1 x (natsV (nx i)) := by
 obtain ⟨xs, h1, h2, h3⟩ := h.el
 exact ⟨xs, xs[i]'(by omega), h1, gEg _, h3 i (by omega)⟩
open Go Go.AL Go.Proofs Go.Shelf
theorem mk8 {W : AW} {K : V → AW → Prop} {n : Nat} (h : n < 2 ^ 30) : sem E (.makesl 1 8 [.int .i64 0]) [.int .i64 (n : Int), .int .i64 (n : Int)] W K = K (.slr W.nx 0 n 1) (W.alloc (.vec 1 (natsV (List.replicate n 0)))) := by
 have hz : ∀ k, zerosV [V.int .i64 0] k = natsV (List.replicate k 0) := fun k => by
  induction k with
  | zero => rfl
  | succ k ih => simp only [zerosV, List.replicate_succ, List.flatten_cons, natsV, mcs] at ih ⊢; rw [ih]; rfl
 simp only [sem, Int.toNat_natCast, hz]
 exact propext ⟨fun h => h.2.2.2.2, fun h => ⟨by omega, tt, by omega, by omega, h⟩⟩
theorem vs_nat {l : List Nat} {i a : Nat} {k : AObj → Prop} (h : i < l.length) : vstoreK (some (.vec 1 (natsV l))) i 1 (.int .i64 (a : Int)) k = k (.vec 1 (natsV (l.set i a))) := by
 have e : (natsV l).take i ++ (V.int .i64 (a : Int)).cells ++ (natsV l).drop (i + 1) = natsV (l.set i a) := by
  have : natsV (l.set i a) = (natsV l).set i (.int .i64 (a : Int)) := by simp [natsV, List.map_set]
  rw [this, List.set_eq_take_append_cons_drop, if_pos (by rw [natsV_len]; exact h)]
  simp [V.cells]
 simp only [vstoreK, e]
 exact propext ⟨fun h => h.2.2.2, fun h' => ⟨rfl, rfl, by rw [natsV_len]; omega, h'⟩⟩
end Go.AL.S
namespace Go.AL.S
open Go Go.AL Go.Proofs
variable {E : Env}
open Go Go.AL Go.AL.SE Go.Proofs
def c_next_B1 : AC := (.block 1 (.seq (.par (.step 4 (.u 27 (.fld 0) 6) (.step 0 (.u 23 (.load false 1) 2) (.step 1 (.u 24 .nilck 23) (.step 2 (.u 25 (.fld 0) 24) (.step 3 (.u 26 (.load false 1) 25) (.step 5 (.u 28 (.load false 1) 27) (.step 6 (.b 29 (.call 88) 26 28) (.step 7 (.m 22 29) (.step 8 (.u 30 (.ext 0) 22) (.step 9 (.u 31 (.ext 1) 22) (.step 10 (.m 7 30) (.step 11 (.m 8 31) .done))))))))))))) (.seq (.par (.step 4 (.u 37 (.fld 1) 6) (.step 0 (.u 33 (.load false 1) 2) (.step 1 (.u 34 .nilck 33) (.step 2 (.u 35 (.fld 0) 34) (.step 3 (.u 36 (.load false 1) 35) (.step 5 (.u 38 (.load false 1) 37) (.step 6 (.b 39 (.call 88) 36 38) (.step 7 (.m 32 39) (.step 8 (.u 40 (.ext 0) 32) (.step 9 (.u 41 (.ext 1) 32) (.step 10 (.m 9 40) (.step 11 (.m 10 41) .done))))))))))))) (.r [.u 42 (.load false 1) 3,.u 43 (.fld 2) 6,.u 44 (.load false 1) 43,.b 45 (.call 48) 42 44,.m 46 45,.U 47 (.load false 1) 5 46 true,.M 48 7 46 true,.B 49 (.idxp 1) 47 48 46 true,.U 50 (.load false 1) 49 46 true,.M 51 9 46 true,.B 52 (.call 89) 50 51 46 true,.U 53 (.un .not) 52 46 true,.p 54 .pick [.t 46,.t 53,.F]] (.cond (.t 54) (.par (.step 1 (.m 56 7) (.step 3 (.m 58 7) (.step 6 (.m 61 9) (.step 7 (.u 62 (.bslice 1 1 (.int .i64 0) [0]) 61) (.step 2 (.u 57 (.load false 1) 5) (.step 4 (.b 59 (.idxp 1) 57 58) (.step 5 (.u 60 (.load false 1) 59) (.alt (.step 0 (.u 55 (.load false 1) 5) (.step 8 (.b 63 (.append 1 8) 60 62) (.step 9 (.b 64 (.idxp 1) 55 56) (.step 10 ⟨none,.store 1, [.t 64,.t 63], none⟩ .done)))) (.step 8 (.b 63 (.append 1 8) 60 62) (.step 0 (.u 55 (.load false 1) 5) (.step 9 (.b 64 (.idxp 1) 55 56) (.step 10 ⟨none,.store 1, [.t 64,.t 63], none⟩ .done))))))))))))) .skip)))))
def c_next : AC := (.r [.u 2 .box 0,.u 3 .box 1,.v 4 (.nilsl)] (.seq (.r [.u 11 (.load false 1) 2,.p 12 (.eqn false 0) [.t 11,.c (.nilptr)]] (.cond (.t 12) (.r [.v 4 (.nilsl)] .ret) .skip)) (.r [.u 13 (.load false 1) 2,.u 14 .nilck 13,.u 15 (.fld 0) 14,.u 16 (.load false 1) 15,.u 17 (.len 1 0) 16,.b 18 (.makesl 1 24 [.nilsl]) 17 17,.p 5 (.alloc [.nilsl]) [],⟨none,.store 1, [.t 5,.t 18], none⟩] (.seq (.r [.u 19 (.load false 1) 2,.u 20 (.call 39) 19] (.block 0 (.rangef (.t 20) [21] (.reg [.p 6 (.alloc [.int .u16 0,.int .u16 0,.int .u8 0]) [],⟨none,.store 3, [.t 6,.t 21], none⟩]) c_next_B1))) (.r [.u 65 (.load false 1) 5,.m 4 65] .ret)))))
theorem ok_nexte : compF Tryz.prog Tryz.f56 ⟨false, false, []⟩ = some (c_next, [.tmp 4], 66) := by kernel_rfl
theorem app_now2 {W : AW} {K : V → AW → Prop} {h x : V} {xs : List V} {s lo by' : Nat} (hn : nowG W h xs s lo) (hC : Cl W) (hlo : lo ≤ W.nx) (hs : 0 < s) (hx : x.cells.all V.one = true) (hb : (xs.length + 1) * by' ≤ 2 ^ 46)
  (hK : ∀ r W', nowG W' (.buf true r s (xs.length + 1)) (xs ++ [x]) s lo → Cl W' → W.nx ≤ W'.nx → (r = W.nx ∨ h = .buf true r s xs.length) → (∀ y, y < W.nx → y ≠ r → W'.get y = W.get y) → K (.buf true r s (xs.length + 1)) W') : sem E (.append s by') [h, .sl s true [x]] W K := by
 rcases hn with ⟨rfl, rfl⟩ | ⟨r, h1, h2, rfl, h4, h5⟩
 ·have e : sem E (.append s by') [.nilsl, .sl s true [x]] W K = K (.buf true W.nx s 1) (W.alloc (.buf true s [x])) := by
   simp [sem, elemsV, hs]
   intro; simp at hb; omega
  rw [e]
  refine hK _ _ (.inr ⟨W.nx, hlo, by rw [alloc_nx]; omega, rfl, by simp, alloc_at⟩) ?_ (by rw [alloc_nx]; omega) (.inl rfl) (fun y hy _ => alloc_lt hy)
  intro y hy
  rw [alloc_nx] at hy
  rw [al_gets, if_neg (by omega)]
  exact hC y (by omega)
 ·have e : sem E (.append s by') [.buf true r s xs.length, .sl s true [x]] W K = K (.buf true r s (xs.length + 1)) (W.put r (.buf true s (xs ++ [x]))) := by
   simp only [sem, elemsV, if_true, h5, lcs, List.length_nil, Nat.zero_add, List.all_cons, List.all_nil, Bool.and_true, hx]
   exact propext ⟨fun h => h.2.2.2.2.2.2.2, fun h => ⟨hs, tt, tt, tt, tt, hb, tt, h⟩⟩
  rw [e]
  exact hK _ _ (.inr ⟨r, h1, by rw [put_nx]; exact h2, by simp, by simp, put_at⟩) (hC.put h2) (by rw [put_nx]; omega) (.inr rfl) (fun y _ hne => put_ne hne)
structure Gc (W : AW) (cs : List V) (out : List (List Int)) (lo : Nat) : Prop where
 len : cs.length = out.length
 now : ∀ i (h : i < cs.length) (h' : i < out.length), nowG W cs[i] (i64s out[i]) 1 lo
 ne : ∀ i j (h : i < cs.length) (h' : j < cs.length), i ≠ j → ∀ r n m, cs[i] = .buf true r 1 n → cs[j] ≠ .buf true r 1 m
theorem Gc.start (W : AW) (n lo : Nat) : Gc W (List.replicate n .nilsl) (List.replicate n []) lo where
 len := by simp
 now := fun i h h' => .inl ⟨by simp, by simp [i64s]⟩
 ne := fun i j h h' _ r n m e => by simp at e
theorem Gc.to {W W' : AW} {cs : List V} {out : List (List Int)} {lo : Nat} (h : Gc W cs out lo) (hx : W.nx ≤ W'.nx) (hg : ∀ r, lo ≤ r → r < W.nx → (∃ ys, W.get r = some (.buf true 1 ys)) → W'.get r = W.get r) : Gc W' cs out lo :=
 ⟨h.len, fun i h1 h2 => (h.now i h1 h2).to hx hg, h.ne⟩
theorem Gc.app {W W' : AW} {cs : List V} {out : List (List Int)} {lo f r : Nat} {x : Int} (h : Gc W cs out lo) (hf : f < cs.length) (hf' : f < out.length) (hn : nowG W' (.buf true r 1 ((i64s out[f]).length + 1)) (i64s out[f] ++ [.int .i64 x]) 1 lo) (hx : W.nx ≤ W'.nx) (hr : r = W.nx ∨ cs[f] = .buf true r 1 (i64s out[f]).length) (hg : ∀ y, y < W.nx → y ≠ r → W'.get y = W.get y) :
  Gc W' (cs.set f (.buf true r 1 ((i64s out[f]).length + 1))) (out.set f (out[f] ++ [x])) lo := by
 have hlen := h.len
 have hne : ∀ j (hj : j < cs.length), j ≠ f → ∀ m, cs[j] ≠ .buf true r 1 m := by
  intro j hj hjf m e
  rcases hr with rfl | hr
  ·rcases h.now j hj (by omega) with ⟨e1, _⟩ | ⟨r', h1, h2, h3, _⟩
   ·rw [e] at e1; cases e1
   ·rw [e] at h3; cases h3; omega
  ·exact h.ne f j hf hj (fun e => hjf e.symm) r _ m hr e
 refine ⟨by simp [hlen], fun i h1 h2 => ?_, fun i j h1 h2 hij r' n m e1 e2 => ?_⟩
 ·have h1' : i < cs.length := by simpa using h1
  have h2' : i < out.length := by simpa using h2
  by_cases e : i = f
  ·subst e
   rw [List.getElem_set_self, List.getElem_set_self, show i64s (out[i] ++ [x]) = i64s out[i] ++ [.int .i64 x] by simp [i64s]]
   exact hn
  ·rw [List.getElem_set_ne (by omega), List.getElem_set_ne (by omega)]
   rcases h.now i h1' h2' with g | ⟨r', g1, g2, g3, g4, g5⟩
   ·exact .inl g
   ·refine .inr ⟨r', g1, by omega, g3, g4, ?_⟩
    rw [hg r' g2 (by rintro rfl; exact hne i h1' e _ g3)]; exact g5
 ·have h1' : i < cs.length := by simpa using h1
  have h2' : j < cs.length := by simpa using h2
  rw [List.getElem_set] at e1 e2
  by_cases ei : f = i
  ·rw [if_pos ei] at e1
   rw [if_neg (by omega)] at e2
   have : r = r' := by injection e1
   subst this
   exact hne j h2' (by omega) _ e2
  ·rw [if_neg ei] at e1
   by_cases ej : f = j
   ·rw [if_pos ej] at e2
    have : r = r' := by injection e2
    subst this
    exact hne i h1' (by omega) _ e1
   ·rw [if_neg ej] at e2
    exact h.ne i j h1' h2' hij r' n m e1 e2
theorem Gc.frz {W : AW} {cs : List V} {out : List (List Int)} {lo : Nat} (h : Gc W cs out lo) : cs.map W.frz = out.map fun l => nowGS 1 (i64s l) := by
 refine List.ext_getElem (by simp [h.len]) fun i h1 h2 => ?_
 rw [List.getElem_map, List.getElem_map]
 exact (h.now i (by simpa using h1) (by simpa using h2)).frz
def nextStep (N kinds : List Int) (out : List (List Int)) (x : Ed) : List (List Int) :=
 if (kinds.any fun k => decide (x.kd = k)) = true ∧ ((out.getD (lowB N x.fr) []).any fun t => decide ((lowB N x.to : Int) = t)) = false then out.set (lowB N x.fr) (out.getD (lowB N x.fr) [] ++ [(lowB N x.to : Int)]) else out
def nextR (P : List Ek) (N kinds : List Int) : List (List Int) := (edL P).foldl (nextStep N kinds) (List.replicate N.length [])
theorem nextStep_len (N kinds : List Int) (out : List (List Int)) (x : Ed) : (nextStep N kinds out x).length = out.length := by
 unfold nextStep; split <;> simp
theorem lowB_lt {l : List Int} {x : Int} (h : x ∈ l) : lowB l x < l.length := by
 induction l with
 | nil => simp at h
 | cons a l ih =>
  simp only [lowB, List.takeWhile_cons]
  split
  ·rename_i hd
   rcases List.mem_cons.1 h with rfl | h
   ·simp at hd
   ·have := ih h; simp only [lowB] at this; simp; omega
  ·simp
theorem ix1 {W : AW} {K : V → AW → Prop} {r n i : Nat} {kk : IntKind} (h : i < n) : sem E (.idxp 1) [.slr r 0 n 1, .int kk (i : Int)] W K = K (.vptr r i) W := by
 rw [sem_idxp_slr (by omega) (by omega)]; simp
theorem ldv {W : AW} {K : V → AW → Prop} {r i : Nat} {cs : List V} {c : V} (h : W.get r = some (.vec 1 cs)) (hc : cs[i]? = some c) : sem E (.load false 1) [.vptr r i] W K = K c W := by
 have hp : partV cs i 1 false = some c := by simp [partV, hc]
 exact sem_load_vec (g := false) h hp
theorem stv {W : AW} {K : V → AW → Prop} {r i : Nat} {cs : List V} {c : V} (h : W.get r = some (.vec 1 cs)) (hi : i < cs.length) (h1 : c.cells = [c]) (h2 : c.one = true) : sem E (.store 1) [.vptr r i, c] W K = K .undef (W.put r (.vec 1 (cs.set i c))) := by
 rw [sem_store_vec (s := 1) (x := c) h (by rw [h1]; rfl) (by rw [h1]; simp [h2]) (by omega), h1, List.set_eq_take_append_cons_drop, if_pos hi]
 simp
theorem bsI {W : AW} {K : V → AW → Prop} {a : Int} : sem E (.bslice 1 1 (.int .i64 0) [0]) [.int .i64 a] W K = K (.sl 1 true [.int .i64 a]) W := by
 simp [sem, rsem, tsem, fillE, V.cells]
theorem next1_go (hP : PE E) {W1 : AW} {g m lo0 b2 b3 b5 b6 rv lo : Nat} {h kv : V} {P : List Ek} {N kinds : List Int} (hC : Cl W1) (hG : Gr W1 g m h P N lo0) (hNs : N.Pairwise fun a b => a < b) (hkv : isS 1 kv (u8s kinds)) (hkl : kinds.length < 2 ^ 40) {x : Ed} (hx1 : x.fr ∈ N) (hx2 : x.to ∈ N) {cs : List V} {out : List (List Int)} (hcs : Gc W1 cs out lo) (hrv : W1.get rv = some (.vec 1 cs)) (hout : out.length = N.length) (hol : ∀ l ∈ out, l.length < 2 ^ 40) (hlo : lo ≤ W1.nx)
  {A : AFr} {Q : Exit → AFr → AW → Prop} (a2 : A 2 = some (.ptr b2 0)) (a3 : A 3 = some (.ptr b3 0)) (a5 : A 5 = some (.ptr b5 0)) (a6 : A 6 = some (.ptr b6 0))
  (g2 : W1.get b2 = some (.row [.ptr g 0])) (g3 : W1.get b3 = some (.row [kv])) (g5 : W1.get b5 = some (.row [.slr rv 0 N.length 1])) (g6 : W1.get b6 = some (.row [.int .u16 x.fr, .int .u16 x.to, .int .u8 x.kd])) (l5 : b5 < W1.nx) (lrv : rv < W1.nx)
  (hQ : ∀ A' W' cs', Cl W' → W1.nx ≤ W'.nx → Gc W' cs' (nextStep N kinds out x) lo → W'.get rv = some (.vec 1 cs') → (∀ y, y < W1.nx → y ≠ rv → (∀ ys, W1.get y ≠ some (.buf true 1 ys)) → W'.get y = W1.get y) → (∀ y, y < lo → y ≠ rv → W'.get y = W1.get y) → Q .normal A' W') : awp E c_next_B1 Q A W1 := by
 have hf := lowB_lt hx1
 have ht := lowB_lt hx2
 have hN := hG.nl
 have hns := nowGS_S 1 (intsV N)
 have hcl := hcs.len
 have hfc : lowB N x.fr < cs.length := by omega
 have hfo : lowB N x.fr < out.length := by omega
 have hnow := hcs.now _ hfc hfo
 have hat : cs[lowB N x.fr]? = some cs[lowB N x.fr] := gEg _
 have hgd : out.getD (lowB N x.fr) [] = out[lowB N x.fr] := by rw [List.getD_eq_getElem?_getD, gEg hfo]; rfl
 have hos := nowGS_S 1 (i64s out[lowB N x.fr])
 have holf := hol _ (gmm hfo)
 simp (maxSteps:=9^9) (disch:=omega) only [BZ, ↓reduceIte, nE, BM, BD, c_next_B1, a2, a6, g2, g6, hG.hg, hG.now.frz]
 refine pc (bs16_c hP _ hns hNs (by omega) x.fr) ?_
 simp (maxSteps:=9^9) (disch:=omega) only [BZ, ↓reduceIte, nE, BM, BD, a2, a6, g2, g6, hG.hg, hG.now.frz]
 refine pc (bs16_c hP _ hns hNs (by omega) x.to) ?_
 simp (maxSteps:=9^9) (disch:=omega) only [BZ, ↓reduceIte, nE, BM, BD, a3, a6, g3, g6, hkv.frz]
 refine pc (has8_c hP _ hkv hkl x.kd) ?_
 cases hk : kinds.any fun k => decide (x.kd = k) with
 | false =>
  have hst : nextStep N kinds out x = out := by simp [nextStep, hk]
  rw [hst] at hQ
  simp (maxSteps:=9^9) (disch:=omega) only [BS, ↓reduceIte]
  repeat (rw [guard_if]; simp (maxSteps:=9^9) (disch:=omega) only [BS, BC, cond_if, ↓reduceIte, nE, BM])
  exact hQ _ _ cs hC (lr _) hcs hrv (fun _ _ _ _ => rfl) (fun _ _ _ => rfl)
 | true =>
  simp (maxSteps:=9^9) (disch:=omega) only [BS, ↓reduceIte]
  repeat (rw [guard_if]; simp (maxSteps:=9^9) (disch:=omega) only [BS, BC, ↓reduceIte, nE, BM, a5, g5, ix1 hf, ldv hrv hat, hnow.frz])
  refine pc (hasI_c hP _ hos holf _) ?_
  cases hi : out[lowB N x.fr].any fun t => decide ((lowB N x.to : Int) = t) with
  | true =>
   have hst : nextStep N kinds out x = out := by simp only [nextStep, hk, hgd, hi]; simp
   rw [hst] at hQ
   simp (maxSteps:=9^9) (disch:=omega) only [BS]
   repeat (rw [guard_if]; simp (maxSteps:=9^9) (disch:=omega) only [BS, BC, cond_if, ↓reduceIte, nE, BD])
   exact hQ _ _ cs hC (lr _) hcs hrv (fun _ _ _ _ => rfl) (fun _ _ _ => rfl)
  | false =>
   have hst : nextStep N kinds out x = out.set (lowB N x.fr) (out[lowB N x.fr] ++ [(lowB N x.to : Int)]) := by simp only [nextStep, hk, hgd, hi]; simp
   rw [hst] at hQ
   simp (maxSteps:=9^9) (disch:=omega) only [BS]
   repeat (rw [guard_if]; simp (maxSteps:=9^9) (disch:=omega) only [BS, BC, cond_if, ↓reduceIte, nE, BM, BD, a5, g5, ix1 hf, ldv hrv hat, bsI])
   have hnr : ∀ r, (r = W1.nx ∨ cs[lowB N x.fr] = .buf true r 1 (i64s out[lowB N x.fr]).length) → b5 ≠ r ∧ rv ≠ r ∧ b2 ≠ r := by
    have l2 : b2 < W1.nx := Classical.byContradiction fun hn => by rw [hC b2 (by omega)] at g2; cases g2
    intro r hr
    rcases hr with rfl | hr
    ·omega
    ·rcases hnow with ⟨e1, _⟩ | ⟨r', c1, c2, c3, c4, c5⟩
     ·rw [hr] at e1; cases e1
     ·rw [hr] at c3; cases c3
      refine ⟨?_, ?_, ?_⟩ <;> rintro rfl
      ·rw [g5] at c5; cases c5
      ·rw [hrv] at c5; cases c5
      ·rw [g2] at c5; cases c5
   have hap : ∀ (r : Nat) (W' : AW), nowG W' (.buf true r 1 ((i64s out[lowB N x.fr]).length + 1)) (i64s out[lowB N x.fr] ++ [.int .i64 (lowB N x.to)]) 1 lo → Cl W' → W1.nx ≤ W'.nx → (r = W1.nx ∨ cs[lowB N x.fr] = .buf true r 1 (i64s out[lowB N x.fr]).length) → (∀ y, y < W1.nx → y ≠ r → W'.get y = W1.get y) → ∀ A', Q .normal A' (W'.put rv (.vec 1 (cs.set (lowB N x.fr) (.buf true r 1 ((i64s out[lowB N x.fr]).length + 1))))) := by
    intro r W' gN gC gn hr gg A'
    obtain ⟨n5, nv, _⟩ := hnr r hr
    have hrv' : W'.get rv = some (.vec 1 cs) := by rw [gg rv lrv nv]; exact hrv
    have hg1 := hcs.app (f := lowB N x.fr) (r := r) (x := (lowB N x.to : Int)) hfc hfo gN gn hr gg
    refine hQ A' _ _ (gC.put (by omega)) (by rw [put_nx]; exact gn) (hg1.to (by rw [put_nx]; exact lr _) fun y _ _ ⟨ys, hy⟩ => put_ne (by rintro rfl; rw [hrv'] at hy; cases hy)) put_at (fun y hy hyr hyb => ?_) (fun y hy hyr => ?_)
    ·rw [put_ne hyr, gg y hy]
     rintro rfl
     rcases hr with e | hr
     ·omega
     ·rcases hnow with ⟨e1, _⟩ | ⟨r', c1, c2, c3, c4, c5⟩
      ·rw [hr] at e1; cases e1
      ·rw [hr] at c3; cases c3; exact hyb _ c5
    ·rw [put_ne hyr, gg y (by omega)]
     rintro rfl
     rcases hr with e | hr
     ·omega
     ·rcases hnow with ⟨e1, _⟩ | ⟨r', c1, c2, c3, c4, c5⟩
      ·rw [hr] at e1; cases e1
      ·rw [hr] at c3; cases c3; omega
   have hbl : ((i64s out[lowB N x.fr]).length + 1) * 8 ≤ 2 ^ 46 := by rw [i64s_len]; omega
   constructor
   ·refine app_now2 (lo := lo) hnow hC hlo (by decide) rfl hbl ?_
    intro r W' gN gC gn hr gg
    obtain ⟨n5, nv, _⟩ := hnr r hr
    have hrv' : W'.get rv = some (.vec 1 cs) := by rw [gg rv lrv nv]; exact hrv
    simp (maxSteps:=9^9) (disch:=omega) only [BS, ↓reduceIte, nE, BM, ix1 hf, stv hrv' hfc (c := .buf true r 1 ((i64s out[lowB N x.fr]).length + 1)) rfl rfl]
    exact hap r W' gN gC gn hr gg _
   ·refine app_now2 (lo := lo) hnow hC hlo (by decide) rfl hbl ?_
    intro r W' gN gC gn hr gg
    obtain ⟨n5, nv, _⟩ := hnr r hr
    have hrv' : W'.get rv = some (.vec 1 cs) := by rw [gg rv lrv nv]; exact hrv
    have g5' : W'.get b5 = some (.row [.slr rv 0 N.length 1]) := by rw [gg b5 l5 n5]; exact g5
    simp (maxSteps:=9^9) (disch:=omega) only [BS, BC, ↓reduceIte, nE, BM, a5, g5', ix1 hf, stv hrv' hfc (c := .buf true r 1 ((i64s out[lowB N x.fr]).length + 1)) rfl rfl]
    exact hap r W' gN gC gn hr gg _
def llV (out : List (List Int)) : V := .sl 1 false (out.map fun l => nowGS 1 (i64s l))
theorem mk24 {W : AW} {K : V → AW → Prop} {n : Nat} (h : n < 2 ^ 40) : sem E (.makesl 1 24 [.nilsl]) [.int .i64 (n : Int), .int .i64 (n : Int)] W K = K (.slr W.nx 0 n 1) (W.alloc (.vec 1 (List.replicate n .nilsl))) := by
 have hz : ∀ k, zerosV [V.nilsl] k = List.replicate k .nilsl := fun k => by
  induction k with
  | zero => rfl
  | succ k ih => simp only [zerosV, List.replicate_succ, List.flatten_cons] at ih ⊢; rw [ih]; rfl
 simp only [sem, Int.toNat_natCast, hz]
 exact propext ⟨fun h => h.2.2.2.2, fun h => ⟨by omega, tt, by omega, by omega, h⟩⟩
theorem chunks1' : ∀ (l : List V), chunks 1 l.length l = l
 | [] => rfl
 | x :: l => by
  have := chunks1' l
  simp only [lcs, chunks, if_true, List.headD_cons, List.drop_succ_cons, List.drop_zero, this]
theorem nextStep_le {N kinds : List Int} {out : List (List Int)} {x : Ed} {i : Nat} (h : ∀ l ∈ out, l.length ≤ i) : ∀ l ∈ nextStep N kinds out x, l.length ≤ i + 1 := by
 intro l hl
 unfold nextStep at hl
 split at hl
 ·rcases List.mem_or_eq_of_mem_set hl with hl | rfl
  ·have := h l hl; omega
  ·rw [lap]
   by_cases hk : lowB N x.fr < out.length
   ·rw [List.getD_eq_getElem?_getD, gEg hk]
    have := h _ (gmm hk)
    simp; omega
   ·rw [List.getD_eq_getElem?_getD, List.getElem?_eq_none (by omega)]; simp
 ·have := h l hl; omega
theorem ll_ones (out : List (List Int)) : (out.map fun l => nowGS 1 (i64s l)).all V.one = true := by
 rw [List.all_map, List.all_eq_true]
 intro l _
 exact (nowGS_S 1 (i64s l)).one
theorem ll_bel (out : List (List Int)) (n : Nat) : V.belL n (out.map fun l => nowGS 1 (i64s l)) = true := by
 have hb : ∀ l : List Int, V.belL n (i64s l) = true := by
  intro l
  induction l with
  | nil => rfl
  | cons x l ih => simp only [i64s, mcs, V.belL, Bool.and_eq_true] at ih ⊢; exact ⟨rfl, ih⟩
 induction out with
 | nil => rfl
 | cons x l ih =>
  simp only [mcs, V.belL, Bool.and_eq_true]
  exact ⟨(nowGS_S 1 (i64s x)).lens (hb x), ih⟩
theorem nextG_c (hP : PE E) (W : AW) {g m lo : Nat} {h kv : V} {P : List Ek} {N kinds : List Int} (hG : Gr W g m h P N lo) (hNs : N.Pairwise fun a b => a < b) (hPN : ∀ x ∈ P, x.1 ∈ N ∧ x.2.1 ∈ N) (hkv : isS 1 kv (u8s kinds)) (hkl : kinds.length < 2 ^ 40) (hne : N ≠ []) :
  ACalls E 56 [.ptr g 0, kv] W fun Y W' => Y = llV (nextR P N kinds) ∧ W' = W := by
 refine ACalls.of hP Tryz.func56 ok_nexte (by simp) fun _ hok => ?_
 refine awp_start hok ?_
 have hlg := hG.lg
 have hN := hG.nl
 simp (maxSteps:=9^9) (disch:=omega) only [BX, ↓reduceIte, nE, BM, BD, nA, nL, nT, c_next, hkv.cells, hG.hg, hG.now.len, ints_len, mk24]
 refine (edges_c hP _ g).mono ?_
 rintro _ W0 ⟨qe, rfl, hqe, hqn, hE⟩
 have hE0 : Ex W W0 := Ex.x0.trans hE
 have hn0 := hE.nx
 simp only [X_nx, rf, lcs, List.length_nil] at hn0
 have w2 : W0.get (rf W.nx 0) = some (.row [.ptr g 0]) := by rw [hE.get _ (by simp [X_nx, rf]), X_get]; rfl
 have w3 : W0.get (rf W.nx 1) = some (.row [kv]) := by rw [hE.get _ (by simp [X_nx, rf]), X_get]; rfl
 have w4 : W0.get (rf W.nx 2) = some (.vec 1 (List.replicate N.length .nilsl)) := by rw [hE.get _ (by simp [X_nx, rf]), X_get]; rfl
 have w5 : W0.get (rf W.nx 3) = some (.row [.slr (rf W.nx 2) 0 N.length 1]) := by rw [hE.get _ (by simp [X_nx, rf]), X_get]; rfl
 have r0 : rf W.nx 0 = W.nx := rfl
 have r1 : rf W.nx 1 = W.nx + 1 := rfl
 have r2 : rf W.nx 2 = W.nx + 2 := rfl
 have r3 : rf W.nx 3 = W.nx + 3 := rfl
 have hG0 := hG.ex hE0
 have hl := edL_lt hG
 simp (maxSteps:=9^9) (disch:=omega) only [BS, ]
 refine range_edges hP (q := qe) (P := P) (N := N) (by simp only [ev_t]; exact if_pos rfl) hqe hqn hE0.cl hG0 (fun i W1 => Cl W1 ∧ W0.nx < W1.nx ∧ (∀ x, x < W0.nx → x ≠ rf W.nx 2 → W1.get x = W0.get x) ∧ ∃ cs, Gc W1 cs (((edL P).take i).foldl (nextStep N kinds) (List.replicate N.length [])) W0.nx ∧ W1.get (rf W.nx 2) = some (.vec 1 cs) ∧ (((edL P).take i).foldl (nextStep N kinds) (List.replicate N.length [])).length = N.length ∧ ∀ l ∈ ((edL P).take i).foldl (nextStep N kinds) (List.replicate N.length []), l.length ≤ i) ?_ ?_ ?_ ?_
 ·intro W1 hE1 hn1
  refine ⟨hE1.cl, hn1, fun x hx _ => hE1.get x hx, List.replicate N.length .nilsl, Gc.start _ _ _, by rw [hE1.get _ (by omega)]; exact w4, by simp, by simp⟩
 ·exact fun i W1 h => ⟨h.1, h.2.1⟩
 ·rintro i hi W1 W1' ⟨j0, j1, j2, cs, j3, j4, j5, j6⟩ hE1 hlp
  have hst : ((edL P).take (i + 1)).foldl (nextStep N kinds) (List.replicate N.length []) = nextStep N kinds (((edL P).take i).foldl (nextStep N kinds) (List.replicate N.length [])) (edL P)[i] := by
   rw [tao, gEg hi, List.foldl_append]; rfl
  have hxN := hPN _ (edL_mem.1 (gmm hi))
  generalize (edL P)[i] = x at hst hxN
  rw [hst]
  generalize ((edL P).take i).foldl (nextStep N kinds) (List.replicate N.length []) = out at j3 j5 j6
  have hn1 := hE1.nx
  refine awp_startC hE1.cl ?_
  simp (maxSteps:=9^9) (disch:=omega) only [BS, BC, ↓reduceIte, nE, BM, BD, nA, nL, nT, Ed.V, hlp]
  refine ⟨tt, ?_⟩
  have hxg : ∀ y, y < W0.nx → y ≠ rf W.nx 2 → (X (W1'.put W0.nx (.loop .busy none)) W1'.nx [.row [.int .u16 x.fr, .int .u16 x.to, .int .u8 x.kd]]).get y = W0.get y := fun y hy hyr => by
   rw [X_old (by omega), put_ne (by omega), hE1.get y (by omega)]; exact j2 y hy hyr
  have hG1 := hG.ex (W1 := X (W1'.put W0.nx (.loop .busy none)) W1'.nx [.row [.int .u16 x.fr, .int .u16 x.to, .int .u8 x.kd]]) ⟨Cl.X, by simp only [X_nx, rf]; omega, fun y hy => by rw [hxg y (by omega) (by omega)]; exact hE0.get y hy⟩
  have hrv : (X (W1'.put W0.nx (.loop .busy none)) W1'.nx [.row [.int .u16 x.fr, .int .u16 x.to, .int .u8 x.kd]]).get (rf W.nx 2) = some (.vec 1 cs) := by
   rw [X_old (by omega), put_ne (by omega), hE1.get _ (by omega)]; exact j4
  have hcs := (j3.to hE1.nx fun r _ hr _ => hE1.get r hr).to (W' := X (W1'.put W0.nx (.loop .busy none)) W1'.nx [.row [.int .u16 x.fr, .int .u16 x.to, .int .u8 x.kd]]) (by simp only [X_nx, rf]; omega) fun r _ h2 ⟨ys, hy⟩ => by rw [X_old h2, put_ne (by rintro rfl; rw [hlp] at hy; cases hy)]
  refine next1_go hP (lo := W0.nx) (b2 := rf W.nx 0) (b3 := rf W.nx 1) (b5 := rf W.nx 3) (b6 := rf W1'.nx 0) (rv := rf W.nx 2) Cl.X hG1 hNs hkv hkl hxN.1 hxN.2 hcs hrv j5 (fun l hl' => by have := j6 l hl'; omega) (by simp only [X_nx, rf]; omega) rfl rfl rfl rfl (by rw [hxg _ (by omega) (by omega)]; exact w2) (by rw [hxg _ (by omega) (by omega)]; exact w3) (by rw [hxg _ (by omega) (by omega)]; exact w5) (by rw [X_get]; rfl) (by simp only [X_nx]; simp only [rf]; omega) (by simp only [X_nx]; simp only [rf]; omega) ?_
  intro A'' W'' cs' fC fn fG frv ff1 ff2
  simp only [X_nx, rf, lcs, List.length_nil] at fn
  have hloop : W''.get W0.nx = some (.loop .busy none) := by
   rw [ff1 W0.nx (by simp only [X_nx, rf]; omega) (by omega) (fun ys => by rw [X_old (by omega), put_at]; simp), X_old (by omega), put_at]
  refine ⟨rfl, hloop, fC.put (by omega), by rw [put_nx]; omega, fun y hy hyr => ?_, cs', ?_, ?_, by rw [nextStep_len]; exact j5, nextStep_le j6⟩
  ·rw [put_ne (by omega), ff2 y hy hyr]; exact hxg y hy hyr
  ·exact fG.to (by rw [put_nx]; exact lr _) fun r _ _ ⟨ys, hy⟩ => put_ne (by rintro rfl; rw [hloop] at hy; cases hy)
  ·rw [put_ne (by omega)]; exact frv
 ·rintro W1 ⟨j0, j1, j2, cs, j3, j4, j5, j6⟩ hlp
  rw [tkl] at j3 j5
  have k5 : (W1.put W0.nx (.loop .exhausted none)).get (rf W.nx 3) = some (.row [.slr (rf W.nx 2) 0 N.length 1]) := by rw [put_ne (by omega), j2 _ (by omega) (by omega)]; exact w5
  simp (maxSteps:=9^9) (disch:=omega) only [BZ, ↓reduceIte, nE, BM, k5]
  have hcs := j3.to (W' := W1.put W0.nx (.loop .exhausted none)) (by rw [put_nx]; exact lr _) fun r _ _ ⟨ys, hy⟩ => put_ne (by rintro rfl; rw [hlp] at hy; cases hy)
  have hfz := hcs.frz
  have hcl := hcs.len
  have hlen : 0 < N.length := List.length_pos_iff.2 hne
  have hnr : nextR P N kinds = (edL P).foldl (nextStep N kinds) (List.replicate N.length []) := rfl
  rw [← hnr] at hfz hcl j5
  have hch : chunks 1 N.length (cs.map (W1.put W0.nx (.loop .exhausted none)).frz) = (nextR P N kinds).map fun l => nowGS 1 (i64s l) := by
   rw [hfz]
   have := chunks1' ((nextR P N kinds).map fun l => nowGS 1 (i64s l))
   rw [lmp, j5] at this
   exact this
  refine ⟨_, rfl, .sl 1 false (chunks 1 N.length (cs.map (W1.put W0.nx (.loop .exhausted none)).frz)), W, ?_, lr _, by rw [hch]; rfl, rfl⟩
  refine .frzd (by rw [put_ne (by omega)]; exact j4) (by omega) hlen (by decide) (by rw [hfz]; exact ll_ones _) ?_
  rw [hch]
  refine weak_back hok (ll_bel _ _) fun y hy => ?_
  have hy' : y < W.nx := hy
  have hyr : y ≠ rf W.nx 2 := by omega
  simp only [AW.drop, hyr, ↓reduceIte]
  rw [put_ne (by omega), j2 y (by omega) hyr]
  exact hE0.get y hy'
end Go.AL.S
namespace Go.AL.S
section
variable {α : Type} [DecidableEq α]
def outE (E : List (α × α)) (a : α) : List α := (E.filter fun e => decide (e.1 = a)).map (·.2)
theorem out_mem {E : List (α × α)} {a b : α} : b ∈ outE E a ↔ (a, b) ∈ E := by
 unfold outE
 rw [mmp]
 constructor
 ·rintro ⟨⟨x, y⟩, h, rfl⟩
  obtain ⟨h1, h2⟩ := List.mem_filter.1 h
  have : x = a := of_decide_eq_true h2
  subst this; exact h1
 ·intro h; exact ⟨(a, b), List.mem_filter.2 ⟨h, by simp⟩, rfl⟩
end
open Go Go.AL Go.AL.SE Go.Proofs
variable {E : Env}
theorem lowB_at {N : List Int} (hN : N.Pairwise fun a b => a < b) {j : Nat} (hj : j < N.length) : lowB N N[j] = j := by
 have h := List.pairwise_iff_getElem.1 hN
 exact lowB_of (by omega) (fun i hi hij => h i j hi hj hij) (fun h => by omega)
theorem at_low {N : List Int} (hN : N.Pairwise fun a b => a < b) {x : Int} (hx : x ∈ N) : ∃ j, ∃ h : j < N.length, N[j] = x ∧ lowB N x = j := by
 obtain ⟨j, hj, rfl⟩ := List.getElem_of_mem hx
 exact ⟨j, hj, rfl, lowB_at hN hj⟩
def kin (kinds : List Int) (k : Int) : Bool := kinds.any fun x => decide (k = x)
theorem step_mem {N kinds : List Int} (hN : N.Pairwise fun a b => a < b) {out : List (List Int)} (ho : out.length = N.length) {x : Ed} (hx : x.fr ∈ N) {i : Nat} (hi : i < N.length) {t : Int} : t ∈ (nextStep N kinds out x).getD i [] ↔ t ∈ out.getD i [] ∨ (x.fr = N[i] ∧ kin kinds x.kd = true ∧ t = (lowB N x.to : Int)) := by
 obtain ⟨f, hf, f1, f2⟩ := at_low hN hx
 have hne : x.fr = N[i] → i = f := fun e => by rw [← lowB_at hN hi, ← e, f2]
 have hfi : i = f → x.fr = N[i] := fun e => by subst e; exact f1.symm
 unfold nextStep
 rw [f2]
 by_cases hk : (kinds.any fun k => decide (x.kd = k)) = true
 ·have hk' : kin kinds x.kd = true := hk
  cases hc : (out.getD f []).any fun t => decide ((lowB N x.to : Int) = t) with
  | true =>
   rw [if_neg (by simp)]
   refine ⟨.inl, fun h => h.elim id ?_⟩
   rintro ⟨e, _, rfl⟩
   obtain ⟨t', ht, h2⟩ := List.any_eq_true.1 hc
   rw [decide_eq_true_eq] at h2
   rw [h2, hne e]; exact ht
  | false =>
   rw [if_pos ⟨hk, rfl⟩, List.getD_eq_getElem?_getD, List.getElem?_set]
   by_cases e : f = i
   ·rw [if_pos e, if_pos (by omega)]
    subst e
    simp only [Option.getD_some, map', msg]
    exact ⟨fun h => h.elim .inl fun h => .inr ⟨f1.symm, hk', h⟩, fun h => h.elim .inl fun h => .inr h.2.2⟩
   ·rw [if_neg e, ← List.getD_eq_getElem?_getD]
    exact ⟨.inl, fun h => h.elim id fun h => absurd (hne h.1).symm e⟩
 ·rw [if_neg (fun h => hk h.1)]
  exact ⟨.inl, fun h => h.elim id fun h => absurd h.2.1 hk⟩
theorem next_mem {N kinds : List Int} (hN : N.Pairwise fun a b => a < b) : ∀ (l : List Ed) (out : List (List Int)), out.length = N.length → (∀ e ∈ l, e.fr ∈ N) → (l.foldl (nextStep N kinds) out).length = N.length ∧ ∀ i (hi : i < N.length) (t : Int), t ∈ (l.foldl (nextStep N kinds) out).getD i [] ↔ t ∈ out.getD i [] ∨ ∃ e ∈ l, e.fr = N[i] ∧ kin kinds e.kd = true ∧ t = (lowB N e.to : Int)
 | [], out, ho, _ => ⟨ho, fun i hi t => by simp⟩
 | x :: l, out, ho, hm => by
  obtain ⟨h1, h2⟩ := next_mem hN (kinds := kinds) l (nextStep N kinds out x) (by rw [nextStep_len]; exact ho) fun e he => hm e (by simp [he])
  refine ⟨h1, fun i hi t => ?_⟩
  rw [List.foldl_cons, h2 i hi t, step_mem hN ho (hm x (by simp)) hi]
  constructor
  ·rintro ((h | h) | ⟨e, he, h⟩)
   ·exact .inl h
   ·exact .inr ⟨x, by simp, h⟩
   ·exact .inr ⟨e, by simp [he], h⟩
  ·rintro (h | ⟨e, he, h⟩)
   ·exact .inl (.inl h)
   ·rcases List.mem_cons.1 he with rfl | he
    ·exact .inl (.inr h)
    ·exact .inr ⟨e, he, h⟩
theorem next_short {N kinds : List Int} : ∀ (l : List Ed) (out : List (List Int)) (m : Nat), (∀ x ∈ out, x.length ≤ m) → ∀ x ∈ l.foldl (nextStep N kinds) out, x.length ≤ m + l.length
 | [], out, m, h => by simpa using h
 | x :: l, out, m, h => by
  have := next_short (N := N) (kinds := kinds) l (nextStep N kinds out x) (m + 1) (nextStep_le h)
  intro y hy
  have := this y hy
  simp only [lcs]; omega
def prs (P : List Ed) (ks : Int → Bool) : List (Int × Int) := (P.filter fun e => ks e.kd).map fun e => (e.fr, e.to)
theorem prs_mem {P : List Ed} {ks : Int → Bool} {a b : Int} : (a, b) ∈ prs P ks ↔ ∃ e ∈ P, e.fr = a ∧ e.to = b ∧ ks e.kd = true := by
 rw [prs, mmp]
 constructor
 ·rintro ⟨e, he, h⟩
  obtain ⟨h1, h2⟩ := List.mem_filter.1 he
  cases h
  exact ⟨e, h1, rfl, rfl, h2⟩
 ·rintro ⟨e, he, rfl, rfl, h⟩
  exact ⟨e, List.mem_filter.2 ⟨he, h⟩, rfl⟩
def nxN (P : List Ek) (N kinds : List Int) (i : Nat) : List Nat := ((nextR P N kinds).getD i []).map Int.toNat
theorem nxN_mem {P : List Ek} {N kinds : List Int} (hN : N.Pairwise fun a b => a < b) (hm : ∀ e ∈ edL P, e.fr ∈ N ∧ e.to ∈ N) {i j : Nat} (hi : i < N.length) : j ∈ nxN P N kinds i ↔ ∃ h : j < N.length, N[j] ∈ outE (prs (edL P) (kin kinds)) N[i] := by
 have h2 := (next_mem (kinds := kinds) hN (edL P) (List.replicate N.length []) (by simp) fun e he => (hm e he).1).2 i hi
 rw [nxN, mmp]
 constructor
 ·rintro ⟨t, ht, rfl⟩
  rcases (h2 t).1 ht with h | ⟨e, he, e1, e2, rfl⟩
  ·rw [List.getD_eq_getElem?_getD, List.getElem?_replicate, if_pos hi] at h; cases h
  ·obtain ⟨k, hk, k1, k2⟩ := at_low hN (hm e he).2
   rw [k2]
   refine ⟨by simpa using hk, out_mem.2 (prs_mem.2 ⟨e, he, e1, ?_, e2⟩)⟩
   simp [k1]
 ·rintro ⟨h, ho⟩
  obtain ⟨e, he, e1, e2, e3⟩ := prs_mem.1 (out_mem.1 ho)
  exact ⟨(j : Int), (h2 j).2 (.inr ⟨e, he, e1, e3, by rw [e2, lowB_at hN h]⟩), by simp⟩
theorem next_ints {P : List Ek} {N kinds : List Int} (hN : N.Pairwise fun a b => a < b) (hm : ∀ e ∈ edL P, e.fr ∈ N ∧ e.to ∈ N) {i : Nat} (hi : i < N.length) : i64s ((nextR P N kinds).getD i []) = natsV (nxN P N kinds i) := by
 have h2 := (next_mem (kinds := kinds) hN (edL P) (List.replicate N.length []) (by simp) fun e he => (hm e he).1).2 i hi
 rw [natsV, nxN, i64s, List.map_map]
 refine List.map_congr_left fun t ht => ?_
 rcases (h2 t).1 ht with h | ⟨e, _, _, _, rfl⟩
 ·rw [List.getD_eq_getElem?_getD, List.getElem?_replicate, if_pos hi] at h; cases h
 ·simp
theorem nx_Nx {P : List Ek} {N kinds : List Int} (hN : N.Pairwise fun a b => a < b) (hm : ∀ e ∈ edL P, e.fr ∈ N ∧ e.to ∈ N) (hl : (edL P).length < 2 ^ 32) : Nx (llV (nextR P N kinds)) (nxN P N kinds) N.length := by
 have hlen := (next_mem (kinds := kinds) hN (edL P) (List.replicate N.length []) (by simp) fun e he => (hm e he).1).1
 have hsh := next_short (N := N) (kinds := kinds) (edL P) (List.replicate N.length []) 0 fun x hx => by rw [List.eq_of_mem_replicate hx]; exact lr _
 refine ⟨⟨_, .inl .mk, by rw [lmp]; exact hlen, fun i h => ?_⟩, fun i hi k hk => ?_, fun i hi => ?_⟩
 ·have hi : i < (nextR P N kinds).length := by simpa using h
  rw [List.getElem_map]
  have := next_ints (kinds := kinds) hN hm (show i < N.length by rw [← hlen]; exact hi)
  rw [List.getD_eq_getElem?_getD, gEg hi, Option.getD_some] at this
  rw [this]; exact nowGS_S 1 _
 ·exact ((nxN_mem hN hm hi).1 hk).1
 ·rw [nxN, lmp, List.getD_eq_getElem?_getD, gEg (show i < (nextR P N kinds).length by rw [nextR, hlen]; exact hi), Option.getD_some]
  have := hsh _ (gmm (show i < (nextR P N kinds).length by rw [nextR, hlen]; exact hi))
  omega
abbrev Sp := Int × Bool
def ownE (own : Int) (e : Ed) : Bool := e.kd == own
def outL (es : List Ed) (own x : Int) : List Ed := es.filter fun e => decide (e.kd ≤ own) && decide (e.fr = x)
def inL (es : List Ed) (own x : Int) : List Ed := es.filter fun e => decide (e.kd ≤ own) && decide (e.to = x)
def behE (own : Int) (b : Bool) (e : Ed) : List Sp := ([false, true].filter fun o => b == (o || ownE own e)).map fun o => (e.fr, o)
def behR (es : List Ed) (own : Int) (x : Sp) : List Sp := (inL es own x.1).flatMap (behE own x.2)
abbrev Fl := List (Sp × Nat)
def putF (d : Nat) (L : Fl) (y : Sp) : Fl := if y ∈ L.map (·.1) then L else L ++ [(y, d + 1)]
def stepF (es : List Ed) (own : Int) (L : Fl) (x : Sp × Nat) : Fl := (behR es own x.1).foldl (putF x.2) L
def farGo (es : List Ed) (own : Int) : Nat → Nat → Fl → Fl
 | 0, _, L => L
 | n + 1, i, L => match L[i]? with
  | none => L
  | some x => farGo es own n (i + 1) (stepF es own L x)
def farR (es : List Ed) (own : Int) (to : Sp) : Fl := farGo es own (2 * es.length + 2) 0 [(to, 0)]
def lookF (L : Fl) (x : Sp) : Option Nat := (L.find? fun y => y.1 == x).map (·.2)
def ahStep (own : Int) (far : Fl) (left : Nat) (b : Bool) (best : List Sp) (e : Ed) : List Sp :=
 match lookF far (e.to, b || ownE own e) with
 | none => best
 | some d => if d ≠ left then best else match best with
  | [] => [(e.to, b || ownE own e)]
  | h :: t => if e.to > h.1 then best else if (e.to, b || ownE own e) ∈ best then best else if e.to = h.1 then h :: t ++ [(e.to, b || ownE own e)] else [(e.to, b || ownE own e)]
def ahSpot (es : List Ed) (own : Int) (far : Fl) (left : Nat) (best : List Sp) (x : Sp) : List Sp := (outL es own x.1).foldl (ahStep own far left x.2) best
def aheadR (es : List Ed) (own : Int) (at' : List Sp) (far : Fl) (left : Nat) : List Sp := at'.foldl (ahSpot es own far left) []
def idsGo (es : List Ed) (own : Int) (far : Fl) : Nat → List Sp → List Int → List Int
 | 0, _, l => l
 | k + 1, at', l => idsGo es own far k (aheadR es own at' far (k + 1)) (l ++ [((aheadR es own at' far (k + 1)).headD (0, false)).1])
def idsR (es : List Ed) (own first : Int) (far : Fl) (n : Nat) : List Int := idsGo es own far (n - 1) [(first, false)] [first]
def kindE (own to : Int) (p : Int × Bool) (e : Ed) : Int × Bool := if e.to = to then (min p.1 e.kd, p.2 || ownE own e) else p
def kindAt (es : List Ed) (own : Int) (l : List Int) (i : Nat) : Int × Bool := (outL es own (l.getD i 0)).foldl (kindE own (l.getD ((i + 1) % l.length) 0)) (own, false)
def leastR (es : List Ed) (own : Int) (l : List Int) : List Int := (List.range l.length).map fun i => (kindAt es own l i).1
def lateR (es : List Ed) (own : Int) (l : List Int) : Option Nat := (List.range l.length).foldl (fun o i => if (kindAt es own l i).2 = true then some i else o) none
def kindsR (es : List Ed) (own : Int) (l : List Int) : List Int := if own ∈ leastR es own l then leastR es own l else match lateR es own l with
 | none => leastR es own l
 | some i => (leastR es own l).set i own
def shStep (es : List Ed) (own : Int) (best : List Int) (first : Int) : List Int :=
 match lookF (farR es own (first, true)) (first, false) with
 | none => best
 | some n => if best = [] ∨ n < best.length then idsR es own first (farR es own (first, true)) n else best
def bestR (es : List Ed) (N : List Int) (own : Int) : List Int := N.foldl (shStep es own) []
def ownR (k : Int) : Option Int := if k = 1 then some 0 else if k = 8 then some 1 else if k = 16 then some 2 else none
def shortR (es : List Ed) (N : List Int) (k : Int) : Option (List Int × List Int) := match ownR k with
 | none => none
 | some own => if bestR es N own = [] then none else some (bestR es N own, kindsR es own (bestR es N own))
def Lds (es : List Ed) (own : Int) (x y : Sp) : Prop := ∃ e ∈ es, e.kd ≤ own ∧ e.fr = x.1 ∧ e.to = y.1 ∧ y.2 = (x.2 || ownE own e)
theorem mem_beh {es : List Ed} {own : Int} {x y : Sp} : x ∈ behR es own y ↔ Lds es own x y := by
 unfold behR inL behE Lds
 simp only [List.mem_flatMap, mfl, Bool.and_eq_true, decide_eq_true_eq, mmp, List.mem_cons, List.not_mem_nil, or_false, beq_iff_eq]
 constructor
 ·rintro ⟨e, ⟨h1, h2, h3⟩, o, ⟨h4, h5⟩, rfl⟩
  exact ⟨e, h1, h2, rfl, h3, h5⟩
 ·rintro ⟨e, h1, h2, h3, h4, h5⟩
  exact ⟨e, ⟨h1, h2, h4⟩, x.2, ⟨by cases x.2 <;> simp, h5⟩, by rw [h3]⟩
theorem look_some {L : Fl} (hn : (L.map (·.1)).Nodup) {x : Sp} {d : Nat} : lookF L x = some d ↔ (x, d) ∈ L := by
 unfold lookF
 induction L with
 | nil => simp
 | cons y L ih =>
  rw [mcs, List.nodup_cons] at hn
  rw [List.find?_cons]
  by_cases h : y.1 = x
  ·subst h
   simp only [beq_self_eq_true, Option.map_some, Option.some.injEq, List.mem_cons]
   constructor
   ·rintro rfl; exact .inl rfl
   ·rintro (h | h)
    ·rw [← h]
    ·exact absurd (List.mem_map.2 ⟨_, h, rfl⟩) hn.1
  ·have : (y.1 == x) = false := beq_eq_false_iff_ne.2 h
   rw [this]
   simp only [List.mem_cons, ih hn.2]
   constructor
   ·exact .inr
   ·rintro (h' | h')
    ·rw [← h'] at h; exact absurd rfl h
    ·exact h'
theorem look_none {L : Fl} {x : Sp} : lookF L x = none ↔ x ∉ L.map (·.1) := by
 unfold lookF
 rw [Option.map_eq_none_iff, List.find?_eq_none]
 simp only [beq_iff_eq, mmp, not_exists, not_and]
theorem mset_keys_g {α : Type} {enc : α → V} {p : α → Prop} {es : List En} (hk : ∀ e ∈ es, ∃ a, e.1 = enc a ∧ p a) {a : α} (ha : p a) {v : V} {c : Nat} : ∀ e ∈ (mset (enc a) v es c).1, ∃ a, e.1 = enc a ∧ p a := by
 have hu : ∀ l : List En, (∀ e ∈ l, ∃ a, e.1 = enc a ∧ p a) → ∀ e ∈ updK (enc a) v l, ∃ a, e.1 = enc a ∧ p a := by
  intro l
  induction l with
  | nil => intro _ e he; simp [updK] at he
  | cons x l ih =>
   intro hl e he
   simp only [updK] at he
   split at he
   ·rcases List.mem_cons.1 he with rfl | he
    ·exact ⟨a, rfl, ha⟩
    ·exact hl e (by simp [he])
   ·rcases List.mem_cons.1 he with rfl | he
    ·exact hl _ (by simp)
    ·exact ih (fun e he => hl e (by simp [he])) e he
 unfold mset
 split
 ·exact hu es hk
 ·intro e he
  rcases List.mem_append.1 he with he | he
  ·exact hk e he
  ·rw [List.mem_singleton.1 he]; exact ⟨a, rfl, ha⟩
theorem mset_val_g {α : Type} [DecidableEq α] {enc : α → V} (he : ∀ a b, (enc a).keq (enc b) = decide (a = b)) {es : List En} (hk : ∀ e ∈ es, ∃ a, e.1 = enc a) (a b : α) {v : V} {c : Nat} : (findK (enc b) (mset (enc a) v es c).1).map (·.2.1) = if b = a then some v else (findK (enc b) es).map (·.2.1) := by
 have hu : ∀ l : List En, (∀ e ∈ l, ∃ a, e.1 = enc a) → (findK (enc a) l).isSome → (findK (enc b) (updK (enc a) v l)).map (·.2.1) = if b = a then some v else (findK (enc b) l).map (·.2.1) := by
  intro l
  induction l with
  | nil => intro _ h; cases h
  | cons y l ih =>
   intro hl hs
   obtain ⟨k, e1⟩ := hl y (by simp)
   simp only [updK, findK, e1, he] at hs ⊢
   by_cases hy : a = k
   ·subst hy
    simp only [dT, if_true, findK, he]
    by_cases hb : b = a
    ·simp [hb]
    ·simp [hb]
   ·simp only [decide_eq_false hy, Bool.false_eq_true, if_false, findK, e1, he] at hs ⊢
    by_cases hb : b = k
    ·subst hb
     have : ¬ b = a := fun h => hy h.symm
     simp [this]
    ·simp only [decide_eq_false hb, Bool.false_eq_true, if_false]
     exact ih (fun e he => hl e (by simp [he])) hs
 unfold mset
 cases hf : findK (enc a) es with
 | some e => exact hu es hk (by rw [hf]; rfl)
 | none =>
  simp only
  rw [findK_app]
  by_cases hb : b = a
  ·subst hb
   simp [hf, findK, he]
  ·rw [if_neg hb]
   cases findK (enc b) es with
   | some e => rfl
   | none => simp [findK, he, hb]
def k16 (x : Int) : V := .int .u16 x
theorem k16_eq (a b : Int) : (k16 a).keq (k16 b) = decide (a = b) := keq_int
def spV (x : Sp) : V := .agg [.int .u16 x.1, .bool x.2]
theorem spV_eq (a b : Sp) : (spV a).keq (spV b) = decide (a = b) := by
 obtain ⟨a1, a2⟩ := a
 obtain ⟨b1, b2⟩ := b
 have : (spV (a1, a2)).keq (spV (b1, b2)) = (decide (a1 = b1) && (decide (a2 = b2) && true)) := by
  simp [spV, V.keq, V.cells, V.eqs, V.eq1]
  rfl
 rw [this, Bool.and_true]
 by_cases h1 : a1 = b1 <;> by_cases h2 : a2 = b2 <;> simp [h1, h2]
theorem spV_has {x : Sp} (h : 0 ≤ x.1 ∧ x.1 < 65536) : (spV x).has (true, [.i .u16, .b]) = true := by
 have := u16_has h.1 h.2
 simp only [V.has, V.isAgg, V.cells, V.hasKs, Bool.and_true] at this
 simp only [spV, V.has, V.isAgg, V.cells, V.hasKs, V.hasK, Bool.and_true]
 simp only [V.hasK] at this
 simpa using this
def hdM (es : List En) (x : Int) : V := ((findK (k16 x) es).map (·.2.1)).getD .nilsl
structure Mg (W : AW) (m : Nat) (f : Int → List Ed) (lo : Nat) (es : List En) (c : Nat) : Prop where
 hm : W.get m = some (.map es c)
 lm : m < W.nx
 ky : ∀ e ∈ es, ∃ x, e.1 = k16 x ∧ 0 ≤ x ∧ x < 65536
 vl : ∀ x, nowG W (hdM es x) ((f x).map Ed.V) 3 lo
 ne : ∀ x y, x ≠ y → ∀ r n n', hdM es x = .buf true r 3 n → hdM es y ≠ .buf true r 3 n'
theorem Mg.ok {W : AW} {m lo c : Nat} {f : Int → List Ed} {es : List En} (h : Mg W m f lo es c) {x : Int} (h0 : 0 ≤ x) (h1 : x < 65536) : keysOk (false, [.i .u16]) (.int .u16 x) es := by
 refine ⟨u16_has h0 h1, fun e he => ?_⟩
 obtain ⟨n, e1, a, b⟩ := h.ky e he
 rw [e1]; exact u16_has a b
theorem Mg.look {W : AW} {m lo c : Nat} {f : Int → List Ed} {es : List En} (h : Mg W m f lo es c) {x : Int} (h0 : 0 ≤ x) (h1 : x < 65536) {K : V → AW → Prop} : sem E (.lookup (false, [.i .u16]) .nilsl false) [.map m, .int .u16 x] W K = K (hdM es x) W := by
 rw [m_lookup h.hm (h.ok h0 h1)]
 show lookK _ _ _ (k16 x) _ _ = _
 unfold lookK hdM
 cases (findK (k16 x) es).map (·.2.1) <;> rfl
theorem Mg.to {W W' : AW} {m lo c : Nat} {f : Int → List Ed} {es : List En} (h : Mg W m f lo es c) (hx : W.nx ≤ W'.nx) (hm : W'.get m = W.get m) (hg : ∀ r, lo ≤ r → r < W.nx → (∃ ys, W.get r = some (.buf true 3 ys)) → W'.get r = W.get r) : Mg W' m f lo es c :=
 ⟨hm.trans h.hm, by have := h.lm; omega, h.ky, fun x => (h.vl x).to hx hg, h.ne⟩
theorem Mg.ex {W W' : AW} {m lo c : Nat} {f : Int → List Ed} {es : List En} (h : Mg W m f lo es c) (hE : Ex W W') : Mg W' m f lo es c := h.to hE.nx (hE.get _ h.lm) fun r _ hr _ => hE.get r hr
theorem nowG.idx' {W : AW} {K : V → AW → Prop} {h : V} {xs : List V} {s lo k : Nat} {kk : IntKind} {x : V} (hn : nowG W h xs s lo) (hx : xs[k]? = some x) : sem E (.idxp s) [h, .int kk (k : Int)] W K = K (.cptr x.cells) W := by
 have hk : k < xs.length := by
  by_cases h : k < xs.length
  ·exact h
  ·rw [List.getElem?_eq_none (by omega)] at hx; cases hx
 rw [gEg hk] at hx
 cases hx
 rcases hn with ⟨_, rfl⟩ | ⟨r, _, _, rfl, _, hg⟩
 ·simp at hk
 ·simp [sem, rsem, hg, hk]
theorem nowG.keep {W W' : AW} {h : V} {xs : List V} {s lo : Nat} (hn : nowG W h xs s lo) (hx : W.nx ≤ W'.nx) (hg : ∀ r, h = .buf true r s xs.length → r < W.nx → W'.get r = W.get r) : nowG W' h xs s lo := by
 rcases hn with ⟨rfl, rfl⟩ | ⟨r, h1, h2, h3, h4, h5⟩
 ·exact .inl ⟨rfl, rfl⟩
 ·exact .inr ⟨r, h1, by omega, h3, h4, by rw [hg r h3 h2]; exact h5⟩
theorem nowG.low {W : AW} {h : V} {xs : List V} {s lo lo' : Nat} (hn : nowG W h xs s lo) (hl : lo' ≤ lo) : nowG W h xs s lo' := by
 rcases hn with h | ⟨r, h1, h2⟩
 ·exact .inl h
 ·exact .inr ⟨r, by omega, h2⟩
theorem nowG.ref {W : AW} {h : V} {xs : List V} {s lo r n : Nat} (hn : nowG W h xs s lo) (e : h = .buf true r s n) : r < W.nx ∧ lo ≤ r ∧ n = xs.length := by
 rcases hn with ⟨rfl, _⟩ | ⟨r', h1, h2, h3, _⟩
 ·cases e
 ·rw [e] at h3; cases h3; exact ⟨h2, h1, rfl⟩
theorem nowG.at {W : AW} {h : V} {xs : List V} {s lo r n : Nat} (hn : nowG W h xs s lo) (e : h = .buf true r s n) : W.get r = some (.buf true s xs) := by
 rcases hn with ⟨rfl, _⟩ | ⟨r', _, _, h3, _, h5⟩
 ·cases e
 ·rw [e] at h3; cases h3; exact h5
def addE (f : Int → List Ed) (x : Int) (e : Ed) : Int → List Ed := fun y => if y = x then f y ++ [e] else f y
theorem Mg.app {W W2 : AW} {m lo c r : Nat} {f : Int → List Ed} {es : List En} {x : Int} {e : Ed} (h : Mg W m f lo es c) (h0 : 0 ≤ x) (h1 : x < 65536)
  (hn : nowG W2 (.buf true r 3 (((f x).map Ed.V).length + 1)) ((f x).map Ed.V ++ [e.V]) 3 lo) (hx : W.nx ≤ W2.nx) (hr : r = W.nx ∨ hdM es x = .buf true r 3 ((f x).map Ed.V).length) (hg : ∀ y, y < W.nx → y ≠ r → W2.get y = W.get y) :
  W2.get m = some (.map es c) ∧ Mg (W2.put m (.map (mset (.int .u16 x) (.buf true r 3 (((f x).map Ed.V).length + 1)) es c).1 (mset (.int .u16 x) (.buf true r 3 (((f x).map Ed.V).length + 1)) es c).2)) m (addE f x e) lo (mset (.int .u16 x) (.buf true r 3 (((f x).map Ed.V).length + 1)) es c).1 (mset (.int .u16 x) (.buf true r 3 (((f x).map Ed.V).length + 1)) es c).2 := by
 have rm : m ≠ r := fun e => by
  rcases hr with e2 | hr
  ·have := h.lm; omega
  ·have := (h.vl x).at hr
   rw [← e, h.hm] at this; cases this
 have gm := (hg m h.lm rm).trans h.hm
 have rc : ∀ y, y ≠ x → ∀ n, hdM es y ≠ .buf true r 3 n := fun y hy n e2 => by
  rcases hr with rfl | hr
  ·have := ((h.vl y).ref e2).1; omega
  ·exact h.ne x y (fun e => hy e.symm) r _ n hr e2
 have nb : ∀ {h' : V} {xs : List V} {n : Nat}, nowG W h' xs 3 lo → h' = .buf true m 3 n → False := fun {h' xs n} hN e => by
  have := hN.at e
  rw [h.hm] at this; cases this
 have hv : ∀ y, hdM (mset (.int .u16 x) (.buf true r 3 (((f x).map Ed.V).length + 1)) es c).1 y = if y = x then .buf true r 3 (((f x).map Ed.V).length + 1) else hdM es y := fun y => by
  unfold hdM
  rw [show V.int .u16 x = k16 x from rfl, mset_val_g k16_eq (fun e he => by obtain ⟨a, h1, _⟩ := h.ky e he; exact ⟨a, h1⟩)]
  split <;> rfl
 refine ⟨gm, put_at, by rw [put_nx]; have := h.lm; omega, mset_keys_g (enc := k16) (p := fun x => 0 ≤ x ∧ x < 65536) h.ky ⟨h0, h1⟩, fun y => ?_, fun y z hyz r' n n' e1 e2 => ?_⟩
 ·rw [hv]
  by_cases hy : y = x
  ·subst hy
   rw [if_pos rfl, addE, if_pos rfl, mpp]
   exact hn.keep (by rw [put_nx]; exact lr _) fun r' e' _ => put_ne (by
    simp only [V.buf.injEq, true_and] at e'
    have : r = r' := e'.1
    rw [← this]; exact fun e => rm e.symm)
  ·rw [if_neg hy, addE, if_neg hy]
   exact (h.vl y).keep (by rw [put_nx]; exact hx) fun r' e' hr' => by
    rw [put_ne (fun e => nb (h.vl y) (e ▸ e')), hg r' hr' (fun e => rc y hy _ (e ▸ e'))]
 ·rw [hv] at e1 e2
  by_cases hy : y = x
  ·rw [if_pos hy] at e1
   rw [if_neg (fun e => hyz (hy.trans e.symm))] at e2
   cases e1
   exact rc z (fun e => hyz (hy.trans e.symm)) _ e2
  ·rw [if_neg hy] at e1
   by_cases hz : z = x
   ·rw [if_pos hz] at e2
    cases e2
    exact rc y hy _ e1
   ·rw [if_neg hz] at e2
    exact h.ne y z hyz r' n n' e1 e2
set_option maxHeartbeats 8000000
def c_cNew_B1 : AC := (.block 1 (.r [.u 15 (.fld 2) 6,.u 16 (.load false 1) 15,.u 17 (.fld 0) 3,.u 18 (.load false 1) 17,.b 19 (.bin .leq) 16 18] (.cond (.t 19) (.seq (.par (.step 4 (.u 24 (.fld 0) 6) (.step 10 (.u 30 (.fld 0) 6) (.step 6 (.u 26 (.load false 1) 5) (.step 7 (.u 27 .nilck 26) (.step 8 (.u 28 (.fld 1) 27) (.step 9 (.u 29 (.load false 1) 28) (.step 11 (.u 31 (.load false 1) 30) (.step 12 (.b 32 (.lookup (false, [.i .u16]) (.nilsl) false) 29 31) (.step 13 (.u 33 (.load true 3) 6) (.step 14 (.u 34 (.bslice 3 1 (.agg [.int .u16 0,.int .u16 0,.int .u8 0]) [0]) 33) (.alt (.step 0 (.u 20 (.load false 1) 5) (.step 1 (.u 21 .nilck 20) (.step 2 (.u 22 (.fld 1) 21) (.alt (.step 3 (.u 23 (.load false 1) 22) (.alt (.step 5 (.u 25 (.load false 1) 24) (.step 15 (.b 35 (.append 3 6) 32 34) (.step 16 ⟨none,.mupd (false, [.i .u16]), [.t 23,.t 25,.t 35], none⟩ .done))) (.step 15 (.b 35 (.append 3 6) 32 34) (.step 5 (.u 25 (.load false 1) 24) (.step 16 ⟨none,.mupd (false, [.i .u16]), [.t 23,.t 25,.t 35], none⟩ .done))))) (.alt (.step 5 (.u 25 (.load false 1) 24) (.alt (.step 3 (.u 23 (.load false 1) 22) (.step 15 (.b 35 (.append 3 6) 32 34) (.step 16 ⟨none,.mupd (false, [.i .u16]), [.t 23,.t 25,.t 35], none⟩ .done))) (.step 15 (.b 35 (.append 3 6) 32 34) (.step 3 (.u 23 (.load false 1) 22) (.step 16 ⟨none,.mupd (false, [.i .u16]), [.t 23,.t 25,.t 35], none⟩ .done))))) (.step 15 (.b 35 (.append 3 6) 32 34) (.step 3 (.u 23 (.load false 1) 22) (.step 5 (.u 25 (.load false 1) 24) (.step 16 ⟨none,.mupd (false, [.i .u16]), [.t 23,.t 25,.t 35], none⟩ .done))))))))) (.alt (.step 5 (.u 25 (.load false 1) 24) (.alt (.step 0 (.u 20 (.load false 1) 5) (.step 1 (.u 21 .nilck 20) (.step 2 (.u 22 (.fld 1) 21) (.alt (.step 3 (.u 23 (.load false 1) 22) (.step 15 (.b 35 (.append 3 6) 32 34) (.step 16 ⟨none,.mupd (false, [.i .u16]), [.t 23,.t 25,.t 35], none⟩ .done))) (.step 15 (.b 35 (.append 3 6) 32 34) (.step 3 (.u 23 (.load false 1) 22) (.step 16 ⟨none,.mupd (false, [.i .u16]), [.t 23,.t 25,.t 35], none⟩ .done))))))) (.step 15 (.b 35 (.append 3 6) 32 34) (.step 0 (.u 20 (.load false 1) 5) (.step 1 (.u 21 .nilck 20) (.step 2 (.u 22 (.fld 1) 21) (.step 3 (.u 23 (.load false 1) 22) (.step 16 ⟨none,.mupd (false, [.i .u16]), [.t 23,.t 25,.t 35], none⟩ .done)))))))) (.step 15 (.b 35 (.append 3 6) 32 34) (.step 0 (.u 20 (.load false 1) 5) (.step 1 (.u 21 .nilck 20) (.step 2 (.u 22 (.fld 1) 21) (.step 3 (.u 23 (.load false 1) 22) (.step 5 (.u 25 (.load false 1) 24) (.step 16 ⟨none,.mupd (false, [.i .u16]), [.t 23,.t 25,.t 35], none⟩ .done)))))))))))))))))))) (.par (.step 4 (.u 40 (.fld 1) 6) (.step 10 (.u 46 (.fld 1) 6) (.step 6 (.u 42 (.load false 1) 5) (.step 7 (.u 43 .nilck 42) (.step 8 (.u 44 (.fld 2) 43) (.step 9 (.u 45 (.load false 1) 44) (.step 11 (.u 47 (.load false 1) 46) (.step 12 (.b 48 (.lookup (false, [.i .u16]) (.nilsl) false) 45 47) (.step 13 (.u 49 (.load true 3) 6) (.step 14 (.u 50 (.bslice 3 1 (.agg [.int .u16 0,.int .u16 0,.int .u8 0]) [0]) 49) (.alt (.step 0 (.u 36 (.load false 1) 5) (.step 1 (.u 37 .nilck 36) (.step 2 (.u 38 (.fld 2) 37) (.alt (.step 3 (.u 39 (.load false 1) 38) (.alt (.step 5 (.u 41 (.load false 1) 40) (.step 15 (.b 51 (.append 3 6) 48 50) (.step 16 ⟨none,.mupd (false, [.i .u16]), [.t 39,.t 41,.t 51], none⟩ .done))) (.step 15 (.b 51 (.append 3 6) 48 50) (.step 5 (.u 41 (.load false 1) 40) (.step 16 ⟨none,.mupd (false, [.i .u16]), [.t 39,.t 41,.t 51], none⟩ .done))))) (.alt (.step 5 (.u 41 (.load false 1) 40) (.alt (.step 3 (.u 39 (.load false 1) 38) (.step 15 (.b 51 (.append 3 6) 48 50) (.step 16 ⟨none,.mupd (false, [.i .u16]), [.t 39,.t 41,.t 51], none⟩ .done))) (.step 15 (.b 51 (.append 3 6) 48 50) (.step 3 (.u 39 (.load false 1) 38) (.step 16 ⟨none,.mupd (false, [.i .u16]), [.t 39,.t 41,.t 51], none⟩ .done))))) (.step 15 (.b 51 (.append 3 6) 48 50) (.step 3 (.u 39 (.load false 1) 38) (.step 5 (.u 41 (.load false 1) 40) (.step 16 ⟨none,.mupd (false, [.i .u16]), [.t 39,.t 41,.t 51], none⟩ .done))))))))) (.alt (.step 5 (.u 41 (.load false 1) 40) (.alt (.step 0 (.u 36 (.load false 1) 5) (.step 1 (.u 37 .nilck 36) (.step 2 (.u 38 (.fld 2) 37) (.alt (.step 3 (.u 39 (.load false 1) 38) (.step 15 (.b 51 (.append 3 6) 48 50) (.step 16 ⟨none,.mupd (false, [.i .u16]), [.t 39,.t 41,.t 51], none⟩ .done))) (.step 15 (.b 51 (.append 3 6) 48 50) (.step 3 (.u 39 (.load false 1) 38) (.step 16 ⟨none,.mupd (false, [.i .u16]), [.t 39,.t 41,.t 51], none⟩ .done))))))) (.step 15 (.b 51 (.append 3 6) 48 50) (.step 0 (.u 36 (.load false 1) 5) (.step 1 (.u 37 .nilck 36) (.step 2 (.u 38 (.fld 2) 37) (.step 3 (.u 39 (.load false 1) 38) (.step 16 ⟨none,.mupd (false, [.i .u16]), [.t 39,.t 41,.t 51], none⟩ .done)))))))) (.step 15 (.b 51 (.append 3 6) 48 50) (.step 0 (.u 36 (.load false 1) 5) (.step 1 (.u 37 .nilck 36) (.step 2 (.u 38 (.fld 2) 37) (.step 3 (.u 39 (.load false 1) 38) (.step 5 (.u 41 (.load false 1) 40) (.step 16 ⟨none,.mupd (false, [.i .u16]), [.t 39,.t 41,.t 51], none⟩ .done))))))))))))))))))))) .skip)))
def c_cNew : AC := (.r [.u 3 .box 1,.v 4 (.nilptr)] (.r [.u 7 (.load true 1) 3,.p 8 .mkmap [],.p 9 .mkmap [],.p 10 (.build [.int .u8 0,.nilmap,.nilmap] [(0, 1), (1, 1), (2, 1)]) [.t 7,.t 8,.t 9],.u 11 .box 10,.p 5 (.alloc [.nilptr]) [],⟨none,.store 1, [.t 5,.t 11], none⟩] (.seq (.r [.m 12 0,.u 13 (.call 39) 12] (.block 0 (.rangef (.t 13) [14] (.reg [.p 6 (.alloc [.int .u16 0,.int .u16 0,.int .u8 0]) [],⟨none,.store 3, [.t 6,.t 14], none⟩]) c_cNew_B1))) (.r [.u 52 (.load false 1) 5,.m 4 52] .ret))))
theorem ok_cNewe : compF Tryz.prog Tryz.f41 ⟨false, false, []⟩ = some (c_cNew, [.tmp 4], 53) := by kernel_rfl
structure Mg2 (W : AW) (mo mi : Nat) (f g : Int → List Ed) (lo : Nat) (eo ei : List En) (co ci : Nat) : Prop where
 o : Mg W mo f lo eo co
 i : Mg W mi g lo ei ci
 ne : mo ≠ mi
 ap : ∀ x y r n n', hdM eo x = .buf true r 3 n → hdM ei y ≠ .buf true r 3 n'
theorem Mg2.swap {W : AW} {mo mi lo co ci : Nat} {f g : Int → List Ed} {eo ei : List En} (h : Mg2 W mo mi f g lo eo ei co ci) : Mg2 W mi mo g f lo ei eo ci co := ⟨h.i, h.o, h.ne.symm, fun x y r n n' e1 e2 => h.ap y x r n' n e2 e1⟩
theorem Mg2.ex {W W' : AW} {mo mi lo co ci : Nat} {f g : Int → List Ed} {eo ei : List En} (h : Mg2 W mo mi f g lo eo ei co ci) (hE : Ex W W') : Mg2 W' mo mi f g lo eo ei co ci := ⟨h.o.ex hE, h.i.ex hE, h.ne, h.ap⟩
theorem Mg2.to {W W' : AW} {mo mi lo co ci : Nat} {f g : Int → List Ed} {eo ei : List En} (h : Mg2 W mo mi f g lo eo ei co ci) (hx : W.nx ≤ W'.nx) (h1 : W'.get mo = W.get mo) (h2 : W'.get mi = W.get mi) (hg : ∀ r, lo ≤ r → r < W.nx → (∃ ys, W.get r = some (.buf true 3 ys)) → W'.get r = W.get r) : Mg2 W' mo mi f g lo eo ei co ci := ⟨h.o.to hx h1 hg, h.i.to hx h2 hg, h.ne, h.ap⟩
theorem hdM_set {es : List En} {c : Nat} (hk : ∀ e ∈ es, ∃ x, e.1 = k16 x ∧ 0 ≤ x ∧ x < 65536) (x : Int) (v : V) (y : Int) : hdM (mset (.int .u16 x) v es c).1 y = if y = x then v else hdM es y := by
 unfold hdM
 rw [show V.int .u16 x = k16 x from rfl, mset_val_g k16_eq (fun e he => by obtain ⟨a, h1, _⟩ := hk e he; exact ⟨a, h1⟩)]
 split <;> rfl
theorem Mg2.appO {W W2 : AW} {mo mi lo co ci r : Nat} {f g : Int → List Ed} {eo ei : List En} {x : Int} {e : Ed} (h : Mg2 W mo mi f g lo eo ei co ci) (h0 : 0 ≤ x) (h1 : x < 65536)
  (hn : nowG W2 (.buf true r 3 (((f x).map Ed.V).length + 1)) ((f x).map Ed.V ++ [e.V]) 3 lo) (hx : W.nx ≤ W2.nx) (hr : r = W.nx ∨ hdM eo x = .buf true r 3 ((f x).map Ed.V).length) (hg : ∀ y, y < W.nx → y ≠ r → W2.get y = W.get y) :
  W2.get mo = some (.map eo co) ∧ Mg2 (W2.put mo (.map (mset (.int .u16 x) (.buf true r 3 (((f x).map Ed.V).length + 1)) eo co).1 (mset (.int .u16 x) (.buf true r 3 (((f x).map Ed.V).length + 1)) eo co).2)) mo mi (addE f x e) g lo (mset (.int .u16 x) (.buf true r 3 (((f x).map Ed.V).length + 1)) eo co).1 ei (mset (.int .u16 x) (.buf true r 3 (((f x).map Ed.V).length + 1)) eo co).2 ci := by
 obtain ⟨a1, a2⟩ := h.o.app h0 h1 hn hx hr hg
 have ri : ∀ y n, hdM ei y ≠ .buf true r 3 n := fun y n e2 => by
  rcases hr with rfl | hr
  ·have := ((h.i.vl y).ref e2).1; omega
  ·exact h.ap x y r _ n hr e2
 have im : mi ≠ r := fun e => by
  rcases hr with e2 | hr
  ·have := h.i.lm; omega
  ·have := (h.o.vl x).at hr
   rw [← e, h.i.hm] at this; cases this
 refine ⟨a1, a2, ⟨?_, by rw [put_nx]; have := h.i.lm; omega, h.i.ky, fun y => ?_, h.i.ne⟩, h.ne, fun y z r' n n' e1 e2 => ?_⟩
 ·rw [put_ne h.ne.symm, hg mi h.i.lm im]; exact h.i.hm
 ·refine (h.i.vl y).keep (by rw [put_nx]; exact hx) fun r' e' hr' => ?_
  rw [put_ne (fun e => ?_), hg r' hr' (fun e => ri y _ (e ▸ e'))]
  have := (h.i.vl y).at e'
  rw [e, h.o.hm] at this; cases this
 ·rw [hdM_set h.o.ky] at e1
  by_cases hy : y = x
  ·rw [if_pos hy] at e1
   cases e1
   exact ri z _ e2
  ·rw [if_neg hy] at e1
   exact h.ap y z r' n n' e1 e2
theorem outL_take {es : List Ed} {own : Int} {k : Nat} (h : k < es.length) : (fun x => outL (es.take (k + 1)) own x) = if es[k].kd ≤ own then addE (fun x => outL (es.take k) own x) es[k].fr es[k] else fun x => outL (es.take k) own x := by
 funext x
 unfold outL
 rw [tao, gEg h, List.filter_append]
 by_cases h1 : es[k].kd ≤ own
 ·rw [if_pos h1, addE]
  by_cases h2 : x = es[k].fr
  ·subst h2; simp [h1]
  ·have : ¬ es[k].fr = x := fun e => h2 e.symm
   simp [h1, h2, this]
 ·rw [if_neg h1]; simp [h1]
theorem inL_take {es : List Ed} {own : Int} {k : Nat} (h : k < es.length) : (fun x => inL (es.take (k + 1)) own x) = if es[k].kd ≤ own then addE (fun x => inL (es.take k) own x) es[k].to es[k] else fun x => inL (es.take k) own x := by
 funext x
 unfold inL
 rw [tao, gEg h, List.filter_append]
 by_cases h1 : es[k].kd ≤ own
 ·rw [if_pos h1, addE]
  by_cases h2 : x = es[k].to
  ·subst h2; simp [h1]
  ·have : ¬ es[k].to = x := fun e => h2 e.symm
   simp [h1, h2, this]
 ·rw [if_neg h1]; simp [h1]
structure Se (W : AW) (sp : Nat) (own : Int) (es : List Ed) (lo : Nat) : Prop where
 is : ∃ mo mi eo ei co ci, W.get sp = some (.row [.int .u8 own, .map mo, .map mi]) ∧ Mg2 W mo mi (outL es own) (inL es own) lo eo ei co ci ∧ lo ≤ mo ∧ lo ≤ mi
 lp : sp < W.nx
 lo : lo ≤ sp
theorem Se.ex {W W' : AW} {sp lo : Nat} {own : Int} {es : List Ed} (h : Se W sp own es lo) (hE : Ex W W') : Se W' sp own es lo := by
 obtain ⟨mo, mi, eo, ei, co, ci, h1, h2, h3⟩ := h.is
 exact ⟨⟨mo, mi, eo, ei, co, ci, (hE.get _ h.lp).trans h1, h2.ex hE, h3⟩, by have := h.lp; have := hE.nx; omega, h.lo⟩
theorem bsE0 {W : AW} {K : V → AW → Prop} {a b c : Int} : sem E (.bslice 3 1 (.agg [.int .u16 0, .int .u16 0, .int .u8 0]) [0]) [.agg [.int .u16 a, .int .u16 b, .int .u8 c]] W K = K (.sl 3 true [(Ed.mk a b c).V]) W := by
 simp [sem, rsem, tsem, fillE, V.cells, Ed.V]
theorem bsE3 {W : AW} {K : V → AW → Prop} {e : Ed} : sem E (.bslice 3 1 (.agg [.int .u16 0, .int .u16 0, .int .u8 0]) [0]) [.agg [.int .u16 e.fr, .int .u16 e.to, .int .u8 e.kd]] W K = K (.sl 3 true [e.V]) W := bsE0
theorem edOk {P : List Ek} (h : ∀ x ∈ P, ekOk x) {e : Ed} (he : e ∈ edL P) : 0 ≤ e.fr ∧ e.fr < 65536 ∧ 0 ≤ e.to ∧ e.to < 65536 ∧ 0 ≤ e.kd ∧ e.kd < 256 := by
 have := h _ (edL_mem.1 he)
 exact ⟨this.a.1, this.a.2, this.b.1, this.b.2, this.c⟩
theorem newB_go (_ : E.P = Tryz.prog) {W : AW} {mo mi lo co ci b3 b5 b6 sp : Nat} {f g : Int → List Ed} {eo ei : List En} {own : Int} {e : Ed} (M : Mg2 W mo mi f g lo eo ei co ci) (hC : Cl W) (hlo : lo ≤ W.nx)
  (g3 : W.get b3 = some (.row [.int .u8 own])) (g5 : W.get b5 = some (.row [.ptr sp 0])) (g6 : W.get b6 = some (.row [.int .u16 e.fr, .int .u16 e.to, .int .u8 e.kd])) (gs : W.get sp = some (.row [.int .u8 own, .map mo, .map mi])) (_ : b3 < W.nx) (l5 : b5 < W.nx) (l6 : b6 < W.nx) (ls : sp < W.nx)
  (he : 0 ≤ e.fr ∧ e.fr < 65536 ∧ 0 ≤ e.to ∧ e.to < 65536 ∧ 0 ≤ e.kd ∧ e.kd < 256) (hf : (f e.fr).length < 2 ^ 32) (hg : (g e.to).length < 2 ^ 32) {A : AFr} {Q : Exit → AFr → AW → Prop}
  (a3 : A 3 = some (.ptr b3 0)) (a5 : A 5 = some (.ptr b5 0)) (a6 : A 6 = some (.ptr b6 0))
  (hQ : ∀ A' W' eo' ei' co' ci', A' 3 = some (.ptr b3 0) → A' 5 = some (.ptr b5 0) → Mg2 W' mo mi (if e.kd ≤ own then addE f e.fr e else f) (if e.kd ≤ own then addE g e.to e else g) lo eo' ei' co' ci' → Cl W' → W.nx ≤ W'.nx → (∀ y, y < W.nx → y ≠ mo → y ≠ mi → (y < lo ∨ ∀ ys, W.get y ≠ some (.buf true 3 ys)) → W'.get y = W.get y) → Q .normal A' W') : awp E c_cNew_B1 Q A W := by
 by_cases hk : e.kd ≤ own
 ·have hk' : decide (e.kd ≤ own) = true := decide_eq_true hk
  rw [if_pos hk, if_pos hk] at hQ
  unfold c_cNew_B1
  simp (maxSteps:=9^9) (disch:=omega) only [BS, ]
  rw [e_seq]
  simp (maxSteps:=9^9) (disch:=omega) only [BS, BC, cond_if, ↓reduceIte, nE, BM, BD, a3, a6, g3, g6, hk']
  rw [e_seq]
  refine awp_mono (Q := fun x A' W' => x = .normal ∧ A' 3 = some (.ptr b3 0) ∧ A' 5 = some (.ptr b5 0) ∧ A' 6 = some (.ptr b6 0) ∧ ∃ eo' co', Mg2 W' mo mi (addE f e.fr e) g lo eo' ei co' ci ∧ Cl W' ∧ W.nx ≤ W'.nx ∧ ∀ y, y < W.nx → y ≠ mo → (y < lo ∨ ∀ ys, W.get y ≠ some (.buf true 3 ys)) → W'.get y = W.get y) _ ?_ ?_
  ·rintro _ A' W' ⟨rfl, b3', b5', b6', eo', co', M', hC', hn', hg'⟩
   have row' : ∀ y c, y < W.nx → W.get y = some (.row c) → W'.get y = some (.row c) := fun y c hy hc => by
    rw [hg' y hy (fun e' => by rw [e', M.o.hm] at hc; cases hc) (.inr fun ys e' => by rw [hc] at e'; cases e')]; exact hc
   have g5' := row' b5 _ l5 g5
   have g6' := row' b6 _ l6 g6
   have gs' := row' sp _ ls gs
   have hlo' : lo ≤ W'.nx := by omega
   have hE0 : ∀ (r : Nat) (W2 : AW), (r = W'.nx ∨ hdM ei e.to = .buf true r 3 ((g e.to).map Ed.V).length) → (∀ y, y < W'.nx → y ≠ r → W2.get y = W'.get y) → ∀ y c, y < W'.nx → W'.get y = some (.row c) → W2.get y = some (.row c) := fun r W2 hr hg y c hy hc => by
    rw [hg y hy (fun e' => ?_)]
    ·exact hc
    ·rcases hr with h | h
     ·omega
     ·have := (M'.i.vl e.to).at h
      rw [← e', hc] at this; cases this
   show awp E _ _ A' W'
   simp (maxSteps:=9^9) (disch:=omega) only [BS, BC, ↓reduceIte, nE, BM, BD, nA, nL, b5', b6', g5', g6', gs', M'.i.look he.2.2.1 he.2.2.2.1, bsE3]
   repeat' with_reducible refine And.intro ?_ ?_
   all_goals refine app_now2 (M'.i.vl e.to) hC' hlo' (by decide) rfl (by rw [lmp]; omega) ?_
   all_goals
    intro r W2 hn hC2 hx2 hr hg2
    have hrow := hE0 r W2 hr hg2
    have k5 := hrow b5 _ (by omega) g5'
    have k6 := hrow b6 _ (by omega) g6'
    have ks := hrow sp _ (by omega) gs'
    obtain ⟨u1, u2⟩ := M'.swap.appO (e := e) he.2.2.1 he.2.2.2.1 hn hx2 hr hg2
    have ho := M'.i.ok he.2.2.1 he.2.2.2.1
    simp (maxSteps:=9^9) (disch:=omega) only [BS, BC, ↓reduceIte, nE, BM, BD, b5', k5, k6, ks, m_mset u1 ho]
    have hm := M'.i.lm
    refine hQ _ _ _ _ _ _ (by simp only [e_put]; exact b3') (by simp only [e_put]; exact b5') u2.swap (hC2.put (by omega)) (by rw [put_nx]; omega) fun y hy h1 h3 h2 => ?_
    rw [put_ne h3, hg2 y (by omega) (fun e' => ?_)]
    ·exact hg' y hy h1 h2
    rcases hr with h | h
    ·omega
    ·have q1 := ((M'.i.vl e.to).ref h).2.1
     have q2 := (M'.i.vl e.to).at h
     rcases h2 with h2 | h2
     ·omega
     ·rw [← e', hg' y hy h1 (.inr h2)] at q2; exact h2 _ q2
  ·have hE0 : ∀ (r : Nat) (W2 : AW), (r = W.nx ∨ hdM eo e.fr = .buf true r 3 ((f e.fr).map Ed.V).length) → (∀ y, y < W.nx → y ≠ r → W2.get y = W.get y) → ∀ y c, y < W.nx → W.get y = some (.row c) → W2.get y = some (.row c) := fun r W2 hr hg y c hy hc => by
    rw [hg y hy (fun e' => ?_)]
    ·exact hc
    ·rcases hr with h | h
     ·omega
     ·have := (M.o.vl e.fr).at h
      rw [← e', hc] at this; cases this
   simp (maxSteps:=9^9) (disch:=omega) only [BS, BC, ↓reduceIte, nE, BM, BD, nA, nL, a5, a6, g5, g6, gs, M.o.look he.1 he.2.1, bsE3]
   repeat' with_reducible refine And.intro ?_ ?_
   all_goals refine app_now2 (M.o.vl e.fr) hC hlo (by decide) rfl (by rw [lmp]; omega) ?_
   all_goals
    intro r W2 hn hC2 hx2 hr hg2
    have hrow := hE0 r W2 hr hg2
    have k5 := hrow b5 _ l5 g5
    have k6 := hrow b6 _ l6 g6
    have ks := hrow sp _ ls gs
    obtain ⟨u1, u2⟩ := M.appO (e := e) he.1 he.2.1 hn hx2 hr hg2
    have ho := M.o.ok he.1 he.2.1
    simp (maxSteps:=9^9) (disch:=omega) only [BS, BC, ↓reduceIte, nE, BM, BD, a3, a5, a6, k5, k6, ks, m_mset u1 ho]
    have hm := M.o.lm
    refine ⟨tt, tt, tt, tt, _, _, u2, hC2.put (by omega), by rw [put_nx]; exact hx2, fun y hy h1 h2 => ?_⟩
    rw [put_ne h1, hg2 y hy (fun e' => ?_)]
    rcases hr with h | h
    ·omega
    ·have q1 := ((M.o.vl e.fr).ref h).2.1
     have q2 := (M.o.vl e.fr).at h
     rcases h2 with h2 | h2
     ·omega
     ·rw [← e'] at q2; exact h2 _ q2
 ·have hk' : decide (e.kd ≤ own) = false := decide_eq_false hk
  rw [if_neg hk, if_neg hk] at hQ
  simp (maxSteps:=9^9) (disch:=omega) only [BX, ↓reduceIte, nE, BM, BD, c_cNew_B1, a3, a6, g3, g6, hk']
  exact hQ _ _ _ _ _ _ a3 a5 M hC (lr _) fun _ _ _ _ _ => rfl
theorem Mg.low {W : AW} {m lo lo' c : Nat} {f : Int → List Ed} {es : List En} (h : Mg W m f lo es c) (hl : lo' ≤ lo) : Mg W m f lo' es c := ⟨h.hm, h.lm, h.ky, fun x => (h.vl x).low hl, h.ne⟩
theorem Mg2.low {W : AW} {mo mi lo lo' co ci : Nat} {f g : Int → List Ed} {eo ei : List En} (h : Mg2 W mo mi f g lo eo ei co ci) (hl : lo' ≤ lo) : Mg2 W mo mi f g lo' eo ei co ci := ⟨h.o.low hl, h.i.low hl, h.ne, h.ap⟩
theorem Mg.none {W : AW} {m lo : Nat} (hm : W.get m = some (.map [] 0)) (lm : m < W.nx) : Mg W m (fun _ => []) lo [] 0 := ⟨hm, lm, fun e he => (by cases he), fun x => .inl ⟨rfl, rfl⟩, fun x y _ r n n' e => (by cases e)⟩
theorem cnew_c (hP : PE E) (W : AW) {g m lo : Nat} {h : V} {P : List Ek} {N : List Int} (hG : Gr W g m h P N lo) {own : Int} (_ : 0 ≤ own ∧ own < 256) :
  ACalls E 41 [.ptr g 0, .agg [.int .u8 own]] W fun Y W' => ∃ sp, Y = .ptr sp 0 ∧ Se W' sp own (edL P) W.nx ∧ Ex W W' := by
 refine ACalls.of hP Tryz.func41 ok_cNewe (by simp) fun _ hok => ?_
 refine awp_start hok ?_
 simp (maxSteps:=9^9) (disch:=omega) only [BZ, ↓reduceIte, nE, reduceCtorEq, BM, BD, nA, nL, nT, c_cNew]
 refine (edges_c hP _ g).mono ?_
 rintro _ W0 ⟨q, rfl, hq, hqn, hE⟩
 have hEW : Ex W W0 := (Ex.x0 (W := W)).trans hE
 have hn0 := hE.nx
 have hnx : (X W W.nx [.row [.int .u8 own], .map [] 0, .map [] 0, .row [.int .u8 own, .map (rf W.nx 1), .map (rf W.nx 2)], .row [.ptr (rf W.nx 3) 0]]).nx = W.nx + 5 := rfl
 rw [hnx] at hn0
 have g3 : W0.get (rf W.nx 0) = some (.row [.int .u8 own]) := by rw [hE.get _ (by simp [X_nx, rf]), X_get]; rfl
 have go : W0.get (rf W.nx 1) = some (.map [] 0) := by rw [hE.get _ (by simp [X_nx, rf]), X_get]; rfl
 have gi : W0.get (rf W.nx 2) = some (.map [] 0) := by rw [hE.get _ (by simp [X_nx, rf]), X_get]; rfl
 have gs : W0.get (rf W.nx 3) = some (.row [.int .u8 own, .map (rf W.nx 1), .map (rf W.nx 2)]) := by rw [hE.get _ (by simp [X_nx, rf]), X_get]; rfl
 have g5 : W0.get (rf W.nx 4) = some (.row [.ptr (rf W.nx 3) 0]) := by rw [hE.get _ (by simp [X_nx, rf]), X_get]; rfl
 have r0 : rf W.nx 0 = W.nx := rfl
 have r1 : rf W.nx 1 = W.nx + 1 := rfl
 have r2 : rf W.nx 2 = W.nx + 2 := rfl
 have r3 : rf W.nx 3 = W.nx + 3 := rfl
 have r4 : rf W.nx 4 = W.nx + 4 := rfl
 have hG0 := hG.ex hEW
 have hl := edL_lt hG
 simp (maxSteps:=9^9) (disch:=omega) only [BS, ]
 refine range_edges hP (q := q) (P := P) (N := N) (by simp only [ev_t]; exact if_pos rfl) hq hqn hE.cl hG0 (fun i W1 => Cl W1 ∧ W0.nx < W1.nx ∧ (∀ x, x < W0.nx → x ≠ rf W.nx 1 → x ≠ rf W.nx 2 → W1.get x = W0.get x) ∧ ∃ eo ei co ci, Mg2 W1 (rf W.nx 1) (rf W.nx 2) (fun x => outL ((edL P).take i) own x) (fun x => inL ((edL P).take i) own x) W0.nx eo ei co ci) ?_ ?_ ?_ ?_
 ·intro W1 hE1 hn1
  refine ⟨hE1.cl, hn1, fun x hx _ _ => hE1.get x hx, [], [], 0, 0, ?_, ?_, by omega, fun x y r n n' e => by cases e⟩
  ·exact Mg.none ((hE1.get _ (by omega)).trans go) (by omega)
  ·exact Mg.none ((hE1.get _ (by omega)).trans gi) (by omega)
 ·exact fun i W1 h => ⟨h.1, h.2.1⟩
 ·rintro i hi W1 W1' ⟨j0, j1, j2, eo, ei, co, ci, M⟩ hE1 hlp
  have ho := outL_take (own := own) hi
  have hii := inL_take (own := own) hi
  have he := edOk hG.pk (gmm hi)
  have hlo : ∀ x, (outL ((edL P).take i) own x).length < 2 ^ 32 := fun x => by
   have h1 : (outL ((edL P).take i) own x).length ≤ ((edL P).take i).length := List.length_filter_le _ _
   rw [ltk] at h1
   omega
  have hli : ∀ x, (inL ((edL P).take i) own x).length < 2 ^ 32 := fun x => by
   have h1 : (inL ((edL P).take i) own x).length ≤ ((edL P).take i).length := List.length_filter_le _ _
   rw [ltk] at h1
   omega
  generalize (edL P)[i] = e at ho hii he
  have hn1 := hE1.nx
  refine awp_startC hE1.cl ?_
  simp (maxSteps:=9^9) (disch:=omega) only [BS, BC, ↓reduceIte, nE, BM, BD, nA, nL, nT, Ed.V, hlp]
  refine ⟨tt, ?_⟩
  have hxg : ∀ y, y < W0.nx → y ≠ rf W.nx 1 → y ≠ rf W.nx 2 → (X (W1'.put W0.nx (.loop .busy none)) W1'.nx [.row [.int .u16 e.fr, .int .u16 e.to, .int .u8 e.kd]]).get y = W0.get y := fun y hy h1 h2 => by
   rw [X_old (by omega), put_ne (by omega), hE1.get y (by omega)]; exact j2 y hy h1 h2
  have M1 := (M.ex hE1).to (W' := X (W1'.put W0.nx (.loop .busy none)) W1'.nx [.row [.int .u16 e.fr, .int .u16 e.to, .int .u8 e.kd]]) (by simp only [X_nx, rf]; omega) (by rw [X_old (by omega), put_ne (by omega)]) (by rw [X_old (by omega), put_ne (by omega)]) fun r h1 h2 ⟨ys, hy⟩ => by rw [X_old h2, put_ne (by rintro rfl; rw [hlp] at hy; cases hy)]
  refine newB_go hP (lo := W0.nx) (b3 := rf W.nx 0) (b5 := rf W.nx 4) (b6 := rf W1'.nx 0) (sp := rf W.nx 3) (e := e) M1 Cl.X (by simp only [X_nx, rf]; omega) (by rw [hxg _ (by omega) (by omega) (by omega)]; exact g3) (by rw [hxg _ (by omega) (by omega) (by omega)]; exact g5) (by rw [X_get]; rfl) (by rw [hxg _ (by omega) (by omega) (by omega)]; exact gs) (by simp only [X_nx, rf]; omega) (by simp only [X_nx, rf]; omega) (by simp only [X_nx, rf, lcs, List.length_nil]; omega) (by simp only [X_nx, rf]; omega) he (hlo _) (hli _) tt tt tt ?_
  intro A' W' eo' ei' co' ci' _ _ M2 hC2 hn2 hg2
  simp only [X_nx, rf, lcs, List.length_nil] at hn2
  have hloop : W'.get W0.nx = some (.loop .busy none) := by
   rw [hg2 W0.nx (by simp only [X_nx, rf]; omega) (by omega) (by omega) (.inr fun ys => by rw [X_old (by omega), put_at]; simp), X_old (by omega), put_at]
  refine ⟨rfl, hloop, hC2.put (by omega), by rw [put_nx]; omega, fun y hy h1 h2 => ?_, eo', ei', co', ci', ?_⟩
  ·rw [put_ne (by omega), hg2 y (by simp only [X_nx, rf]; omega) h1 h2 (.inl hy)]; exact hxg y hy h1 h2
  ·rw [ho, hii]
   exact M2.to (by rw [put_nx]; exact lr _) (put_ne (by omega)) (put_ne (by omega)) fun r _ _ ⟨ys, hy⟩ => put_ne (by rintro rfl; rw [hloop] at hy; cases hy)
 ·rintro W1 ⟨j0, j1, j2, eo, ei, co, ci, M⟩ hlp
  rw [tkl] at M
  have k5 : (W1.put W0.nx (.loop .exhausted none)).get (rf W.nx 4) = some (.row [.ptr (rf W.nx 3) 0]) := by rw [put_ne (by omega), j2 _ (by omega) (by omega) (by omega)]; exact g5
  simp (maxSteps:=9^9) (disch:=omega) only [BZ, ↓reduceIte, nE, BM, k5]
  have M1 := M.to (W' := W1.put W0.nx (.loop .exhausted none)) (by rw [put_nx]; omega) (put_ne (by omega)) (put_ne (by omega)) fun r h1 h2 ⟨ys, hy⟩ => put_ne (by rintro rfl; rw [hlp] at hy; cases hy)
  refine ⟨_, rfl, _, _, .weak weak_id, by rw [put_nx]; omega, _, rfl, ⟨⟨_, _, _, _, _, _, ?_, M1.low (by omega), by omega, by omega⟩, by rw [put_nx]; omega, by omega⟩, ⟨j0.put (by omega), by rw [put_nx]; omega, fun x hx => ?_⟩⟩
  ·rw [put_ne (by omega), j2 _ (by omega) (by omega) (by omega)]; exact gs
  ·rw [put_ne (by omega), j2 x (by omega) (by omega) (by omega)]; exact hEW.get x hx
def c_cYield_1 : AC := (.r [.b 23 (.bin .lss) 22 21] (.seq (.w 23 2) (.seq (.block 3 (.r [.b 24 (.idxp 1) 20 22,.u 25 (.load false 1) 24,.m 7 25] (.seq (.par (.step 0 (.u 26 (.fld 1) 2) (.step 2 (.m 28 7) (.step 3 (.m 29 28) (.step 4 (.U 30 (.fld 2) 5 29 false) (.step 1 (.u 27 (.load false 1) 26) (.step 5 (.U 31 (.load false 1) 30 29 false) (.step 6 (.U 32 (.load false 1) 1 29 false) (.step 7 (.U 33 .nilck 32 29 false) (.step 8 (.U 34 (.fld 0) 33 29 false) (.step 9 (.U 35 (.fld 0) 34 29 false) (.step 10 (.U 36 (.load false 1) 35 29 false) (.step 11 (.B 37 (.bin .eql) 31 36 29 false) (.step 12 (.p 38 .pick [.t 29,.T,.t 37]) (.step 13 (.b 39 (.eqv false (false, [.b])) 27 38) (.step 14 (.m 40 39) (.step 15 (.M 41 0 40 true) (.step 16 (.U 42 (.fld 0) 5 40 true) (.step 18 (.M 44 7 40 true) (.step 17 (.U 43 (.load false 1) 42 40 true) (.step 19 (.B 45 (.build [.int .u16 0,.bool false] [(0, 1), (1, 1)]) 43 44 40 true) (.step 20 (.B 46 .callv 41 45 40 true) (.step 21 (.U 47 (.un .not) 46 40 true) (.step 22 (.p 48 .pick [.t 40,.t 47,.F]) .done)))))))))))))))))))))))) (.cond (.t 48) .ret .skip)))) (.reg [.a 49 (.bin .add) 22 1,.m 22 49]))))
def c_cYield_0 : AC := (.r [.b 17 (.bin .lss) 16 15] (.seq (.w 17 0) (.seq (.block 1 (.r [.b 18 (.idxp 3) 14 16,.u 19 (.load true 3) 18,.p 5 (.alloc [.int .u16 0,.int .u16 0,.int .u8 0]) [],⟨none,.store 3, [.t 5,.t 19], none⟩] (.r [.p 20 (.bslice 1 2 (.bool false) [0, 1]) [.F,.T],.u 21 (.len 1 0) 20,.v 22 (.int .i64 0)] (.block 2 (.loop c_cYield_1))))) (.reg [.a 50 (.bin .add) 16 1,.m 16 50]))))
def c_cYield : AC := (.seq (.par (.step 4 (.u 12 (.fld 0) 2) (.step 8 (.v 16 (.int .i64 0)) (.step 0 (.u 8 (.load false 1) 1) (.step 1 (.u 9 .nilck 8) (.step 2 (.u 10 (.fld 2) 9) (.step 3 (.u 11 (.load false 1) 10) (.step 5 (.u 13 (.load false 1) 12) (.step 6 (.b 14 (.lookup (false, [.i .u16]) (.nilsl) false) 11 13) (.step 7 (.u 15 (.len 1 0) 14) .done)))))))))) (.block 0 (.loop c_cYield_0)))
theorem ok_cYielde : compF Tryz.prog Tryz.f110 ⟨false, false, []⟩ = some (c_cYield, [], 51) := by kernel_rfl
def c_cbehA : AC := (.r [.u 2 .box 0,.u 3 .box 1,.v 4 (.nilfn)] (.r [.b 5 (.mkfn (.func 110) 0) 2 3,.m 4 5] .ret))
theorem ok_cbehAe : compF Tryz.prog Tryz.f82 ⟨false, false, []⟩ = some (c_cbehA, [.tmp 4], 6) := by kernel_rfl
theorem beh_c (hP : PE E) (W : AW) (sp : Nat) (x : Sp) : ACalls E 82 [.ptr sp 0, spV x] W fun Y W' => ∃ b2 b3, Y = .fn (.func 110) [] [.ptr b2 0, .ptr b3 0] ∧ W'.get b2 = some (.row [.ptr sp 0]) ∧ W'.get b3 = some (.row [.int .u16 x.1, .bool x.2]) ∧ W.nx ≤ b2 ∧ b2 < W'.nx ∧ W.nx ≤ b3 ∧ b3 < W'.nx ∧ Ex W W' := by
 refine ACalls.of hP Tryz.func82 ok_cbehAe (by simp [spV]) fun _ hok => ?_
 refine awp_start hok ?_
 simp (maxSteps:=9^9) (disch:=omega) only [BZ, ↓reduceIte, nE, BM, BD, c_cbehA, spV]
 exact ⟨_, rfl, _, _, .weak weak_id, by simp only [X_nx, rf]; omega, rf W.nx 0, rf W.nx 1, rfl, by rw [X_get]; rfl, by rw [X_get]; rfl, by simp only [rf]; omega, by simp only [X_nx, rf, lcs, List.length_nil]; omega, by simp only [rf]; omega, by simp only [X_nx, rf, lcs, List.length_nil]; omega, .x0⟩
theorem eqvb {W : AW} {K : V → AW → Prop} {a b : Bool} : sem E (.eqv false (false, [.b])) [.bool a, .bool b] W K = K (.bool (a == b)) W := by
 cases a <;> cases b <;> rfl
structure Kp (C : Nat → Prop) (W W' : AW) : Prop where
 nx : W.nx ≤ W'.nx
 get : ∀ r, r < W.nx → ¬ C r → (∀ cs, W.get r ≠ some (.vec 2 cs)) → W'.get r = W.get r
theorem Kp.refl (C : Nat → Prop) (W : AW) : Kp C W W := ⟨lr _, fun _ _ _ _ => rfl⟩
theorem Kp.ex {C : Nat → Prop} {W W' : AW} (h : Ex W W') : Kp C W W' := ⟨h.nx, fun r hr _ _ => h.get r hr⟩
theorem Kp.trans {C : Nat → Prop} {W W1 W2 : AW} (a : Kp C W W1) (b : Kp C W1 W2) : Kp C W W2 := ⟨Nat.le_trans a.nx b.nx, fun r hr hc hv => by
 have e := a.get r hr hc hv
 rw [b.get r (by have := a.nx; omega) hc (by rw [e]; exact hv), e]⟩
theorem Kp.row {C : Nat → Prop} {W W' : AW} (h : Kp C W W') {r : Nat} {c : List V} (hr : r < W.nx) (hc : ¬ C r) (hg : W.get r = some (.row c)) : W'.get r = some (.row c) := by
 rw [h.get r hr hc (fun cs => by rw [hg]; simp)]; exact hg
def passB (own : Int) (b : Bool) (e : Ed) (o : Bool) : Bool := b == (o || ownE own e)
theorem beh_one (own : Int) (b : Bool) (e : Ed) (j : Nat) (h : j < 2) : (([false, true].take (j + 1)).filter (passB own b e)).map (fun o => (e.fr, o)) = (([false, true].take j).filter (passB own b e)).map (fun o => (e.fr, o)) ++ if passB own b e ([false, true][j]) = true then [(e.fr, [false, true][j])] else [] := by
 rw [tao, gEg (by exact h), List.filter_append, mpp, Option.toList_some, List.filter_cons]
 split <;> rfl
theorem inner_go (_ : E.P = Tryz.prog) {W : AW} {y b2 b3 b5 sp mo mi : Nat} {own : Int} {x : Sp} {e : Ed} {v14 : V} {k n : Nat} (g2 : W.get b2 = some (.row [.ptr sp 0])) (g3 : W.get b3 = some (.row [.int .u16 x.1, .bool x.2])) (gs : W.get sp = some (.row [.int .u8 own, .map mo, .map mi])) (g5 : W.get b5 = some (.row [.int .u16 e.fr, .int .u16 e.to, .int .u8 e.kd]))
  (hmono : ∀ (vs : List V) (W1 : AW) (K K' : V → AW → Prop), (∀ v W', K v W' → K' v W') → E.yield y vs W1 K → E.yield y vs W1 K') {C : Nat → Prop} (l2 : b2 < W.nx) (l3 : b3 < W.nx) (l5 : b5 < W.nx) (ls : sp < W.nx) (c2 : ¬ C b2) (c3 : ¬ C b3) (c5 : ¬ C b5) (cs : ¬ C sp)
  (J : List Sp → AW → Prop) (hC : ∀ d W1, J d W1 → Cl W1) {d : List Sp} (h0 : J d W) 
  (hy : ∀ j (hj : j < 2), passB own x.2 e ([false, true][j]) = true → ∀ W1 l, J (d ++ (([false, true].take j).filter (passB own x.2 e)).map fun o => (e.fr, o)) W1 → E.yield y [spV (e.fr, [false, true][j])] (X W1 W1.nx l) (fun Y W2 => Y = .bool true ∧ J (d ++ (([false, true].take (j + 1)).filter (passB own x.2 e)).map fun o => (e.fr, o)) W2 ∧ Kp C (X W1 W1.nx l) W2))
  {A : AFr} {Q : Exit → AFr → AW → Prop} (a0 : A 0 = some (.yld y)) (a1 : A 1 = some (.ptr b2 0)) (a2 : A 2 = some (.ptr b3 0)) (a5 : A 5 = some (.ptr b5 0)) (a14 : A 14 = some v14) (a15 : A 15 = some (.int .i64 n)) (a16 : A 16 = some (.int .i64 k)) (a20 : A 20 = some (.sl 1 true [.bool false, .bool true])) (a21 : A 21 = some (.int .i64 2)) (a22 : A 22 = some (.int .i64 0))
  (hQ : ∀ A' W', A' 0 = some (.yld y) → A' 1 = some (.ptr b2 0) → A' 2 = some (.ptr b3 0) → A' 14 = some v14 → A' 15 = some (.int .i64 n) → A' 16 = some (.int .i64 k) → J (d ++ behE own x.2 e) W' → Kp C W W' → Q (.exit 2) A' W') : awp E (.loop c_cYield_1) Q A W := by
 rw [e_loop]
 refine alp (fun (j : Nat) A1 W1 => A1 0 = some (.yld y) ∧ A1 1 = some (.ptr b2 0) ∧ A1 2 = some (.ptr b3 0) ∧ A1 5 = some (.ptr b5 0) ∧ A1 14 = some v14 ∧ A1 15 = some (.int .i64 n) ∧ A1 16 = some (.int .i64 k) ∧ A1 20 = some (.sl 1 true [.bool false, .bool true]) ∧ A1 21 = some (.int .i64 2) ∧ A1 22 = some (.int .i64 (j : Nat)) ∧ j ≤ 2 ∧ J (d ++ (([false, true].take j).filter (passB own x.2 e)).map fun o => (e.fr, o)) W1 ∧ Kp C W W1) (fun j => 2 - j) 0
  ⟨a0, a1, a2, a5, a14, a15, a16, a20, a21, a22, Nat.zero_le _, by simpa using h0, Kp.refl _ _⟩ ?_
 rintro j A1 W1 ⟨q0, q1, q2, q5, q14, q15, q16, q20, q21, q22, qj, qJ, qK⟩ _
 by_cases hj : j < 2
 ·have k2 := qK.row l2 c2 g2
  have k3 := qK.row l3 c3 g3
  have k5 := qK.row l5 c5 g5
  have ks := qK.row ls cs gs
  have hs2 : isS 1 (.sl 1 true [.bool false, .bool true]) [.bool false, .bool true] := .mk
  have hat : ([V.bool false, V.bool true] : List V)[j]? = some (.bool ([false, true][j])) := by
   have : j = 0 ∨ j = 1 := by omega
   rcases this with rfl | rfl <;> rfl
  have hone := beh_one own x.2 e j hj
  have hyj := hy j hj
  generalize ([false, true][j]) = o at hat hone hyj
  have hjl : decide (((j : Nat) : Int) < 2) = true := decide_eq_true (by omega)
  rw [hone] at hyj
  by_cases hp : passB own x.2 e o = true
  ·refine awp_startC (hC _ _ qJ) ?_
   have hyj := hyj hp
   rw [if_pos hp] at hyj hone
   cases o with
   | true =>
    have hp' : (x.2 == true) = true := by simpa [passB] using hp
    simp (maxSteps:=9^9) (disch:=omega) only [BS, e_seq, cond_if, ↓reduceIte, nE, BM, BD, c_cYield_1, q2, q20, q21, q22, hjl, hs2.idx hat]
    repeat (rw [guard_if]; simp (maxSteps:=9^9) (disch:=omega) only [BS, BC, ↓reduceIte, nE, reduceCtorEq, BM, BD, nA, nL, q0, q5, k3, k5, eqvb, hp', sem_yield])
    refine hmono _ _ _ _ ?_ (hyj W1 [] qJ)
    rintro Y W2 ⟨rfl, g, gk⟩
    simp (maxSteps:=9^9) (disch:=omega) only [BS, ]
    repeat (rw [guard_if]; simp (maxSteps:=9^9) (disch:=omega) only [BS, BC, cond_if, ↓reduceIte, nE, reduceCtorEq, BD, q0, q1, q2, q5, q14, q15, q16, q20, q21, q22, wadd1])
    exact ⟨j + 1, ⟨tt, tt, tt, tt, tt, tt, tt, tt, tt, tt, hj, by rw [hone]; exact g, (qK.trans (Kp.ex .x0)).trans gk⟩, by omega, by have := gk.nx; have := (Ex.x0 (W := W1) (l := [])).nx; omega⟩
   | false =>
    have hp' : (x.2 == (e.kd == own)) = true := by simpa [passB, ownE] using hp
    simp (maxSteps:=9^9) (disch:=omega) only [BS, e_seq, cond_if, ↓reduceIte, nE, BM, BD, c_cYield_1, q2, q20, q21, q22, hjl, hs2.idx hat]
    repeat (rw [guard_if]; simp (maxSteps:=9^9) (disch:=omega) only [BS, BC, ↓reduceIte, nE, reduceCtorEq, BM, BD, nA, nL, q0, q1, q5, k2, k3, k5, ks, eqvb, hp', sem_yield])
    refine hmono _ _ _ _ ?_ (hyj W1 [] qJ)
    rintro Y W2 ⟨rfl, g, gk⟩
    simp (maxSteps:=9^9) (disch:=omega) only [BS, ]
    repeat (rw [guard_if]; simp (maxSteps:=9^9) (disch:=omega) only [BS, BC, cond_if, ↓reduceIte, nE, reduceCtorEq, BD, q0, q1, q2, q5, q14, q15, q16, q20, q21, q22, wadd1])
    exact ⟨j + 1, ⟨tt, tt, tt, tt, tt, tt, tt, tt, tt, tt, hj, by rw [hone]; exact g, (qK.trans (Kp.ex .x0)).trans gk⟩, by omega, by have := gk.nx; have := (Ex.x0 (W := W1) (l := [])).nx; omega⟩
  ·rw [if_neg hp, apn] at hone
   have hpf : passB own x.2 e o = false := by simpa using hp
   cases o with
   | true =>
    have hp' : (x.2 == true) = false := by simpa [passB] using hpf
    simp (maxSteps:=9^9) (disch:=omega) only [BS, e_seq, cond_if, ↓reduceIte, nE, BM, BD, c_cYield_1, q2, q20, q21, q22, hjl, hs2.idx hat]
    repeat (rw [guard_if]; simp (maxSteps:=9^9) (disch:=omega) only [BS, BC, cond_if, ↓reduceIte, nE, reduceCtorEq, BM, q0, q1, q2, q5, q14, q15, q16, q20, q21, q22, k3, eqvb, hp', wadd1])
    exact ⟨j + 1, ⟨tt, tt, tt, tt, tt, tt, tt, tt, tt, tt, hj, by rw [hone]; exact qJ, qK⟩, by omega, by omega⟩
   | false =>
    have hp' : (x.2 == (e.kd == own)) = false := by simpa [passB, ownE] using hpf
    simp (maxSteps:=9^9) (disch:=omega) only [BS, e_seq, cond_if, ↓reduceIte, nE, BM, BD, c_cYield_1, q2, q20, q21, q22, hjl, hs2.idx hat]
    repeat (rw [guard_if]; simp (maxSteps:=9^9) (disch:=omega) only [BS, BC, cond_if, ↓reduceIte, nE, reduceCtorEq, BM, BD, q0, q1, q2, q5, q14, q15, q16, q20, q21, q22, k2, k3, k5, ks, eqvb, hp', wadd1])
    exact ⟨j + 1, ⟨tt, tt, tt, tt, tt, tt, tt, tt, tt, tt, hj, by rw [hone]; exact qJ, qK⟩, by omega, by omega⟩
 ·obtain rfl : j = 2 := by omega
  simp (maxSteps:=9^9) (disch:=omega) only [BX, ↓reduceIte, c_cYield_1, q21, q22, show decide (((2 : Nat) : Int) < 2) = false from rfl]
  exact hQ _ _ q0 q1 q2 q14 q15 q16 qJ qK
theorem beh_iter (hP : PE E) {W : AW} {y b2 b3 sp mo mi lo : Nat} {own : Int} {es : List Ed} {ei : List En} {ci : Nat} {x : Sp} (hx : 0 ≤ x.1 ∧ x.1 < 65536) (h2 : W.get b2 = some (.row [.ptr sp 0])) (h3 : W.get b3 = some (.row [.int .u16 x.1, .bool x.2])) (hs : W.get sp = some (.row [.int .u8 own, .map mo, .map mi])) (M : Mg W mi (inL es own) lo ei ci) (hl : es.length < 2 ^ 32) {C : Nat → Prop} (l2 : b2 < W.nx) (l3 : b3 < W.nx) (ls : sp < W.nx) (cl : ∀ r, C r → r < W.nx) (c2 : ¬ C b2) (c3 : ¬ C b3) (cs : ¬ C sp) (ce : ∀ r n, hdM ei x.1 = .buf true r 3 n → ¬ C r)
  (J : List Sp → AW → Prop) (h0 : J [] W) (hJ : ∀ d W1, J d W1 → Cl W1 ∧ Kp C W W1) (hmono : ∀ (vs : List V) (W1 : AW) (K K' : V → AW → Prop), (∀ v W', K v W' → K' v W') → E.yield y vs W1 K → E.yield y vs W1 K')
  (hy : ∀ d z t, behR es own x = d ++ z :: t → ∀ W1 l, J d W1 → E.yield y [spV z] (X W1 W1.nx l) (fun Y W2 => Y = .bool true ∧ J (d ++ [z]) W2 ∧ Kp C (X W1 W1.nx l) W2)) (hx0 : ∀ d W1 l, J d W1 → J d (X W1 W1.nx l)) :
  ACalls E 110 [.yld y, .ptr b2 0, .ptr b3 0] W fun Y W' => Y = .tuple [] ∧ J (behR es own x) W' := by
 refine ACalls.of hP Tryz.func110 ok_cYielde (by simp) fun _ hok => ?_
 have hv := M.vl x.1
 have hlen : (inL es own x.1).length ≤ es.length := List.length_filter_le _ _
 simp (maxSteps:=9^9) (disch:=omega) only [BZ, ↓reduceIte, nE, BM, BD, c_cYield, h2, h3, hs, M.look hx.1 hx.2, hv.len, lmp]
 rw [e_loop]
 refine alp (fun (k : Nat) A1 W1 => A1 0 = some (.yld y) ∧ A1 1 = some (.ptr b2 0) ∧ A1 2 = some (.ptr b3 0) ∧ A1 14 = some (hdM ei x.1) ∧ A1 15 = some (.int .i64 (inL es own x.1).length) ∧ A1 16 = some (.int .i64 (k : Nat)) ∧ k ≤ (inL es own x.1).length ∧ J (((inL es own x.1).take k).flatMap (behE own x.2)) W1) (fun k => (inL es own x.1).length - k) 0
  ⟨tt, tt, tt, tt, tt, tt, Nat.zero_le _, h0⟩ ?_
 rintro k A1 W1 ⟨q0, q1, q2, q14, q15, q16, qk, qJ⟩ _
 obtain ⟨jC, jK⟩ := hJ _ _ qJ
 by_cases hk : k < (inL es own x.1).length
 ·have hv1 : nowG W1 (hdM ei x.1) ((inL es own x.1).map Ed.V) 3 lo := hv.keep jK.nx fun r e hr => jK.get r hr (ce r _ e) fun cs hc => by rw [hv.at e] at hc; cases hc
  have hat := ed_at hk
  have hst : ((inL es own x.1).take (k + 1)).flatMap (behE own x.2) = ((inL es own x.1).take k).flatMap (behE own x.2) ++ behE own x.2 (inL es own x.1)[k] := by
   rw [tao, gEg hk, List.flatMap_append]; simp
  have hall : behR es own x = ((inL es own x.1).take k).flatMap (behE own x.2) ++ behE own x.2 (inL es own x.1)[k] ++ ((inL es own x.1).drop (k + 1)).flatMap (behE own x.2) := by
   rw [← hst, ← List.flatMap_append, List.take_append_drop]; rfl
  generalize (inL es own x.1)[k] = e at hat hst hall
  refine awp_startC jC ?_
  have hE0 : ∀ l, Ex W1 (X W1 W1.nx l) := fun l => (Ex.refl jC).X
  have hvX : nowG (X W1 W1.nx []) (hdM ei x.1) ((inL es own x.1).map Ed.V) 3 lo := hv1.keep (hE0 []).nx fun r _ hr => (hE0 []).get r hr
  have hbs : ∀ W K, sem E (.bslice 1 2 (.bool false) [0, 1]) [.bool false, .bool true] W K = K (.sl 1 true [.bool false, .bool true]) W := fun W K => rfl
  simp (maxSteps:=9^9) (disch:=omega) only [BX, ↓reduceIte, nE, BM, BD, nA, nL, nT, c_cYield_0, q14, q15, q16, clt, hk, dT, hvX.idx' hat, ed_cells, hbs]
  have w2 := jK.row l2 c2 h2
  have w3 := jK.row l3 c3 h3
  have ws := jK.row ls cs hs
  have n1 := jK.nx
  have hne : ∀ r, W.nx ≤ r → ¬ C r := fun r hr hc => by have := cl r hc; omega
  have hfull : behE own x.2 e = ([false, true].filter (passB own x.2 e)).map fun o => (e.fr, o) := rfl
  refine inner_go hP (W := X W1 W1.nx [.row [.int .u16 e.fr, .int .u16 e.to, .int .u8 e.kd]]) (b5 := rf W1.nx 0) (e := e) (k := k) (by rw [X_old (by omega)]; exact w2) (by rw [X_old (by omega)]; exact w3) (by rw [X_old (by omega)]; exact ws) (by rw [X_get]; rfl) hmono (by simp only [X_nx, rf]; omega) (by simp only [X_nx, rf]; omega) (by simp only [X_nx, rf, lcs, List.length_nil]; omega) (by simp only [X_nx, rf]; omega) c2 c3 (hne _ (by simp only [rf]; omega)) cs J (fun d W' h => (hJ d W' h).1) (hx0 _ _ _ qJ) (fun j hj hp W' l hJ' => ?_) tt tt tt tt tt tt tt tt tt tt ?_
  ·have hone := beh_one own x.2 e j hj
   rw [if_pos hp] at hone
   have h1 := hy (((inL es own x.1).take k).flatMap (behE own x.2) ++ (([false, true].take j).filter (passB own x.2 e)).map fun o => (e.fr, o)) (e.fr, [false, true][j]) ((([false, true].drop (j + 1)).filter (passB own x.2 e)).map (fun o => (e.fr, o)) ++ ((inL es own x.1).drop (k + 1)).flatMap (behE own x.2)) ?_ W' l hJ'
   ·rw [hone, ← List.append_assoc]; exact h1
   ·have hsp : behE own x.2 e = (([false, true].take (j + 1)).filter (passB own x.2 e)).map (fun o => (e.fr, o)) ++ (([false, true].drop (j + 1)).filter (passB own x.2 e)).map (fun o => (e.fr, o)) := by
     rw [← mpp, ← List.filter_append, List.take_append_drop]; rfl
    rw [hall, hsp, hone]
    simp only [List.append_assoc, List.cons_append, List.nil_append]
  ·intro A' W' z0 z1 z2 z14 z15 z16 zJ zK
   simp (maxSteps:=9^9) (disch:=omega) only [BS, ↓reduceIte, nE, reduceCtorEq, z0, z1, z2, z14, z15, z16, wadd1]
   exact ⟨k + 1, ⟨tt, tt, tt, tt, tt, tt, hk, by rw [hst]; exact zJ⟩, by omega, by have := (hJ _ _ zJ).2.nx; omega⟩
 ·obtain rfl : k = (inL es own x.1).length := by omega
  rw [tkl] at qJ
  simp (maxSteps:=9^9) (disch:=omega) only [BX, ↓reduceIte, c_cYield_0, q15, q16, clt, hk, dF]
  exact ⟨_, rfl, _, _, .weak weak_id, jK.nx, rfl, qJ⟩
theorem range_beh (hP : PE E) {W0 : AW} {A : AFr} {pv b2 b3 sp mo mi lo : Nat} {own : Int} {es : List Ed} {ei : List En} {ci : Nat} {x : Sp} {gx : AX} {asg body : AC} {Q : Exit → AFr → AW → Prop} (hg : gx.ev E A = some (.fn (.func 110) [] [.ptr b2 0, .ptr b3 0])) (hx : 0 ≤ x.1 ∧ x.1 < 65536) (h2 : W0.get b2 = some (.row [.ptr sp 0])) (h3 : W0.get b3 = some (.row [.int .u16 x.1, .bool x.2])) (hs : W0.get sp = some (.row [.int .u8 own, .map mo, .map mi])) (M : Mg W0 mi (inL es own) lo ei ci) (hl : es.length < 2 ^ 32) (hC : Cl W0) {C : Nat → Prop} (l2 : b2 < W0.nx) (l3 : b3 < W0.nx) (ls : sp < W0.nx) (cl : ∀ r, C r → r < W0.nx) (c2 : ¬ C b2) (c3 : ¬ C b3) (cs : ¬ C sp) (ce : ∀ r n, hdM ei x.1 = .buf true r 3 n → ¬ C r)
  (J : List Sp → AW → Prop) (h0 : ∀ W1, Ex W0 W1 → W0.nx < W1.nx → J [] W1) (hJ : ∀ d W1, J d W1 → Cl W1 ∧ W0.nx < W1.nx ∧ Kp C W0 W1) (hx0 : ∀ d W1 l, J d W1 → J d (X W1 W1.nx l))
  (hb : ∀ d z t, behR es own x = d ++ z :: t → ∀ W1, J d W1 → W1.get W0.nx = some (.loop .ready none) →
   awp E asg (thenQ (fun A1 W2 => W2.get W0.nx = some (.loop .ready none) ∧ awp E body (fun e _ W3 => e = .normal ∧ W3.get W0.nx = some (.loop .busy none) ∧ J (d ++ [z]) (W3.put W0.nx (.loop .ready none)) ∧ Kp C W1 (W3.put W0.nx (.loop .ready none))) A1 (W2.put W0.nx (.loop .busy none))) (fun _ _ _ => False)) (A.put pv (spV z)) W1)
  (hQ : ∀ W1, J (behR es own x) W1 → W1.get W0.nx = some (.loop .ready none) → Q .normal A (W1.put W0.nx (.loop .exhausted none))) : awp E (.rangef gx [pv] asg body) Q A W0 := by
 rw [awp_rangef', hg]
 intro E' eP eG ey _
 have hP' : E'.P = Tryz.prog := eP.trans hP
 have hE : Ex W0 (W0.alloc (.loop .ready none)) := ⟨fun r hr => by rw [alloc_nx] at hr; rw [al_gets, if_neg (by omega)]; exact hC r (by omega), by rw [alloc_nx]; omega, fun x hx => alloc_lt hx⟩
 simp only [mcs, List.map_nil, frz_ptr]
 refine (beh_iter (E := E') hP' (y := W0.nx) (b2 := b2) (b3 := b3) hx (by rw [alloc_lt l2]; exact h2) (by rw [alloc_lt l3]; exact h3) (by rw [alloc_lt ls]; exact hs) (M.ex hE) hl (C := C) (by rw [alloc_nx]; omega) (by rw [alloc_nx]; omega) (by rw [alloc_nx]; omega) (fun r hr => by rw [alloc_nx]; have := cl r hr; omega) c2 c3 cs ce (fun d W1 => J d W1 ∧ W1.get W0.nx = some (.loop .ready none)) ⟨h0 _ hE (by rw [alloc_nx]; omega), alloc_at⟩ (fun d W1 g => ⟨(hJ _ _ g.1).1, ?_⟩) (fun vs W1 K K' hk hy => E'.yieldMono _ _ _ _ _ hk hy) ?_ (fun d W1 l g => ⟨hx0 _ _ _ g.1, by rw [X_old (hJ _ _ g.1).2.1]; exact g.2⟩)).mono ?_
 ·obtain ⟨g1, g2, g3⟩ := hJ _ _ g.1
  refine ⟨by rw [alloc_nx]; exact g2, fun r hr hc hv => ?_⟩
  rw [alloc_nx] at hr
  by_cases e : r = W0.nx
  ·rw [e, g.2, alloc_at]
  ·rw [alloc_lt (by omega)] at hv ⊢
   exact g3.get r (by omega) hc hv
 ·rintro d z t hd W1 l ⟨g1, g2⟩
  have hlt := (hJ _ _ g1).2.1
  have g1' := hx0 _ _ l g1
  refine ey _ _ _ ⟨by rw [X_old hlt]; exact g2, rfl, ?_⟩
  refine awp_mono _ ?_ (hb d z t hd _ g1' (by rw [X_old hlt]; exact g2))
  intro e A1 W2 hh
  cases e with
  | normal =>
   refine ⟨hh.1, awp_mono _ ?_ hh.2⟩
   rintro e A3 W3 ⟨rfl, h2, h3, h4⟩
   exact ⟨h2, rfl, ⟨h3, put_at⟩, h4⟩
  | _ => exact hh
 ·rintro Y W1 ⟨_, g1, g2⟩
  simp only [doneQ, g2]
  exact hQ _ g1 g2
structure FI (es : List Ed) (to : Sp) (L : Fl) : Prop where
 nd : (L.map (·.1)).Nodup
 mem : ∀ y ∈ L, y.1 = to ∨ ∃ e ∈ es, y.1.1 = e.fr
 dl : ∀ y ∈ L, y.2 ≤ L.length
theorem put_mem {d : Nat} {L : Fl} {z : Sp} {y : Sp × Nat} (h : y ∈ putF d L z) : y ∈ L ∨ (y = (z, d + 1) ∧ z ∉ L.map (·.1)) := by
 unfold putF at h
 split at h
 ·exact .inl h
 ·rename_i hz
  rcases List.mem_append.1 h with h | h
  ·exact .inl h
  ·exact .inr ⟨List.mem_singleton.1 h, hz⟩
theorem put_pre (d : Nat) (L : Fl) (z : Sp) : L <+: putF d L z := by
 unfold putF
 split
 ·exact List.prefix_refl _
 ·exact List.prefix_append _ _
theorem FI.put {es : List Ed} {to : Sp} {L : Fl} (h : FI es to L) {z : Sp} (hz : ∃ e ∈ es, z.1 = e.fr) {d : Nat} (hd : d ≤ L.length) : FI es to (putF d L z) := by
 refine ⟨?_, fun y hy => ?_, fun y hy => ?_⟩
 ·unfold putF
  split
  ·exact h.nd
  ·rename_i hn
   rw [mpp, List.nodup_append]
   refine ⟨h.nd, by simp, fun a ha b hb e => ?_⟩
   have : b = z := by simpa using hb
   exact hn (this ▸ e ▸ ha)
 ·rcases put_mem hy with hy | ⟨rfl, _⟩
  ·exact h.mem y hy
  ·exact .inr hz
 ·have hl := (put_pre d L z).length_le
  rcases put_mem hy with hy | ⟨rfl, hn⟩
  ·exact Nat.le_trans (h.dl y hy) hl
  ·unfold putF
   rw [if_neg hn, lap]
   simp only [lcs, List.length_nil]; omega
theorem FI.start (es : List Ed) (to : Sp) : FI es to [(to, 0)] := ⟨by simp, fun y hy => .inl (by rw [List.mem_singleton.1 hy]), fun y hy => by rw [List.mem_singleton.1 hy]; exact Nat.zero_le _⟩
theorem FI.len {es : List Ed} {to : Sp} {L : Fl} (h : FI es to L) : L.length ≤ 2 * es.length + 1 := by
 have h1 := length_le_of_sub (l := L.map (·.1)) (m := to :: es.flatMap fun e => [(e.fr, false), (e.fr, true)]) h.nd fun x hx => by
  obtain ⟨y, hy, rfl⟩ := List.mem_map.1 hx
  rcases h.mem y hy with e | ⟨e, he, h2⟩
  ·rw [e]; simp
  ·refine List.mem_cons_of_mem _ (List.mem_flatMap.2 ⟨e, he, ?_⟩)
   obtain ⟨⟨a, b⟩, d⟩ := y
   simp only at h2
   subst h2
   cases b <;> simp
 have h2 : ∀ l : List Ed, (l.flatMap fun e => [((e.fr, false) : Sp), (e.fr, true)]).length = 2 * l.length := fun l => by
  induction l with
  | nil => rfl
  | cons a l ih => simp only [List.flatMap_cons, lap, ih, lcs, List.length_nil]; omega
 rw [lmp, lcs, h2] at h1
 omega
theorem beh_fr {es : List Ed} {own : Int} {x z : Sp} (h : z ∈ behR es own x) : ∃ e ∈ es, z.1 = e.fr := by
 obtain ⟨e, he, _, h2, _⟩ := mem_beh.1 h
 exact ⟨e, he, h2.symm⟩
theorem fold_pre (d : Nat) : ∀ (l : List Sp) (L : Fl), L <+: l.foldl (putF d) L
 | [], _ => List.prefix_refl _
 | z :: l, L => (put_pre d L z).trans (fold_pre d l _)
theorem FI.fold {es : List Ed} {to : Sp} (d : Nat) : ∀ {l : List Sp} {L : Fl}, FI es to L → d ≤ L.length → (∀ z ∈ l, ∃ e ∈ es, z.1 = e.fr) → FI es to (l.foldl (putF d) L)
 | [], _, h, _, _ => h
 | z :: l, L, h, hd, hz => FI.fold (l := l) d (h.put (hz z (by simp)) hd) (Nat.le_trans hd (put_pre d L z).length_le) fun y hy => hz y (by simp [hy])
structure FarM (es : List En) (L : Fl) : Prop where
 ky : ∀ e ∈ es, ∃ z : Sp, e.1 = spV z ∧ 0 ≤ z.1 ∧ z.1 < 65536
 vl : ∀ z, (findK (spV z) es).map (·.2.1) = (lookF L z).map fun d => .int .i64 (d : Nat)
theorem FarM.ok {es : List En} {L : Fl} (h : FarM es L) {z : Sp} (hz : 0 ≤ z.1 ∧ z.1 < 65536) : keysOk (true, [.i .u16, .b]) (spV z) es := by
 refine ⟨spV_has hz, fun e he => ?_⟩
 obtain ⟨y, e1, a, b⟩ := h.ky e he
 rw [e1]; exact spV_has ⟨a, b⟩
theorem FarM.look {es : List En} {L : Fl} (h : FarM es L) {z : Sp} (hz : 0 ≤ z.1 ∧ z.1 < 65536) {W : AW} {m c : Nat} (hm : W.get m = some (.map es c)) {K : V → AW → Prop} : sem E (.lookup (true, [.i .u16, .b]) (.int .i64 0) true) [.map m, spV z] W K = K (.tuple [.int .i64 (((lookF L z).getD 0 : Nat)), .bool (lookF L z).isSome]) W := by
 rw [m_lookup hm (h.ok hz)]
 unfold lookK
 rw [h.vl z]
 cases lookF L z <;> rfl
theorem FarM.look1 {es : List En} {L : Fl} (h : FarM es L) {z : Sp} (hz : 0 ≤ z.1 ∧ z.1 < 65536) {W : AW} {m c : Nat} (hm : W.get m = some (.map es c)) {K : V → AW → Prop} : sem E (.lookup (true, [.i .u16, .b]) (.int .i64 0) false) [.map m, spV z] W K = K (.int .i64 (((lookF L z).getD 0 : Nat))) W := by
 rw [m_lookup hm (h.ok hz)]
 unfold lookK
 rw [h.vl z]
 cases lookF L z <;> rfl
theorem look_app {L : Fl} {z y : Sp} {d : Nat} (hz : z ∉ L.map (·.1)) : lookF (L ++ [(z, d)]) y = if y = z then some d else lookF L y := by
 unfold lookF
 rw [List.find?_append]
 by_cases h : y = z
 ·subst h
  have : L.find? (fun x => x.1 == y) = none := by
   rw [List.find?_eq_none]
   intro x hx e
   exact hz (List.mem_map.2 ⟨x, hx, by simpa using e⟩)
  simp [this]
 ·rw [if_neg h]
  have : ([(z, d)] : Fl).find? (fun x => x.1 == y) = none := by
   have : ¬ z = y := fun e => h e.symm
   simp [this]
  rw [this, Option.or_none]
theorem FarM.put {es : List En} {L : Fl} (h : FarM es L) {z : Sp} (hz : 0 ≤ z.1 ∧ z.1 < 65536) (hn : z ∉ L.map (·.1)) (d c : Nat) : FarM (mset (spV z) (.int .i64 (d : Nat)) es c).1 (L ++ [(z, d)]) := by
 refine ⟨mset_keys_g (enc := spV) (p := fun z => 0 ≤ z.1 ∧ z.1 < 65536) h.ky hz, fun y => ?_⟩
 rw [mset_val_g spV_eq (fun e he => by obtain ⟨a, h1, _⟩ := h.ky e he; exact ⟨a, h1⟩), look_app hn, h.vl y]
 split <;> rfl
theorem FarM.none : FarM [] [] := ⟨fun e he => (by cases he), fun z => rfl⟩
def spC (l : List Sp) : List V := l.flatMap fun x => [.int .u16 x.1, .bool x.2]
theorem spC_len (l : List Sp) : (spC l).length = l.length * 2 := by
 induction l with
 | nil => rfl
 | cons a l ih => simp only [spC, List.flatMap_cons, lap, lcs, List.length_nil] at ih ⊢; omega
theorem spC_app (l m : List Sp) : spC (l ++ m) = spC l ++ spC m := by simp [spC]
theorem sp_flat (l : List Sp) : (l.map spV).flatMap V.cells = spC l := by
 induction l with
 | nil => rfl
 | cons a l ih => simp only [mcs, List.flatMap_cons, spC] at ih ⊢; rw [ih]; rfl
def Wq (W : AW) (h : V) (l : List Sp) (lo : Nat) : Prop := h = .sl 2 true (l.map spV) ∨ ∃ (r k : Nat) (pre : List V), lo ≤ r ∧ r < W.nx ∧ h = .slr r k l.length 2 ∧ W.get r = some (.vec 2 (pre ++ spC l)) ∧ pre.length = k * 2
theorem Wq.len {W W1 : AW} {K : V → AW → Prop} {h : V} {l : List Sp} {lo n : Nat} (hn : Wq W h l lo) : sem E (.len 1 n) [h] W1 K = K (.int .i64 l.length) W1 := by
 rcases hn with rfl | ⟨r, k, pre, _, _, rfl, _⟩
 ·simp [sem]
 ·rfl
theorem Wq.cells1 {W : AW} {h : V} {l : List Sp} {lo : Nat} (hn : Wq W h l lo) : h.cells = [h] ∧ h.one = true := by
 rcases hn with rfl | ⟨r, k, pre, _, _, rfl, _⟩ <;> exact ⟨rfl, rfl⟩
theorem Wq.head {W : AW} {h : V} {x : Sp} {l : List Sp} {lo : Nat} (hn : Wq W h (x :: l) lo) : ∃ p, (∀ {W1 : AW} {K : V → AW → Prop}, sem E (.idxp 2) [h, .int .i64 0] W1 K = K p W1) ∧ ∀ {W1 : AW} {K : V → AW → Prop}, (∀ r k, h = .slr r k (l.length + 1) 2 → W1.get r = W.get r) → sem E (.load true 2) [p] W1 K = K (spV x) W1 := by
 rcases hn with rfl | ⟨r, k, pre, h1, h2, rfl, h3, h4⟩
 ·exact ⟨.cptr (spV x).cells, fun {W1 K} => rfl, fun {W1 K} _ => rfl⟩
 ·refine ⟨.vptr r (k * 2), fun {W1 K} => by simp [sem, rsem, tsem], fun {W1 K} hg => ?_⟩
  have e := (hg r k rfl).trans h3
  have : partV (pre ++ spC (x :: l)) (k * 2) 2 true = some (spV x) := by
   rw [← h4]
   simp [partV, spC, spV]
  simp only [sem, rsem, e, this]
theorem Wq.tail {W : AW} {h : V} {x : Sp} {l : List Sp} {lo : Nat} (hn : Wq W h (x :: l) lo) : ∃ h', (∀ {W1 : AW} {K : V → AW → Prop}, sem E (.slc 2 true false false) [h, .int .i64 1] W1 K = K h' W1) ∧ Wq W h' l lo := by
 rcases hn with rfl | ⟨r, k, pre, h1, h2, rfl, h3, h4⟩
 ·refine ⟨.sl 2 true (l.map spV), fun {W1 K} => ?_, .inl rfl⟩
  simp [sem, rsem, tsem, slcOp, slcV, natV, List.take_of_length_le]
 ·refine ⟨.slr r (k + 1) l.length 2, fun {W1 K} => ?_, .inr ⟨r, k + 1, pre ++ [.int .u16 x.1, .bool x.2], h1, h2, rfl, ?_, ?_⟩⟩
  ·simp [sem, rsem, tsem, slcOp, slcV, natV]
  ·rw [h3]; simp [spC]
  ·simp [h4]; omega
theorem Wq.to {W W' : AW} {h : V} {l : List Sp} {lo : Nat} (hn : Wq W h l lo) (hx : W.nx ≤ W'.nx) (hg : ∀ r cs, lo ≤ r → r < W.nx → W.get r = some (.vec 2 cs) → W'.get r = W.get r) : Wq W' h l lo := by
 rcases hn with h | ⟨r, k, pre, h1, h2, h3, h4, h5⟩
 ·exact .inl h
 ·exact .inr ⟨r, k, pre, h1, by omega, h3, by rw [hg r _ h1 h2 h4]; exact h4, h5⟩
theorem Wq.app {W : AW} {K : V → AW → Prop} {h : V} {l : List Sp} {lo : Nat} {y : Sp} (hn : Wq W h l lo) (hC : Cl W) (hlo : lo ≤ W.nx) (hb : l.length < 2 ^ 40)
  (hk : ∀ h' W', Wq W' h' (l ++ [y]) lo → Cl W' → W.nx < W'.nx → (∀ r, r < W.nx → (r < lo ∨ ∀ cs, W.get r ≠ some (.vec 2 cs)) → W'.get r = W.get r) → K h' W') : sem E (.appendx 2 4 [.int .u16 0, .bool false]) [h, .sl 2 true [spV y]] W K := by
 rcases hn with rfl | ⟨r, k, pre, h1, h2, rfl, h3, h4⟩
 ·have hf : ((l.map spV) ++ [spV y]).flatMap V.cells = spC (l ++ [y]) := by
   rw [← sp_flat, mpp]; rfl
  simp only [sem, elemsV, if_true, hf]
  refine ⟨by decide, tt, by rw [lmp]; simp only [lcs, List.length_nil]; omega, ?_⟩
  refine hk _ _ (.inr ⟨W.nx, 0, [], hlo, by rw [alloc_nx]; omega, by simp, by rw [alloc_at]; rfl, rfl⟩) ?_ (by rw [alloc_nx]; omega) fun r hr _ => alloc_lt hr
  exact fun x hx => by rw [alloc_nx] at hx; rw [al_gets, if_neg (by omega)]; exact hC x (by omega)
 ·have hL := spC_len l
  have htk : ((pre ++ spC l).take ((k + l.length) * 2)).drop (k * 2) = spC l := by
   rw [List.take_of_length_le (by rw [lap]; omega), ← h4, List.drop_left]
  simp only [sem, elemsV, if_true, h3]
  refine ⟨by decide, tt, tt, by rw [lap]; omega, by simp only [lcs, List.length_nil]; omega, rfl, ?_⟩
  rw [htk]
  refine hk _ _ (.inr ⟨W.nx, 0, [], hlo, by rw [move_nx]; omega, by simp, by rw [move_at, spC_app]; rfl, rfl⟩) ?_ (by rw [move_nx]; omega) fun x hx hv => move_ne (fun e => hv.elim (fun h => by omega) fun hv => hv _ (e ▸ h3)) (by omega)
  intro x hx
  rw [move_nx] at hx
  rw [move_ne (by omega) (by omega)]; exact hC x (by omega)
def c_cFar_B3 : AC := (.block 3 (.r [.u 27 (.load false 1) 5,.u 28 (.load true 2) 7,.b 29 (.lookup (true, [.i .u16,.b]) (.int .i64 0) true) 27 28,.m 26 29,.u 30 (.ext 0) 26,.u 31 (.ext 1) 26,.m 8 30,.m 9 31] (.r [.m 32 9,.u 33 (.un .not) 32] (.cond (.t 33) (.seq (.par (.step 0 (.u 34 (.load false 1) 5) (.step 1 (.u 35 (.load true 2) 7) (.step 2 (.u 36 (.load false 1) 5) (.step 3 (.u 37 (.load false 1) 6) (.step 4 (.a 38 (.idxp 2) 37 0) (.step 5 (.u 39 (.load true 2) 38) (.step 6 (.b 40 (.lookup (true, [.i .u16,.b]) (.int .i64 0) false) 36 39) (.step 7 (.a 41 (.bin .add) 40 1) (.step 8 ⟨none,.mupd (true, [.i .u16,.b]), [.t 34,.t 35,.t 41], none⟩ .done)))))))))) (.reg [.u 42 (.load false 1) 6,.u 43 (.load true 2) 7,.u 44 (.bslice 2 1 (.agg [.int .u16 0,.bool false]) [0]) 43,.b 45 (.appendx 2 4 [.int .u16 0,.bool false]) 42 44,⟨none,.store 1, [.t 6,.t 45], none⟩])) .skip))))
def c_cFar_0 : AC := (.seq (.r [.u 15 (.load false 1) 6,.u 16 (.len 1 0) 15,.a 17 (.bin .gtr) 16 0] (.w 17 0)) (.seq (.block 1 (.r [.m 20 0,.u 21 (.load false 1) 6,.a 22 (.idxp 2) 21 0,.u 23 (.load true 2) 22,.b 24 (.call 82) 20 23] (.block 2 (.rangef (.t 24) [25] (.reg [.p 7 (.alloc [.int .u16 0,.bool false]) [],⟨none,.store 2, [.t 7,.t 25], none⟩]) c_cFar_B3)))) (.seq (.r [.u 46 (.load false 1) 6] (.reg [.p 6 (.alloc [.nilsl]) [],⟨none,.store 1, [.t 6,.t 46], none⟩])) (.reg [.u 18 (.load false 1) 6,.a 19 (.slc 2 true false false) 18 1,⟨none,.store 1, [.t 6,.t 19], none⟩]))))
def c_cFar : AC := (.r [.u 3 .box 1,.v 4 (.nilmap)] (.r [.p 10 .mkmap [],.u 11 (.load true 2) 3,⟨none,.mupd (true, [.i .u16,.b]), [.t 10,.t 11,.c (.int .i64 0)], none⟩,.m 12 10,.p 5 (.alloc [.nilmap]) [],⟨none,.store 1, [.t 5,.t 12], none⟩] (.seq (.r [.u 13 (.load true 2) 3,.u 14 (.bslice 2 1 (.agg [.int .u16 0,.bool false]) [0]) 13,.p 6 (.alloc [.nilsl]) [],⟨none,.store 1, [.t 6,.t 14], none⟩] (.block 0 (.loop c_cFar_0))) (.r [.u 47 (.load false 1) 5,.m 4 47] .ret))))
theorem ok_cFare : compF Tryz.prog Tryz.f42 ⟨true, false, []⟩ = some (c_cFar, [.tmp 4], 48) := by kernel_rfl
theorem farB_go (_ : E.P = Tryz.prog) {W : AW} {m c b5 b6 b7 lo d : Nat} {mes : List En} {L : Fl} {h : V} {x0 z : Sp} {tl : List Sp} (F : FarM mes L) (_ : (L.map (·.1)).Nodup) (hd : lookF L x0 = some d) (hdl : d < 2 ^ 32) (hx0 : 0 ≤ x0.1 ∧ x0.1 < 65536) (hz : 0 ≤ z.1 ∧ z.1 < 65536)
  (g5 : W.get b5 = some (.row [.map m])) (g6 : W.get b6 = some (.row [h])) (g7 : W.get b7 = some (.row [.int .u16 z.1, .bool z.2])) (gm : W.get m = some (.map mes c)) (_ : b5 < W.nx) (l6 : b6 < W.nx) (_ : b7 < W.nx) (lm : m < W.nx) (hq : Wq W h (x0 :: tl) lo) (hlo : lo ≤ W.nx) (hC : Cl W) (htl : tl.length < 2 ^ 32)
  {A : AFr} {Q : Exit → AFr → AW → Prop} (a5 : A 5 = some (.ptr b5 0)) (a6 : A 6 = some (.ptr b6 0)) (a7 : A 7 = some (.ptr b7 0))
  (hQ : ∀ A' W' mes' c' h', W'.get m = some (.map mes' c') → FarM mes' (putF d L z) → W'.get b6 = some (.row [h']) → Wq W' h' (x0 :: tl ++ if z ∈ L.map (·.1) then [] else [z]) lo → Cl W' → W.nx ≤ W'.nx → (∀ y, y < W.nx → y ≠ m → y ≠ b6 → (y < lo ∨ ∀ cs, W.get y ≠ some (.vec 2 cs)) → W'.get y = W.get y) → Q .normal A' W') : awp E c_cFar_B3 Q A W := by
 cases hf : lookF L z with
 | some d' =>
  have hm : z ∈ L.map (·.1) := by
   rw [← Decidable.not_not (p := z ∈ L.map (·.1)), ← look_none, hf]; simp
  have hput : putF d L z = L := if_pos hm
  rw [hput, if_pos hm, apn] at hQ
  have hlk : ∀ K, sem E (.lookup (true, [.i .u16, .b]) (.int .i64 0) true) [.map m, .agg [.int .u16 z.1, .bool z.2]] W K = K (.tuple [.int .i64 (d' : Nat), .bool true]) W := fun K => by
   have := F.look (E := E) hz gm (K := K)
   rw [hf] at this; exact this
  simp (maxSteps:=9^9) (disch:=omega) only [BX, ↓reduceIte, nE, BM, BD, nA, nL, c_cFar_B3, a5, a7, g5, g7, hlk]
  repeat (rw [guard_if]; simp (maxSteps:=9^9) (disch:=omega) only [BX, ↓reduceIte, nE, reduceCtorEq, BM, BD, nA, nL, nT, Nat.reduceMul, msV_cells, msV_one, lsV_cells, lsV_one, msV_frz, lsV_frz, ])
  exact hQ _ _ _ _ _ gm F g6 hq hC (lr _) fun _ _ _ _ _ => rfl
 | none =>
  have hm : z ∉ L.map (·.1) := look_none.1 hf
  have hput : putF d L z = L ++ [(z, d + 1)] := if_neg hm
  rw [hput, if_neg hm] at hQ
  have hlk : ∀ K, sem E (.lookup (true, [.i .u16, .b]) (.int .i64 0) true) [.map m, .agg [.int .u16 z.1, .bool z.2]] W K = K (.tuple [.int .i64 0, .bool false]) W := fun K => by
   have := F.look (E := E) hz gm (K := K)
   rw [hf] at this; exact this
  obtain ⟨p, p1, p2⟩ := hq.head (E := E)
  have p3 : ∀ K, sem E (.load true 2) [p] W K = K (.agg [.int .u16 x0.1, .bool x0.2]) W := fun K => p2 fun _ _ _ => rfl
  have hlk1 : ∀ K, sem E (.lookup (true, [.i .u16, .b]) (.int .i64 0) false) [.map m, .agg [.int .u16 x0.1, .bool x0.2]] W K = K (.int .i64 (d : Nat)) W := fun K => by
   have := F.look1 (E := E) hx0 gm (K := K)
   rw [hd] at this; exact this
  have hms : ∀ v K, sem E (.mupd (true, [.i .u16, .b])) [.map m, .agg [.int .u16 z.1, .bool z.2], v] W K = K .undef (W.put m (.map (mset (spV z) v mes c).1 (mset (spV z) v mes c).2)) := fun v K => m_mset gm (F.ok hz)
  have F' := F.put hz hm (d + 1) c
  have h5 : b5 ≠ m := fun e => by rw [e, gm] at g5; cases g5
  have h6 : b6 ≠ m := fun e => by rw [e, gm] at g6; cases g6
  have h7 : b7 ≠ m := fun e => by rw [e, gm] at g7; cases g7
  have hbs : ∀ W K, sem E (.bslice 2 1 (.agg [.int .u16 0, .bool false]) [0]) [.agg [.int .u16 z.1, .bool z.2]] W K = K (.sl 2 true [spV z]) W := fun W K => rfl
  simp (maxSteps:=9^9) (disch:=omega) only [BX, ↓reduceIte, nE, BM, BD, nA, nL, c_cFar_B3, a5, a6, a7, g5, g6, g7, hlk, p1, p3, hlk1, wadd1, hms, put_ne h6, put_ne h7, hbs]
  obtain ⟨mm, hmm⟩ : ∃ mm, mm = mset (spV z) (V.int .i64 ((d + 1 : Nat) : Int)) mes c := ⟨_, rfl⟩
  rw [← hmm] at F' ⊢
  refine Wq.app (hq.to (by rw [put_nx]; exact lr _) fun r cs _ _ hr => put_ne (by rintro rfl; rw [gm] at hr; cases hr)) (hC.put lm) (by rw [put_nx]; exact hlo) (by simp only [lcs]; omega) ?_
  intro h' W3 w1 w2 w3 w4
  rw [put_nx] at w3 w4
  have k6 : W3.get b6 = some (.row [h]) := by rw [w4 b6 l6 (.inr fun cs => by rw [put_ne h6, g6]; simp), put_ne h6]; exact g6
  have km : W3.get m = some (.map mm.1 mm.2) := by rw [w4 m lm (.inr fun cs => by rw [put_at]; simp), put_at]
  obtain ⟨c1, c2⟩ := w1.cells1
  simp (maxSteps:=9^9) (disch:=omega) only [BS, ↓reduceIte, nE, BM, BD, nL, a6, k6, c1, c2]
  refine hQ _ _ _ _ h' ((put_ne h6.symm).trans km) F' put_at (w1.to (by rw [put_nx]; exact lr _) fun r cs _ _ hr => put_ne (by rintro rfl; rw [k6] at hr; cases hr)) (w2.put (by omega)) (by rw [put_nx]; omega) fun y hy y1 y2 y3 => ?_
  rw [put_ne y2, w4 y hy (by rw [put_ne y1]; exact y3), put_ne y1]
theorem Mg.keepL {W W' : AW} {m lo c : Nat} {f : Int → List Ed} {es : List En} (h : Mg W m f lo es c) (hx : W.nx ≤ W'.nx) (hm : W'.get m = W.get m) (hg : ∀ x r n, hdM es x = .buf true r 3 n → W'.get r = W.get r) : Mg W' m f lo es c :=
 ⟨hm.trans h.hm, by have := h.lm; omega, h.ky, fun x => (h.vl x).keep hx fun r e _ => hg x r _ e, h.ne⟩
theorem put_drop {d i : Nat} {L : Fl} {z : Sp} (hi : i ≤ L.length) : ((putF d L z).drop i).map (·.1) = (L.drop i).map (·.1) ++ if z ∈ L.map (·.1) then [] else [z] := by
 unfold putF
 split
 ·rw [apn]
 ·rw [List.drop_append_of_le_length hi, mpp]; rfl
theorem far_go (hP : PE E) {W : AW} {sp mo mi lo lw m b5 b6 : Nat} {own : Int} {es : List Ed} {ei : List En} {ci c0 : Nat} {mes0 : List En} {to : Sp} (hs : W.get sp = some (.row [.int .u8 own, .map mo, .map mi])) (M : Mg W mi (inL es own) lo ei ci) (hr : ∀ e ∈ es, 0 ≤ e.fr ∧ e.fr < 65536) (hl : es.length < 2 ^ 30) (hto : 0 ≤ to.1 ∧ to.1 < 65536) (hC : Cl W)
  (g5 : W.get b5 = some (.row [.map m])) (g6 : W.get b6 = some (.row [.sl 2 true [spV to]])) (gm : W.get m = some (.map mes0 c0)) (hF : FarM mes0 [(to, 0)]) (ls : sp < lw) (lm : mi < lw) (lb : ∀ x r n, hdM ei x = .buf true r 3 n → r < lw) (u5 : lw ≤ b5 ∧ b5 < W.nx) (u6 : lw ≤ b6 ∧ b6 < W.nx) (um : lw ≤ m ∧ m < W.nx)
  {A : AFr} {Q : Exit → AFr → AW → Prop} (a0 : A 0 = some (.ptr sp 0)) (a5 : A 5 = some (.ptr b5 0)) (a6 : A 6 = some (.ptr b6 0))
  (hQ : ∀ A' W' mes c, A' 5 = some (.ptr b5 0) → W'.get b5 = some (.row [.map m]) → W'.get m = some (.map mes c) → FarM mes (farR es own to) → Cl W' → W.nx ≤ W'.nx → (∀ y, y < lw → W'.get y = W.get y) → Q (.exit 0) A' W') : awp E (.loop c_cFar_0) Q A W := by
 rw [e_loop]
 refine alp (fun (σ : Nat × Fl × Nat) A1 W1 => A1 0 = some (.ptr sp 0) ∧ A1 5 = some (.ptr b5 0) ∧ A1 6 = some (.ptr σ.2.2 0) ∧ W1.get b5 = some (.row [.map m]) ∧ (∃ mes c h, W1.get m = some (.map mes c) ∧ FarM mes σ.2.1 ∧ W1.get σ.2.2 = some (.row [h]) ∧ Wq W1 h ((σ.2.1.drop σ.1).map (·.1)) lw) ∧ Cl W1 ∧ W.nx ≤ W1.nx ∧ lw ≤ σ.2.2 ∧ σ.2.2 < W1.nx ∧ (∀ y, y < lw → W1.get y = W.get y) ∧ σ.1 ≤ σ.2.1.length ∧ FI es to σ.2.1 ∧ farGo es own (2 * es.length + 2 - σ.1) σ.1 σ.2.1 = farR es own to) (fun σ => 2 * es.length + 2 - σ.1) (0, [(to, 0)], b6)
  ⟨a0, a5, a6, g5, ⟨mes0, c0, _, gm, hF, g6, .inl rfl⟩, hC, lr _, u6.1, u6.2, fun _ _ => rfl, Nat.zero_le _, FI.start es to, rfl⟩ ?_
 rintro ⟨i, L, b6⟩ A1 W1 ⟨q0, q5, q6, k5, ⟨mes, c, h, km, kF, k6, kq⟩, kC, kn, v6, v6', kg, ki, kI, kR⟩ _
 simp only at q6 k6 kq kF v6 v6' ki kI kR
 have hlen := kI.len
 by_cases hi : i < L.length
 ·have hg0 : ∀ n : Nat, decide (((n + 1 : Nat) : Int) > 0) = true := fun n => decide_eq_true (by omega)
  have hdr : L.drop i = L[i] :: L.drop (i + 1) := List.drop_eq_getElem_cons hi
  have hst : farGo es own (2 * es.length + 2 - (i + 1)) (i + 1) (stepF es own L L[i]) = farR es own to := by
   rw [← kR, show 2 * es.length + 2 - i = (2 * es.length + 2 - (i + 1)) + 1 by omega, farGo, gEg hi]
  have hxm := kI.mem _ (gmm hi)
  have hlk : lookF L L[i].1 = some L[i].2 := (look_some kI.nd).2 (gmm hi)
  have hx0 : 0 ≤ L[i].1.1 ∧ L[i].1.1 < 65536 := by
   rcases hxm with e | ⟨e, he, h2⟩
   ·rw [e]; exact hto
   ·rw [h2]; exact hr e he
  have hLi : L[i] ∈ L := gmm hi
  generalize hxe : L[i] = x at hdr hst hlk hx0 hLi
  rw [hdr, mcs] at kq
  obtain ⟨p, p1, p2⟩ := kq.head (E := E)
  have p3 : ∀ K, sem E (.load true 2) [p] W1 K = K (.agg [.int .u16 x.1.1, .bool x.1.2]) W1 := fun K => p2 fun _ _ _ => rfl
  have hwl : ∀ (W2 : AW) K n, sem E (.len 1 n) [h] W2 K = K (.int .i64 (((L.drop (i + 1)).map (·.1)).length + 1 : Nat)) W2 := fun _ _ _ => kq.len
  simp (maxSteps:=9^9) (disch:=omega) only [BX, ↓reduceIte, nE, reduceCtorEq, BM, c_cFar_0, q0, q6, k6, hwl, hg0, p1, p3]
  refine (beh_c hP _ sp x.1).mono ?_
  rintro _ W2 ⟨b2, b3, rfl, h2, h3, m2, m2', m3, m3', hE2⟩
  simp (maxSteps:=9^9) (disch:=omega) only [BS, ]
  have n2 := hE2.nx
  have b5m : b5 ≠ m := fun e => by rw [e, km] at k5; cases k5
  have b56 : b5 ≠ b6 := fun e => by
   rw [e, k6] at k5
   rcases kq with rfl | ⟨_, _, _, _, _, rfl, _⟩ <;> cases k5
  have old : ∀ y, y < lw → W2.get y = W.get y := fun y hy => (hE2.get y (by omega)).trans (kg y hy)
  have M2 : Mg W2 mi (inL es own) lo ei ci := M.keepL (by omega) (old _ lm) fun z r n e => old r (lb z r n e)
  have tlen : ((L.drop (i + 1)).map (·.1)).length < 2 ^ 32 := by rw [lmp, List.length_drop]; omega
  -- what is known of the spots that were met so far
  have hIf : ∀ d t, behR es own x.1 = d ++ t → FI es to (d.foldl (putF x.2) L) := fun d t hd => kI.fold x.2 (kI.dl x hLi) fun z hz => beh_fr (own := own) (x := x.1) (by rw [hd]; exact List.mem_append_left _ hz)
  refine range_beh hP (b2 := b2) (b3 := b3) (by simp only [ev_t]; exact if_pos rfl) hx0 h2 h3 ((old _ ls).trans hs) M2 (by omega) hE2.cl (C := fun r => r = m ∨ r = b6) m2' m3' (by omega) (fun r hr => by rcases hr with rfl | rfl <;> omega) (by omega) (by omega) (by omega) (fun r n e hr => by have := lb _ r n e; omega)
   (fun d W3 => Cl W3 ∧ W2.nx < W3.nx ∧ Kp (fun r => r = m ∨ r = b6) W2 W3 ∧ (∀ y, y < lw → W3.get y = W2.get y) ∧ ∃ mes c h, W3.get m = some (.map mes c) ∧ FarM mes (d.foldl (putF x.2) L) ∧ W3.get b6 = some (.row [h]) ∧ Wq W3 h (((d.foldl (putF x.2) L).drop i).map (·.1)) lw) ?_ ?_ ?_ ?_ ?_
  ·intro W3 hE3 hn3
   refine ⟨hE3.cl, hn3, Kp.ex hE3, fun y hy => hE3.get y (by omega), mes, c, h, ((hE2.trans hE3).get _ (by omega)).trans km, kF, ((hE2.trans hE3).get _ (by omega)).trans k6, ?_⟩
   show Wq W3 h ((L.drop i).map (·.1)) lw
   rw [hdr, mcs]
   exact kq.to (hE2.trans hE3).nx fun r cs _ hr _ => (hE2.trans hE3).get r hr
  ·exact fun d W3 g => ⟨g.1, g.2.1, g.2.2.1⟩
  ·rintro d W3 l ⟨j1, j2, j3, j8, mes, c, h, j4, j5, j6, j7⟩
   have hE3 : Ex W3 (X W3 W3.nx l) := (Ex.refl j1).X
   exact ⟨hE3.cl, by have := hE3.nx; omega, j3.trans (Kp.ex hE3), fun y hy => (hE3.get y (by omega)).trans (j8 y hy), mes, c, h, (hE3.get _ (by omega)).trans j4, j5, (hE3.get _ (by omega)).trans j6, j7.to hE3.nx fun r cs _ hr _ => hE3.get r hr⟩
  ·rintro d z t hd W3 ⟨j1, j2, j3, j8, mes, c, h, j4, j5, j6, j7⟩ hlp
   have hIL := hIf d (z :: t) hd
   have hIz : FI es to (putF x.2 (d.foldl (putF x.2) L) z) := by
    have := hIf (d ++ [z]) t (by rw [hd]; simp)
    rw [List.foldl_append] at this; exact this
   obtain ⟨z1, z2⟩ : 0 ≤ z.1 ∧ z.1 < 65536 := by
    obtain ⟨e, he, h1⟩ := beh_fr (es := es) (own := own) (x := x.1) (z := z) (by rw [hd]; simp)
    rw [h1]; exact hr e he
   obtain ⟨s, hs'⟩ := fold_pre x.2 d L
   rw [show (d ++ [z]).foldl (putF x.2) L = putF x.2 (d.foldl (putF x.2) L) z by rw [List.foldl_append]; rfl]
   have hLx : x ∈ d.foldl (putF x.2) L := by rw [← hs']; exact List.mem_append_left _ hLi
   have hiL : i ≤ (d.foldl (putF x.2) L).length := by rw [← hs', lap]; omega
   have hdr' : ((d.foldl (putF x.2) L).drop i).map (·.1) = x.1 :: (L.drop (i + 1) ++ s).map (·.1) := by
    rw [← hs', List.drop_append_of_le_length (by omega), hdr]; rfl
   have hlen' := hIL.len
   have htl' : ((L.drop (i + 1) ++ s).map (·.1)).length < 2 ^ 32 := by
    rw [← hs', lap] at hlen'
    rw [lmp, lap, List.length_drop]; omega
   have hpd := put_drop (d := x.2) (z := z) hiL
   have hdx := hIL.dl x hLx
   rw [hdr'] at j7 hpd
   generalize d.foldl (putF x.2) L = L' at j5 hIL hIz hLx hpd hlen' hdx
   generalize (L.drop (i + 1) ++ s).map (·.1) = tl' at j7 hpd htl'
   refine awp_startC j1 ?_
   simp (maxSteps:=9^9) (disch:=omega) only [BS, BC, ↓reduceIte, nE, BM, BD, nA, nL, nT, spV, hlp]
   refine ⟨tt, ?_⟩
   have xg : ∀ y, y < W3.nx → y ≠ W2.nx → (X (W3.put W2.nx (.loop .busy none)) W3.nx [.row [.int .u16 z.1, .bool z.2]]).get y = W3.get y := fun y hy hn => by rw [X_old hy, put_ne hn]
   have k3 := j3.nx
   refine farB_go hP (b5 := b5) (b6 := b6) (b7 := rf W3.nx 0) (lo := lw) (d := x.2) (x0 := x.1) (z := z) (tl := tl') j5 hIL.nd ((look_some hIL.nd).2 hLx) (by omega) hx0 ⟨z1, z2⟩ ?_ ?_ (by rw [X_get]; rfl) ((xg m (by omega) (by omega)).trans j4) (by simp only [X_nx, rf]; omega) (by simp only [X_nx, rf]; omega) (by simp only [X_nx, rf, lcs, List.length_nil]; omega) (by simp only [X_nx, rf]; omega) (j7.to (by simp only [X_nx, rf]; omega) fun r cs _ hr hv => xg r hr (by rintro rfl; rw [hlp] at hv; cases hv)) (by simp only [X_nx, rf]; omega) Cl.X htl' tt tt tt ?_
   ·exact (xg b5 (by omega) (by omega)).trans (j3.row (by omega) (fun hc => hc.elim b5m b56) ((hE2.get b5 (by omega)).trans k5))
   ·exact (xg b6 (by omega) (by omega)).trans j6
   ·intro A' W4 mes' c' h' f1 f2 f3 f4 f5 f6 f7
    simp only [X_nx, rf, lcs, List.length_nil] at f6 f7
    have hloop : W4.get W2.nx = some (.loop .busy none) := by
     rw [f7 W2.nx (by omega) (by omega) (by omega) (.inr fun ys => by rw [X_old (by omega), put_at]; simp), X_old (by omega), put_at]
    have kk : Kp (fun r => r = m ∨ r = b6) W3 (W4.put W2.nx (.loop .ready none)) := ⟨by rw [put_nx]; omega, fun r hr hc hv => by
     by_cases e : r = W2.nx
     ·rw [e, put_at, hlp]
     ·rw [put_ne e, f7 r (by omega) (fun e => hc (.inl e)) (fun e => hc (.inr e)) (.inr fun cs => by rw [xg r hr e]; exact hv cs), xg r hr e]⟩
    refine ⟨rfl, hloop, ⟨f5.put (by omega), by rw [put_nx]; omega, j3.trans kk, fun y hy => by rw [put_ne (by omega), f7 y (by omega) (by omega) (by omega) (.inl hy), xg y (by omega) (by omega)]; exact j8 y hy, mes', c', h', (put_ne (by omega)).trans f1, f2, (put_ne (by omega)).trans f3, ?_⟩, kk⟩
    rw [hpd]
    exact f4.to (by rw [put_nx]; exact lr _) fun r cs _ _ hr => put_ne (by rintro rfl; rw [hloop] at hr; cases hr)
  ·rintro W3 ⟨j1, j2, j3, j8, mes, c, h, j4, j5, j6, j7⟩ hlp
   have hIL := hIf (behR es own x.1) [] (by rw [apn])
   obtain ⟨s, hs'⟩ := fold_pre x.2 (behR es own x.1) L
   have hiL : i + 1 ≤ ((behR es own x.1).foldl (putF x.2) L).length := by rw [← hs', lap]; omega
   have hdr' : ((behR es own x.1).foldl (putF x.2) L).drop i = x :: ((behR es own x.1).foldl (putF x.2) L).drop (i + 1) := by
    rw [List.drop_eq_getElem_cons (by omega)]
    congr 1
    have : ((behR es own x.1).foldl (putF x.2) L)[i]? = some x := by
     rw [← hs', List.getElem?_append_left hi, gEg hi, hxe]
    exact (List.getElem?_eq_some_iff.1 this).2
   rw [hdr', mcs] at j7
   have hst' : farGo es own (2 * es.length + 2 - (i + 1)) (i + 1) ((behR es own x.1).foldl (putF x.2) L) = farR es own to := hst
   generalize (behR es own x.1).foldl (putF x.2) L = L' at j5 j7 hIL hiL hst'
   have k3 := j3.nx
   have hCz : Cl (W3.put W2.nx (.loop .exhausted none)) := j1.put (by omega)
   have x6 : (W3.put W2.nx (.loop .exhausted none)).get b6 = some (.row [h]) := (put_ne (by omega)).trans j6
   have x5 : (W3.put W2.nx (.loop .exhausted none)).get b5 = some (.row [.map m]) := (put_ne (by omega)).trans (j3.row (by omega) (fun hc => hc.elim b5m b56) ((hE2.get b5 (by omega)).trans k5))
   have xm : (W3.put W2.nx (.loop .exhausted none)).get m = some (.map mes c) := (put_ne (by omega)).trans j4
   have xq := j7.to (W' := W3.put W2.nx (.loop .exhausted none)) (by rw [put_nx]; exact lr _) fun r cs _ _ hr => put_ne (by rintro rfl; rw [hlp] at hr; cases hr)
   have xo : ∀ y, y < lw → (W3.put W2.nx (.loop .exhausted none)).get y = W.get y := fun y hy => by
    rw [put_ne (by omega)]
    rw [j8 y hy]; exact old y hy
   have xn : (W3.put W2.nx (.loop .exhausted none)).nx = W3.nx := put_nx
   generalize W3.put W2.nx (.loop .exhausted none) = Wz at hCz x6 x5 xm xq xo xn
   obtain ⟨c1, c2⟩ := xq.cells1
   obtain ⟨h', r1, r2⟩ := xq.tail (E := E)
   obtain ⟨c3, c4⟩ := r2.cells1
   rw [hCz.start]
   simp (maxSteps:=9^9) (disch:=omega) only [BZ, ↓reduceIte, nE, reduceCtorEq, BM, BD, nL, nT, q0, q5, q6, x6, c1, c2, c3, c4, r1]
   have hn : rf Wz.nx 0 = Wz.nx := rfl
   have hn1 : rf Wz.nx 1 = Wz.nx + 1 := rfl
   refine ⟨(i + 1, L', rf Wz.nx 0), ⟨tt, tt, rfl, x5, ⟨mes, c, h', xm, j5, by rw [X_get]; rfl, r2.to (by simp only [X_nx, rf]; omega) fun r cs _ hr _ => X_old hr⟩, Cl.X, by omega, by show lw ≤ rf Wz.nx 0; omega, by show rf Wz.nx 0 < rf Wz.nx 1; omega, fun y hy => (X_old (by omega)).trans (xo y hy), hiL, hIL, hst'⟩, by show 2 * es.length + 2 - (i + 1) < 2 * es.length + 2 - i; omega, by omega⟩
 ·obtain rfl : i = L.length := by omega
  have hfin : farGo es own (2 * es.length + 2 - L.length) L.length L = L := by
   rw [show 2 * es.length + 2 - L.length = (2 * es.length + 2 - L.length - 1) + 1 by omega, farGo, List.getElem?_eq_none (lr _)]
  rw [hfin] at kR
  subst kR
  rw [List.drop_length, List.map_nil] at kq
  simp (maxSteps:=9^9) (disch:=omega) only [BX, ↓reduceIte, nE, reduceCtorEq, BM, BD, c_cFar_0, q0, q6, k6, kq.len (E := E)]
  exact hQ _ _ mes c q5 k5 km kF kC kn kg
theorem far_c (hP : PE E) (W : AW) {sp lo : Nat} {own : Int} {es : List Ed} (hS : Se W sp own es lo) (hr : ∀ e ∈ es, 0 ≤ e.fr ∧ e.fr < 65536) (hl : es.length < 2 ^ 30) {to : Sp} (hto : 0 ≤ to.1 ∧ to.1 < 65536) :
  ACalls E 42 [.ptr sp 0, spV to] W fun Y W' => ∃ m mes c, Y = .map m ∧ W'.get m = some (.map mes c) ∧ FarM mes (farR es own to) ∧ W.nx ≤ m ∧ m < W'.nx ∧ Ex W W' := by
 refine ACalls.of hP Tryz.func42 ok_cFare (by simp [spV]) fun _ hok => ?_
 refine awp_start hok ?_
 have hbs : ∀ W K, sem E (.bslice 2 1 (.agg [.int .u16 0, .bool false]) [0]) [.agg [.int .u16 to.1, .bool to.2]] W K = K (.sl 2 true [spV to]) W := fun W K => rfl
 have hmu : ∀ K, sem E (.mupd (true, [.i .u16, .b])) [.map (rf W.nx 1), .agg [.int .u16 to.1, .bool to.2], .int .i64 0] (X W W.nx [.row [.int .u16 to.1, .bool to.2], .map [] 0]) K = K .undef (X W W.nx [.row [.int .u16 to.1, .bool to.2], .map [(spV to, .int .i64 ((0 : Nat) : Int), 0)] 1]) := fun K => by
  have h1 : (X W W.nx [.row [.int .u16 to.1, .bool to.2], .map [] 0]).get (rf W.nx 1) = some (.map [] 0) := by rw [X_get]; rfl
  have h2 := m_mset (E := E) (K := K) (x := .int .i64 0) h1 (FarM.none.ok hto)
  rw [show mset (spV to) (V.int .i64 0) [] 0 = ([(spV to, .int .i64 ((0 : Nat) : Int), 0)], 1) from rfl, X_put1] at h2
  exact h2
 obtain ⟨mo, mi, eo, ei, co, ci, s1, s2, s3, s4⟩ := hS.is
 have hC := ok_Cl hok
 have lp := hS.lp
 have lmi := s2.i.lm
 simp (maxSteps:=9^9) (disch:=omega) only [BZ, ↓reduceIte, nE, BM, BD, nA, nL, nT, c_cFar, spV, hbs, hmu]
 have hst := X_start hok
 have hE : ∀ l, Ex W (X W W.nx l) := fun l => (Ex.refl hC).X
 have hF : FarM [(spV to, .int .i64 ((0 : Nat) : Int), 0)] [(to, 0)] := FarM.none.put hto (by simp) 0 0
 refine far_go hP (W := X W W.nx [.row [.int .u16 to.1, .bool to.2], .map [(spV to, .int .i64 ((0 : Nat) : Int), 0)] 1, .row [.map (rf W.nx 1)], .row [.sl 2 true [spV to]]]) (lw := W.nx) (m := rf W.nx 1) (b5 := rf W.nx 2) (b6 := rf W.nx 3) ((hE _).get _ lp |>.trans s1) (s2.i.ex (hE _)) hr hl hto Cl.X (by rw [X_get]; rfl) (by rw [X_get]; rfl) (by rw [X_get]; rfl) hF lp lmi (fun x r n e => ((s2.i.vl x).ref e).1) (by simp only [X_nx, rf, lcs, List.length_nil]; omega) (by simp only [X_nx, rf, lcs, List.length_nil]; omega) (by simp only [X_nx, rf, lcs, List.length_nil]; omega) tt tt tt ?_
 intro A' W' mes c f5 k5 km kF kC kn kg
 simp (maxSteps:=9^9) (disch:=omega) only [BZ, ↓reduceIte, BM, f5, k5]
 simp only [X_nx, rf, lcs, List.length_nil] at kn
 refine ⟨_, rfl, _, _, .weak weak_id, by omega, rf W.nx 1, mes, c, rfl, km, kF, by simp only [rf]; omega, by simp only [rf]; omega, ⟨kC, by omega, fun x hx => by rw [kg x hx, X_old hx]⟩⟩
def c_hasSp : AC := (.r [.u 3 .box 1,.v 4 (.bool false)] (.r [.m 5 0,.u 6 (.load true 2) 3,.b 7 (.call 133) 5 6,.a 8 (.bin .geq) 7 0,.m 4 8] .ret))
theorem ok_hasSpe : compF Tryz.prog Tryz.f111 ⟨false, false, []⟩ = some (c_hasSp, [.tmp 4], 9) := by kernel_rfl
def c_idxSp_0 : AC := (.r [.b 9 (.bin .lss) 8 7] (.seq (.w 9 0) (.seq (.block 1 (.r [.m 10 8,.m 5 10] (.seq (.par (.step 1 (.m 12 0) (.step 2 (.m 13 5) (.step 0 (.u 11 (.load true 2) 3) (.step 3 (.b 14 (.idxp 2) 12 13) (.step 4 (.u 15 (.load true 2) 14) (.step 5 (.b 16 (.eqv false (true, [.i .u16,.b])) 11 15) .done))))))) (.cond (.t 16) (.r [.m 17 5,.m 4 17] .ret) .skip)))) (.reg [.a 18 (.bin .add) 8 1,.m 8 18]))))
def c_idxSp : AC := (.r [.u 3 .box 1,.v 4 (.int .i64 0)] (.seq (.r [.m 6 0,.u 7 (.len 1 0) 6,.v 8 (.int .i64 0)] (.block 0 (.loop c_idxSp_0))) (.r [.v 4 (.int .i64 (-1))] .ret)))
theorem ok_idxSpe : compF Tryz.prog Tryz.f133 ⟨false, false, []⟩ = some (c_idxSp, [.tmp 4], 19) := by kernel_rfl
theorem sp_at {l : List Sp} {k : Nat} (h : k < l.length) : (l.map spV)[k]? = some (spV l[k]) := by simp [h]
theorem sp_cells (x : Sp) : (spV x).cells = [.int .u16 x.1, .bool x.2] := rfl
theorem eqvSp {W : AW} {K : V → AW → Prop} {a b : Sp} (ha : 0 ≤ a.1 ∧ a.1 < 65536) (hb : 0 ≤ b.1 ∧ b.1 < 65536) : sem E (.eqv false (true, [.i .u16, .b])) [.agg [.int .u16 a.1, .bool a.2], .agg [.int .u16 b.1, .bool b.2]] W K = K (.bool (decide (a = b))) W := by
 have h1 := spV_has ha
 have h2 := spV_has hb
 have h3 := spV_eq a b
 unfold spV at h1 h2 h3
 simp only [sem, rsem, tsem, h1, h2, h3, Bool.and_self, if_true, Bool.false_eq_true, if_false]
theorem idxSp_c (hP : PE E) (W : AW) {v : V} {l : List Sp} (h : isS 2 v (l.map spV)) (hl : l.length < 2 ^ 40) (hb : ∀ x ∈ l, 0 ≤ x.1 ∧ x.1 < 65536) (z : Sp) (hz : 0 ≤ z.1 ∧ z.1 < 65536) :
  ACalls E 133 [v, .agg [.int .u16 z.1, .bool z.2]] W fun Y W' => ∃ i : Int, Y = .int .i64 i ∧ (0 ≤ i ↔ z ∈ l) ∧ W' = W := by
 refine ACalls.of hP Tryz.func133 ok_idxSpe (by simp) fun _ hok => ?_
 refine awp_start hok ?_
 simp (maxSteps:=9^9) (disch:=omega) only [BZ, ↓reduceIte, reduceCtorEq, BM, BD, c_idxSp, h.len, lmp]
 rw [e_loop]
 obtain ⟨W0, hW0⟩ : ∃ W0, W0 = X W W.nx [.row [.int .u16 z.1, .bool z.2]] := ⟨_, rfl⟩
 have g3 : W0.get (rf W.nx 0) = some (.row [.int .u16 z.1, .bool z.2]) := by rw [hW0, X_get]; rfl
 have hb0 : ∀ x, x < W.nx → W0.get x = W.get x := fun x hx => by rw [hW0, X_old hx]
 have hn0 : W.nx ≤ W0.nx := by rw [hW0]; simp only [X_nx, rf]; omega
 rw [← hW0]
 clear hW0
 have fin : ∀ i : Int, (0 ≤ i ↔ z ∈ l) → ∃ X0, some (V.int .i64 i) = some X0 ∧ ∃ Y W', RetV X0 W0 Y W' ∧ W.nx ≤ W'.nx ∧ ∃ i : Int, Y = .int .i64 i ∧ (0 ≤ i ↔ z ∈ l) ∧ W' = W := fun i hi => ⟨_, rfl, _, W, .weak (weak_back hok rfl hb0), lr _, i, rfl, hi, rfl⟩
 refine alp (fun (k : Nat) A1 W1 => A1 0 = some v ∧ A1 3 = some (.ptr (rf W.nx 0) 0) ∧ A1 7 = some (.int .i64 l.length) ∧ A1 8 = some (.int .i64 k) ∧ k ≤ l.length ∧ W1 = W0 ∧ z ∉ l.take k) (fun k => l.length - k) 0
  ⟨tt, tt, tt, tt, Nat.zero_le _, rfl, by simp⟩ ?_
 rintro k A1 W1 ⟨g0, g33, g7, g8, gk, rfl, ge⟩ _
 by_cases hk1 : k < l.length
 ·have hat := sp_at hk1
  have hbk := hb _ (gmm hk1)
  have htk : l.take (k + 1) = l.take k ++ [l[k]] := by rw [tao, gEg hk1]; rfl
  have hmem : l[k] ∈ l := gmm hk1
  generalize l[k] = x at hat hbk htk hmem
  by_cases hx : z = x
  ·subst hx
   simp (maxSteps:=9^9) (disch:=omega) only [BX, ↓reduceIte, nE, reduceCtorEq, BM, BD, nA, nL, c_idxSp_0, g0, g33, g7, g8, g3, clt, hk1, dT, h.idx hat, sp_cells, eqvSp hz hz]
   exact fin _ ⟨fun _ => hmem, fun _ => Int.natCast_nonneg _⟩
  ·simp (maxSteps:=9^9) (disch:=omega) only [BX, ↓reduceIte, nE, reduceCtorEq, BM, BD, nA, nL, c_idxSp_0, g0, g33, g7, g8, g3, clt, hk1, dT, h.idx hat, sp_cells, eqvSp hz hbk, decide_eq_false hx, wadd1]
   exact ⟨k + 1, ⟨tt, tt, tt, tt, hk1, tt, by rw [htk]; simp only [map', msg, not_or]; exact ⟨ge, hx⟩⟩, by omega, by omega⟩
 ·obtain rfl : k = l.length := by omega
  rw [tkl] at ge
  simp (maxSteps:=9^9) (disch:=omega) only [BX, ↓reduceIte, c_idxSp_0, g7, g8, clt, hk1, dF]
  exact fin _ ⟨fun h => by omega, fun h => absurd h ge⟩
theorem hasSp_c (hP : PE E) (W : AW) {v : V} {l : List Sp} (h : isS 2 v (l.map spV)) (hl : l.length < 2 ^ 40) (hb : ∀ x ∈ l, 0 ≤ x.1 ∧ x.1 < 65536) (z : Sp) (hz : 0 ≤ z.1 ∧ z.1 < 65536) :
  ACalls E 111 [v, .agg [.int .u16 z.1, .bool z.2]] W fun Y W' => Y = .bool (decide (z ∈ l)) ∧ W' = W := by
 refine ACalls.of hP Tryz.func111 ok_hasSpe (by simp) fun _ hok => ?_
 refine awp_start hok ?_
 simp (maxSteps:=9^9) (disch:=omega) only [BZ, ↓reduceIte, nE, reduceCtorEq, BM, BD, nA, nL, c_hasSp, h.frz]
 refine (idxSp_c hP _ h hl hb z hz).mono ?_
 rintro _ _ ⟨i, rfl, hi, rfl⟩
 have hd : decide (i ≥ 0) = decide (z ∈ l) := by rw [decide_eq_decide]; exact hi
 simp (maxSteps:=9^9) (disch:=omega) only [BS, BC, ↓reduceIte, hd]
 exact ⟨_, rfl, _, W, .weak (weak_back hok rfl fun x hx => X_old hx), lr _, rfl, rfl⟩
structure BI (best : List Sp) : Prop where
 eq : ∀ a ∈ best, ∀ b ∈ best, a.1 = b.1
 nd : best.Nodup
 rg : ∀ a ∈ best, 0 ≤ a.1 ∧ a.1 < 65536
theorem BI.nil : BI [] := ⟨fun a h => (by cases h), List.nodup_nil, fun a h => (by cases h)⟩
theorem BI.len {best : List Sp} (h : BI best) : best.length ≤ 2 := by
 cases best with
 | nil => simp
 | cons a t =>
  refine length_le_of_sub (m := [(a.1, false), (a.1, true)]) h.nd fun x hx => ?_
  obtain ⟨x1, x2⟩ := x
  have := h.eq _ hx a (by simp)
  simp only at this
  subst this
  cases x2 <;> simp
theorem BI.one {y : Sp} (h : 0 ≤ y.1 ∧ y.1 < 65536) : BI [y] := ⟨fun a ha b hb => by rw [List.mem_singleton.1 ha, List.mem_singleton.1 hb], by simp, fun a ha => by rw [List.mem_singleton.1 ha]; exact h⟩
theorem BI.step {best : List Sp} (h : BI best) {own : Int} {far : Fl} {left : Nat} {b : Bool} {e : Ed} (he : 0 ≤ e.to ∧ e.to < 65536) : BI (ahStep own far left b best e) := by
 unfold ahStep
 split
 ·exact h
 ·split
  ·exact h
  ·split
   ·exact BI.one he
   ·rename_i y t
    split
    ·exact h
    ·split
     ·exact h
     ·rename_i hn
      split
      ·rename_i heq
       refine ⟨fun a ha c hc => ?_, ?_, fun a ha => ?_⟩
       ·have k : ∀ a ∈ y :: t ++ [(e.to, b || ownE own e)], a.1 = y.1 := fun a ha => by
         rcases List.mem_append.1 ha with ha | ha
         ·exact h.eq a ha y (by simp)
         ·rw [List.mem_singleton.1 ha]; exact heq
        rw [k a ha, k c hc]
       ·rw [List.nodup_append]
        exact ⟨h.nd, by simp, fun a ha c hc e => hn (by rw [← List.mem_singleton.1 hc, ← e]; exact ha)⟩
       ·rcases List.mem_append.1 ha with ha | ha
        ·exact h.rg a ha
        ·rw [List.mem_singleton.1 ha]; exact he
      ·exact BI.one he
def Bq (W : AW) (h : V) (l : List Sp) (lo : Nat) : Prop := (h = .nilsl ∧ l = []) ∨ h = .sl 2 true (l.map spV) ∨ ∃ r, lo ≤ r ∧ r < W.nx ∧ h = .buf false r 2 l.length ∧ W.get r = some (.buf false 2 (l.map spV))
theorem Bq.len {W W1 : AW} {K : V → AW → Prop} {h : V} {l : List Sp} {lo n : Nat} (hn : Bq W h l lo) : sem E (.len 1 n) [h] W1 K = K (.int .i64 l.length) W1 := by
 rcases hn with ⟨rfl, rfl⟩ | rfl | ⟨r, _, _, rfl, _⟩
 ·rfl
 ·simp [sem]
 ·rfl
theorem Bq.frz {W : AW} {h : V} {l : List Sp} {lo : Nat} (hn : Bq W h l lo) : isS 2 (W.frz h) (l.map spV) := by
 rcases hn with ⟨rfl, rfl⟩ | rfl | ⟨r, _, _, rfl, hg⟩
 ·exact .nil
 ·exact .mk
 ·have : W.frz (.buf false r 2 l.length) = .sl 2 false (l.map spV) := by simp [AW.frz, hg]
  rw [this]; exact .mk
theorem Bq.head {W : AW} {h : V} {x : Sp} {l : List Sp} {lo : Nat} (hn : Bq W h (x :: l) lo) : ∀ {K : V → AW → Prop}, sem E (.idxp 2) [h, .int .i64 0] W K = K (.cptr (spV x).cells) W := by
 intro K
 rcases hn with ⟨rfl, h⟩ | rfl | ⟨r, _, _, rfl, hg⟩
 ·cases h
 ·rfl
 ·simp [sem, rsem, hg]
theorem Bq.to {W W' : AW} {h : V} {l : List Sp} {lo : Nat} (hn : Bq W h l lo) (hx : W.nx ≤ W'.nx) (hg : ∀ r bs, lo ≤ r → r < W.nx → W.get r = some (.buf false 2 bs) → W'.get r = W.get r) : Bq W' h l lo := by
 rcases hn with h | h | ⟨r, h1, h2, h3, h4⟩
 ·exact .inl h
 ·exact .inr (.inl h)
 ·exact .inr (.inr ⟨r, h1, by omega, h3, by rw [hg r _ h1 h2 h4]; exact h4⟩)
theorem Bq.app {W : AW} {K : V → AW → Prop} {h : V} {x : Sp} {l : List Sp} {lo : Nat} {y : Sp} (hn : Bq W h (x :: l) lo) (hC : Cl W) (hlo : lo ≤ W.nx) (hb : l.length < 2 ^ 40)
  (hk : ∀ h' W', Bq W' h' (x :: l ++ [y]) lo → Cl W' → W.nx ≤ W'.nx → (∀ r, r < W.nx → (r < lo ∨ ∀ bs, W.get r ≠ some (.buf false 2 bs)) → W'.get r = W.get r) → K h' W') : sem E (.append 2 4) [h, .sl 2 true [spV y]] W K := by
 rcases hn with ⟨_, h⟩ | rfl | ⟨r, h1, h2, rfl, h3⟩
 ·cases h
 ·simp only [sem, elemsV, if_true]
  refine ⟨by decide, tt, by simp only [lmp, lcs, List.length_nil]; omega, ?_⟩
  refine hk _ _ (.inr (.inr ⟨W.nx, hlo, by rw [alloc_nx]; omega, by simp, by rw [alloc_at]; simp⟩)) ?_ (by rw [alloc_nx]; omega) fun r hr _ => alloc_lt hr
  exact fun x hx => by rw [alloc_nx] at hx; rw [al_gets, if_neg (by omega)]; exact hC x (by omega)
 ·simp only [sem, elemsV, if_true, h3]
  refine ⟨by decide, tt, tt, tt, by simp, by simp only [lcs, List.length_nil]; omega, rfl, ?_⟩
  refine hk _ _ (.inr (.inr ⟨r, h1, by rw [put_nx]; exact h2, by simp, by rw [put_at]; simp⟩)) (hC.put h2) (by rw [put_nx]; exact lr _) fun y hy hv => put_ne (fun e => hv.elim (fun h => by omega) fun hv => hv _ (e ▸ h3))
end Go.AL.S
