/- What the program's functions do, part 6. Conditions: none. -/
import Derived.Test.YtfncnpcoekinjaaGreatDoorBe
open Nat renaming reduceEqDiff → nE, reduceLeDiff → nL, reduceAdd → nA, reduceLT → nT, le_refl → lr
open List renaming getElem?_eq_getElem → gEg, length_map → lmp, getElem_mem → gmm, length_append → lap, length_cons → lcs, mem_singleton → msg, append_nil → apn, mem_append → map', take_length → tkl, map_cons → mcs, map_append → mpp, mem_map → mmp, any_eq_true → aet, length_replicate → lrp, take_add_one → tao, length_take → ltk, mem_filter → mfl
set_option maxRecDepth 100000
namespace Go.AL.S
open Go Go.AL Go.AL.SE Go.Proofs
theorem Wk.up {es : List Ed} {own : Int} {n : Nat} {x y : Sp} (h : Wk es own n x y) (hx : x.2 = true) : y.2 = true := by
 induction h with
 | nil x => exact hx
 | cons a _ ih =>
  obtain ⟨e, _, _, _, _, h5⟩ := a
  exact ih (by rw [h5, hx]; rfl)
theorem Wk.any {es : List Ed} {own : Int} {n : Nat} {x y : Sp} (h : Wk es own n x y) : ∀ a : Bool, ∃ c, Wk es own n (x.1, a) (y.1, c) := by
 induction h with
 | nil x => exact fun a => ⟨a, .nil _⟩
 | @cons n x y z a _ ih =>
  intro b
  obtain ⟨e, h1, h2, h3, h4, _⟩ := a
  obtain ⟨c, hc⟩ := ih (b || ownE own e)
  have hL : Lds es own (x.1, b) (y.1, b || ownE own e) := ⟨e, h1, h2, h3, h4, rfl⟩
  exact ⟨c, .cons hL hc⟩
theorem Wk.liftT {es : List Ed} {own : Int} {n : Nat} {x y : Sp} (h : Wk es own n x y) : Wk es own n (x.1, true) (y.1, true) := by
 obtain ⟨c, hc⟩ := h.any true
 have h2 : c = true := hc.up rfl
 rwa [h2] at hc
theorem Way.pos {es : List Ed} {own f : Int} {l : List Int} {x : Sp} (h : Way es own f l x) : 0 < l.length := by
 cases h <;> simp
theorem Way.wk {es : List Ed} {own f : Int} {l : List Int} {x : Sp} (h : Way es own f l x) : Wk es own (l.length - 1) (f, false) x := by
 induction h with
 | base => exact .nil _
 | step h hL ih =>
  have := h.pos
  have := ih.snoc hL
  rw [lap]
  simp only [lcs, List.length_nil]
  rwa [show ∀ n, 0 < n → n + (0 + 1) - 1 = n - 1 + 1 from fun n hn => by omega]
  omega
theorem Way.at_ {es : List Ed} {own f : Int} {l : List Int} {x : Sp} (h : Way es own f l x) : ∀ i (hi : i < l.length), ∃ y : Sp, y.1 = l[i] ∧ Wk es own i (f, false) y ∧ Wk es own (l.length - 1 - i) y x := by
 induction h with
 | base =>
  intro i hi
  obtain rfl : i = 0 := by simpa using hi
  exact ⟨_, rfl, .nil _, .nil _⟩
 | @step l x y h hL ih =>
  intro i hi
  have hp := h.pos
  have hlen : (l ++ [y.1]).length = l.length + 1 := by simp
  by_cases hil : i < l.length
  ·obtain ⟨z, h1, h2, h3⟩ := ih i hil
   refine ⟨z, by rw [List.getElem_append_left hil]; exact h1, h2, ?_⟩
   rw [hlen, show l.length + 1 - 1 - i = l.length - 1 - i + 1 by omega]
   exact h3.snoc hL
  ·obtain rfl : i = l.length := by omega
   refine ⟨y, by simp, ?_, ?_⟩
   ·have := h.wk.snoc hL
    rwa [show l.length - 1 + 1 = l.length by omega] at this
   ·rw [hlen, show l.length + 1 - 1 - l.length = 0 by omega]
    exact .nil _
theorem Way.two {es : List Ed} {own f : Int} {l : List Int} {x : Sp} (h : Way es own f l x) : ∀ i j (hi : i < j) (hj : j < l.length), ∃ y z : Sp, y.1 = l[i] ∧ z.1 = l[j] ∧ Wk es own i (f, false) y ∧ Wk es own (j - i) y z ∧ Wk es own (l.length - 1 - j) z x := by
 induction h with
 | base => intro i j hi hj; simp at hj; omega
 | @step l x y h hL ih =>
  intro i j hi hj
  have hp := h.pos
  have hlen : (l ++ [y.1]).length = l.length + 1 := by simp
  by_cases hjl : j < l.length
  ·obtain ⟨u, v, h1, h2, h3, h4, h5⟩ := ih i j hi hjl
   refine ⟨u, v, by rw [List.getElem_append_left (by omega)]; exact h1, by rw [List.getElem_append_left hjl]; exact h2, h3, h4, ?_⟩
   rw [hlen, show l.length + 1 - 1 - j = l.length - 1 - j + 1 by omega]
   exact h5.snoc hL
  ·obtain rfl : j = l.length := by omega
   obtain ⟨u, h1, h2, h3⟩ := h.at_ i hi
   refine ⟨u, y, by rw [List.getElem_append_left hi]; exact h1, by simp, h2, ?_, ?_⟩
   ·have := h3.snoc hL
    rwa [show l.length - 1 - i + 1 = l.length - i by omega] at this
   ·rw [hlen, show l.length + 1 - 1 - l.length = 0 by omega]
    exact .nil _
theorem Jy {es : List Ed} {own : Int} {N : List Int} (he : ∀ e ∈ es, e.fr ∈ N ∧ e.to ∈ N) {m : Nat} {v : Int} (h : Wk es own m (v, false) (v, true)) : v ∈ N := by
 cases h with
 | cons a _ =>
  obtain ⟨e, h1, _, h3, _⟩ := a
  have := (he e h1).1
  rw [h3] at this
  exact this
structure Sho (es : List Ed) (own : Int) (b : List Int) : Prop where
 two : 2 ≤ b.length
 nd : ∀ i j (hi : i < j) (hj : j < b.length), b[i] ≠ b[j]
 fst : ∀ i (hi : i < b.length), b.getD 0 0 ≤ b[i]
 ed : ∀ i (hi : i < b.length), ∃ e ∈ es, e.kd ≤ own ∧ e.fr = b[i] ∧ some e.to = b[(i + 1) % b.length]?
 late : lateR es own b ≠ none
theorem best_sho {es : List Ed} {own : Int} {N : List Int} (hN : N.Pairwise fun a b => a < b) (he : ∀ e ∈ es, e.fr ∈ N ∧ e.to ∈ N) (hto : ∀ e ∈ es, 0 ≤ e.to ∧ e.to < 65536) (hlp : ∀ e ∈ es, e.fr ≠ e.to) (hb : bestR es N own ≠ []) : Sho es own (bestR es N own) := by
 have hS := best_S es own N
 generalize bestR es N own = b at hb hS
 obtain ⟨N1, f, N2, h1, h2, h3, h4⟩ := hS.at_ hb
 have h0 : 0 < b.length := List.length_pos_iff.2 hb
 obtain ⟨x, hw, hl⟩ := Vg hto h2 h0
 rw [← h3] at hw
 have hmin : ∀ v m, Wk es own m (v, false) (v, true) → b.length ≤ m := fun v m h => by
  obtain ⟨d, d1, d2⟩ := Tf h
  have := (hS.le v (Jy he h) d d2).2
  omega
 have hhd : b[0]? = some f := by rw [← List.head?_eq_getElem?]; exact hw.i.hd
 have h2b : 2 ≤ b.length := by
  rcases Nat.lt_or_ge b.length 2 with h | h
  ·exfalso
   have h5 : b.length = 1 := by omega
   have := Lj (show lookF (farR es own (f, true)) (f, false) = some b.length from h2)
   rw [h5] at this
   cases this with
   | cons a t =>
    cases t
    obtain ⟨e, e1, _, e3, e4, _⟩ := a
    exact hlp e e1 (e3.trans e4.symm)
  ·exact h
 refine ⟨h2b, fun i j hi hj heq => ?_, fun i hi => ?_, fun i hi => ?_, Pn hw hl⟩
 ·obtain ⟨y, z, a1, a2, a3, a4, a5⟩ := hw.two i j hi hj
  have hyz : y.1 = z.1 := by rw [a1, a2, heq]
  obtain ⟨v, a⟩ := y
  obtain ⟨v', c⟩ := z
  simp only at hyz
  subst hyz
  by_cases hac : a = c
  ·subst hac
   have := (a3.app a5).snoc hl
   have := hmin f _ this
   omega
  ·cases a with
   | true => exact hac (a4.up rfl).symm
   | false =>
    cases c with
    | false => exact hac rfl
    | true =>
     have := hmin v _ a4
     omega
 ·obtain ⟨y, a1, a2, a3⟩ := hw.at_ i hi
  have a3 := a3.snoc hl
  obtain ⟨v, a⟩ := y
  simp only at a1
  have hcl : Wk es own b.length (v, false) (v, true) := by
   have hlen : b.length - 1 - i + 1 + i = b.length := by omega
   rw [← hlen]
   cases a with
   | false => exact a3.app a2.liftT
   | true =>
    obtain ⟨c, hc⟩ := a3.any false
    cases c with
    | false => exact hc.app a2
    | true => exact hc.app a2.liftT
  obtain ⟨d, d1, d2⟩ := Tf hcl
  have hvN : v ∈ N1 ++ f :: N2 := h1 ▸ Jy he hcl
  have hg0 : b.getD 0 0 = f := by rw [List.getD_eq_getElem?_getD, hhd]; rfl
  rw [hg0, ← a1]
  rcases List.mem_append.1 hvN with hv | hv
  ·have := h4 v hv d d2
   omega
  ·rcases List.mem_cons.1 hv with rfl | hv
   ·exact Int.le_refl _
   ·rw [h1] at hN
    have := (List.pairwise_cons.1 (List.pairwise_append.1 hN).2.1).1 v hv
    omega
 ·by_cases hi1 : i + 1 < b.length
  ·obtain ⟨e, e1, e2, e3, e4⟩ := hw.i.ed i hi1
   exact ⟨e, e1, e2, e3, by rw [Nat.mod_eq_of_lt hi1, gEg hi1, e4]⟩
  ·obtain ⟨e, e1, e2, e3, e4, _⟩ := hl
   refine ⟨e, e1, e2, ?_, ?_⟩
   ·have := hw.i.la
    rw [List.getLast?_eq_getElem?, gEg (by omega)] at this
    rw [e3, ← Option.some.inj this]
    congr 1
    omega
   ·rw [show i + 1 = b.length by omega, Nat.mod_self, hhd, e4]
theorem Lc {own to : Int} : ∀ {l : List Ed} {p : Int × Bool}, (l.foldl (kindE own to) p).1 = p.1 ∨ ∃ e ∈ l, e.to = to ∧ e.kd = (l.foldl (kindE own to) p).1
 | [], p => .inl rfl
 | e :: l, p => by
  rw [List.foldl_cons]
  rcases Lc (l := l) (p := kindE own to p e) with h | ⟨x, h1, h2⟩
  ·rw [h]
   unfold kindE
   by_cases ht : e.to = to
   ·rw [if_pos ht]
    simp only
    by_cases hm : p.1 ≤ e.kd
    ·left; omega
    ·right; exact ⟨e, by simp, ht, by omega⟩
   ·rw [if_neg ht]; exact .inl rfl
  ·exact .inr ⟨x, by simp [h1], h2⟩
theorem Vd {own to : Int} : ∀ {l : List Ed} {p : Int × Bool}, (l.foldl (kindE own to) p).1 ≤ p.1 ∧ ∀ e ∈ l, e.to = to → (l.foldl (kindE own to) p).1 ≤ e.kd
 | [], p => ⟨Int.le_refl _, by simp⟩
 | e :: l, p => by
  rw [List.foldl_cons]
  obtain ⟨h1, h2⟩ := Vd (own := own) (to := to) (l := l) (p := kindE own to p e)
  have h3 : (kindE own to p e).1 ≤ p.1 ∧ (e.to = to → (kindE own to p e).1 ≤ e.kd) := by
   unfold kindE
   by_cases ht : e.to = to
   ·rw [if_pos ht]; simp only; omega
   ·rw [if_neg ht]; exact ⟨Int.le_refl _, fun h => absurd h ht⟩
  refine ⟨by omega, fun x hx ht => ?_⟩
  rcases List.mem_cons.1 hx with rfl | hx
  ·have := h3.2 ht; omega
  ·exact h2 x hx ht
theorem Xbv {es : List Ed} {own : Int} {b : List Int} (h : Sho es own b) {i : Nat} (hi : i < b.length) : ⟨b.getD i 0, b.getD ((i + 1) % b.length) 0, (kindAt es own b i).1⟩ ∈ es ∧ (kindAt es own b i).1 ≤ own := by
 obtain ⟨e, e1, e2, e3, e4⟩ := h.ed i hi
 have hg : b.getD i 0 = b[i] := by rw [List.getD_eq_getElem?_getD, gEg hi]; rfl
 have hg2 : b.getD ((i + 1) % b.length) 0 = e.to := by rw [List.getD_eq_getElem?_getD, ← e4]; rfl
 have hmem : e ∈ outL es own (b.getD i 0) := Gp.2 ⟨e1, e2, by rw [hg, e3]⟩
 have hle := Vd (own := own) (to := b.getD ((i + 1) % b.length) 0) (l := outL es own (b.getD i 0)) (p := (own, false))
 refine ⟨?_, hle.1⟩
 unfold kindAt
 rcases Lc (own := own) (to := b.getD ((i + 1) % b.length) 0) (l := outL es own (b.getD i 0)) (p := (own, false)) with hk | ⟨x, x1, x2, x3⟩
 ·have h1 := hle.2 e hmem hg2.symm
  rw [hk] at h1 ⊢
  simp only at h1 ⊢
  have : e = ⟨b.getD i 0, b.getD ((i + 1) % b.length) 0, own⟩ := by
   rw [hg, hg2, ← e3, show own = e.kd by omega]
  rw [← this]; exact e1
 ·obtain ⟨y1, _, y3⟩ := Gp.1 x1
  have : x = ⟨b.getD i 0, b.getD ((i + 1) % b.length) 0, ((outL es own (b.getD i 0)).foldl (kindE own (b.getD ((i + 1) % b.length) 0)) (own, false)).1⟩ := by
   rw [← x3, ← x2, ← y3]
  rw [← this]; exact y1
theorem Vb {es : List Ed} {own : Int} {l : List Int} : ∀ {k i : Nat}, ((List.range k).foldl (fun (o : Option Nat) i => if (kindAt es own l i).2 = true then some i else o) none) = some i → (kindAt es own l i).2 = true
 | 0, i, h => by cases h
 | k + 1, i, h => by
  rw [Gq] at h
  split at h
  ·rename_i hk
   cases h; exact hk
  ·exact Vb h
theorem late_ed {es : List Ed} {own : Int} {b : List Int} {i : Nat} (h : (kindAt es own b i).2 = true) : (⟨b.getD i 0, b.getD ((i + 1) % b.length) 0, own⟩ : Ed) ∈ es := by
 unfold kindAt at h
 rw [I9, Bool.false_or, aet] at h
 obtain ⟨e, h1, h2⟩ := h
 rw [Bool.and_eq_true, decide_eq_true_eq] at h2
 obtain ⟨y1, _, y3⟩ := Gp.1 h1
 have : e = ⟨b.getD i 0, b.getD ((i + 1) % b.length) 0, own⟩ := by
  have hk : e.kd = own := by simpa [ownE] using h2.2
  rw [← y3, ← h2.1, ← hk]
 rw [← this]; exact y1
theorem E9 (es : List Ed) (own : Int) (b : List Int) : (leastR es own b).length = b.length := by simp [leastR]
theorem Xbw {es : List Ed} {own : Int} {b : List Int} {i : Nat} (hi : i < b.length) : (leastR es own b)[i]? = some (kindAt es own b i).1 := by
 simp [leastR, hi]
theorem Mz (es : List Ed) (own : Int) (b : List Int) : (kindsR es own b).length = b.length := by
 unfold kindsR
 split
 ·exact E9 ..
 ·split
  ·exact E9 ..
  ·rw [List.length_set]; exact E9 ..
theorem Lb {es : List Ed} {own : Int} {b : List Int} (h : Sho es own b) {i : Nat} (hi : i < b.length) : ∃ k, (kindsR es own b)[i]? = some k ∧ k ≤ own ∧ ⟨b.getD i 0, b.getD ((i + 1) % b.length) 0, k⟩ ∈ es := by
 obtain ⟨h1, h2⟩ := Xbv h hi
 have h3 := Xbw (es := es) (own := own) hi
 unfold kindsR
 split
 ·exact ⟨_, h3, h2, h1⟩
 ·split
  ·exact ⟨_, h3, h2, h1⟩
  ·rename_i j hj
   by_cases hji : j = i
   ·subst hji
    refine ⟨own, ?_, Int.le_refl _, late_ed (Vb hj)⟩
    rw [List.getElem?_set_self (by rw [E9]; exact hi)]
   ·rw [List.getElem?_set_ne hji]
    exact ⟨_, h3, h2, h1⟩
theorem Yi {es : List Ed} {own : Int} {b : List Int} (h : Sho es own b) : own ∈ kindsR es own b := by
 unfold kindsR
 split
 ·assumption
 ·split
  ·rename_i hn
   exact absurd hn h.late
  ·rename_i j hj
   have : j < b.length := Oo hj
   exact List.mem_of_getElem? (i := j) (by rw [List.getElem?_set_self (by rw [E9]; exact this)])
theorem Vy {m : Int} : ∀ {l : List Int} {x : Int}, x ≤ m → (∀ y ∈ l, y ≤ m) → l.foldl max x ≤ m
 | [], _, h, _ => h
 | y :: l, x, h, hl => by
  rw [List.foldl_cons]
  have := hl y (by simp)
  exact Vy (by omega) fun z hz => hl z (by simp [hz])
theorem Vx {m : Int} : ∀ {l : List Int} {x : Int}, x = m → (∀ y ∈ l, m ≤ y) → l.foldl min x = m
 | [], _, h, _ => h
 | y :: l, x, h, hl => by
  rw [List.foldl_cons]
  have := hl y (by simp)
  exact Vx (by omega) fun z hz => hl z (by simp [hz])
theorem isR_sho {es : List Ed} {own k : Int} {b : List Int} (h : Sho es own b) (ho : ownR k = some own) {f : Ed → Bool} (hf : ∀ e, f e = decide (e ∈ es)) : isR f k b (kindsR es own b) = true := by
 have hl := Mz es own b
 have h2b := h.two
 have hx : ∀ x ∈ kindsR es own b, x ≤ own := fun x hx => by
  obtain ⟨i, hi, rfl⟩ := List.getElem_of_mem hx
  obtain ⟨k, k1, k2, _⟩ := Lb h (i := i) (by omega)
  rw [gEg hi] at k1
  rw [Option.some.inj k1]; exact k2
 have h1 : (kindsR es own b).any (fun x => decide (own = x)) = true := by rw [Pi]; exact decide_eq_true (Yi h)
 have h2 : maxR (kindsR es own b) ≤ own := by
  cases hk : kindsR es own b with
  | nil => rw [hk] at hl; simp at hl; omega
  | cons x l =>
   rw [hk] at hx
   exact Vy (hx x (by simp)) fun y hy => hx y (by simp [hy])
 have h3 : minR b = b.getD 0 0 := by
  have hfst : ∀ x ∈ b, b.getD 0 0 ≤ x := fun x hx => by
   obtain ⟨i, hi, rfl⟩ := List.getElem_of_mem hx
   exact h.fst i hi
  cases hb : b with
  | nil => rfl
  | cons x l =>
   rw [hb] at hfst
   exact Vx rfl fun y hy => hfst y (by simp [hy])
 have h4 : isGo f b (kindsR es own b) b.length = true := by
  unfold isGo
  rw [List.all_eq_true]
  intro i hi
  have hi := List.mem_range.1 hi
  have hg : b.getD i 0 = b[i] := by rw [List.getD_eq_getElem?_getD, gEg hi]; rfl
  unfold isAt
  rw [Bool.and_eq_true, Pi, Bool.not_eq_true', decide_eq_false_iff_not, hf, decide_eq_true_eq]
  refine ⟨fun hm => ?_, ?_⟩
  ·obtain ⟨j, hj, e⟩ := List.getElem_of_mem hm
   rw [ltk] at hj
   rw [List.getElem_take, hg] at e
   exact h.nd j i (by omega) hi e
  ·obtain ⟨k, k1, _, k3⟩ := Lb h hi
   rw [List.getD_eq_getElem?_getD (l := kindsR es own b), k1]
   exact k3
 unfold isR
 rw [ho]
 simp only [h1, h4, Bool.and_true, Bool.and_eq_true, decide_eq_true_eq]
 exact ⟨⟨⟨by omega, hl⟩, h2⟩, h3⟩
theorem rch_wk {es : List Ed} {own : Int} {ks : Int → Bool} (hk : ∀ e ∈ es, ks e.kd = true → e.kd ≤ own) {a b : Int} (h : Rch (outE (prs es ks)) a b) : ∀ f : Bool, ∃ n c, Wk es own n (a, f) (b, c) := by
 induction h with
 | refl => exact fun f => ⟨0, f, .nil _⟩
 | @step a b c e _ ih =>
  intro f
  obtain ⟨x, x1, x2, x3, x4⟩ := Eb.1 (Ec.1 e)
  obtain ⟨n, d, hn⟩ := ih (f || ownE own x)
  exact ⟨n + 1, d, .cons ⟨x, x1, hk x x1 x4, x2, x3, rfl⟩ hn⟩
theorem wk_rch {es : List Ed} {own : Int} {ks : Int → Bool} (hk : ∀ e ∈ es, e.kd ≤ own → ks e.kd = true) {n : Nat} {x y : Sp} (h : Wk es own n x y) : Rch (outE (prs es ks)) x.1 y.1 := by
 induction h with
 | nil x => exact .refl _
 | cons a _ ih =>
  obtain ⟨e, h1, h2, h3, h4, _⟩ := a
  exact .step (Ec.2 (Eb.2 ⟨e, h1, h3, h4, hk e h1 h2⟩)) ih
theorem wk_flip {es : List Ed} {own : Int} {ks : Int → Bool} (hk : ∀ e ∈ es, e.kd ≤ own → ks e.kd = true) {n : Nat} {x y : Sp} (h : Wk es own n x y) : x.2 = false → y.2 = true → ∃ e ∈ es, e.kd = own ∧ Rch (outE (prs es ks)) x.1 e.fr ∧ Rch (outE (prs es ks)) e.to y.1 := by
 induction h with
 | nil x => intro h1 h2; rw [h1] at h2; cases h2
 | @cons n x y z a t ih =>
  intro h1 h2
  obtain ⟨e, e1, e2, e3, e4, e5⟩ := a
  rw [h1, Bool.false_or] at e5
  cases ho : ownE own e with
  | true =>
   refine ⟨e, e1, by simpa [ownE] using ho, by rw [e3]; exact .refl _, ?_⟩
   rw [e4]; exact wk_rch hk t
  | false =>
   rw [ho] at e5
   obtain ⟨d, d1, d2, d3, d4⟩ := ih e5 h2
   refine ⟨d, d1, d2, .step (Ec.2 (Eb.2 ⟨e, e1, e3, e4, hk e e1 e2⟩)) d3, d4⟩
theorem best_iff {es : List Ed} {own : Int} {N : List Int} {ks : Int → Bool} (hk : ∀ e ∈ es, (ks e.kd = true ↔ e.kd ≤ own)) (he : ∀ e ∈ es, e.fr ∈ N ∧ e.to ∈ N) : bestR es N own ≠ [] ↔ ∃ e ∈ es, e.kd = own ∧ Rch (outE (prs es ks)) e.to e.fr := by
 have hS := best_S es own N
 constructor
 ·intro hb
  obtain ⟨N1, f, N2, h1, h2, h3, h4⟩ := hS.at_ hb
  obtain ⟨e, e1, e2, e3, e4⟩ := wk_flip (fun e he h => (hk e he).2 h) (Lj h2) rfl rfl
  exact ⟨e, e1, e2, e4.trans e3⟩
 ·rintro ⟨e, e1, e2, e3⟩
  obtain ⟨n, c, hn⟩ := rch_wk (own := own) (fun e he h => (hk e he).1 h) e3 true
  have hc : c = true := hn.up rfl
  subst hc
  have hcl : Wk es own (n + 1) (e.fr, false) (e.fr, true) := .cons ⟨e, e1, by omega, rfl, rfl, by simp [ownE, e2]⟩ hn
  obtain ⟨d, _, d2⟩ := Tf hcl
  exact (hS.le e.fr (he e e1).1 d d2).1
set_option maxHeartbeats 8000000
def c_turns30_1 : AC := (.seq (.r [.m 44 12,.m 45 10,.m 46 11,.b 47 (.idxp 1) 45 46,.u 48 (.load false 1) 47,.u 49 (.len 1 0) 48,.b 50 (.bin .lss) 44 49] (.w 50 2)) (.seq (.block 3 (.seq (.par (.step 0 (.m 53 8) (.step 1 (.m 54 11) (.step 4 (.m 57 8) (.step 5 (.m 58 10) (.step 6 (.m 59 11) (.step 9 (.m 62 12) (.step 2 (.b 55 (.idxp 1) 53 54) (.step 3 (.u 56 (.load false 1) 55) (.step 7 (.b 60 (.idxp 1) 58 59) (.step 8 (.u 61 (.load false 1) 60) (.step 10 (.b 63 (.idxp 1) 61 62) (.step 11 (.u 64 (.load false 1) 63) (.step 12 (.b 65 (.idxp 1) 57 64) (.step 13 (.u 66 (.load false 1) 65) (.step 14 (.b 67 (.bin .eql) 56 66) .done)))))))))))))))) (.cond (.t 67) (.r [.v 4 (.bool true),.v 5 (.bool true)] .ret) .skip))) (.reg [.m 51 12,.a 52 (.bin .add) 51 1,.m 12 52])))
def c_turns30_0 : AC := (.seq (.r [.m 38 11,.m 39 10,.u 40 (.len 1 0) 39,.b 41 (.bin .lss) 38 40] (.w 41 0)) (.seq (.block 1 (.r [.v 12 (.int .i64 0)] (.block 2 (.loop c_turns30_1)))) (.reg [.m 42 11,.a 43 (.bin .add) 42 1,.m 11 43])))
def c_turns30 : AC := (.r [.v 4 (.bool false),.v 5 (.bool false)] (.r [.p 13 (.bslice 1 3 (.int .u8 0) [0, 1, 2]) [.c (.int .u8 0),.c (.int .u8 1),.c (.int .u8 2)],.m 6 13] (.r [.m 14 0,.m 15 6,.m 16 1,.p 17 (.bin .add) [.t 16,.c (.int .u8 1)],.b 18 (.slc 1 false true false) 15 17,.b 19 (.call 56) 14 18,.m 7 19] (.r [.m 21 7,.u 22 (.call 63) 21,.m 20 22,.u 23 (.ext 0) 20,.u 24 (.ext 1) 20,.m 8 23,.m 9 24] (.r [.m 25 0,.m 26 1,.u 27 (.bslice 1 1 (.int .u8 0) [0]) 26,.b 28 (.call 56) 25 27,.m 10 28] (.seq (.r [.m 29 9,.a 30 (.bin .neq) 29 0,.m 31 30,.M 32 10 31 false,.U 33 (.len 1 0) 32 31 false,.M 34 8 31 false,.U 35 (.len 1 0) 34 31 false,.B 36 (.bin .neq) 33 35 31 false,.p 37 .pick [.t 31,.T,.t 36]] (.cond (.t 37) (.r [.v 4 (.bool false),.v 5 (.bool false)] .ret) .skip)) (.seq (.r [.v 11 (.int .i64 0)] (.block 0 (.loop c_turns30_0))) (.r [.v 4 (.bool false),.v 5 (.bool true)] .ret))))))))
theorem Qf : compF Tryz.prog Tryz.f28 ⟨false, false, []⟩ = some (c_turns30, [.tmp 4, .tmp 5], 68) := by kernel_rfl
variable {E : Env}
def hit30 (P : List Ek) (own : Int) : Prop := ∃ e ∈ edL P, e.kd = own ∧ Rch (outE (prs (edL P) (kin (kindsTo own)))) e.to e.fr
theorem hit_of {P : List Ek} {N : List Int} {own : Int} (ho : own = 0 ∨ own = 1 ∨ own = 2) (hN : N.Pairwise fun a b => a < b) (hm : ∀ e ∈ edL P, e.fr ∈ N ∧ e.to ∈ N) {out : List Nat} (hl : out.length = N.length) (hc : ∀ i j (hi : i < out.length) (hj : j < out.length), out[i] = out[j] ↔ Rch (nxN P N (kindsTo own)) i j ∧ Rch (nxN P N (kindsTo own)) j i) {i j : Nat} (hi : i < N.length) (hj : j ∈ nxN P N [own] i) (hjn : j < N.length) (he : out[i]'(by omega) = out[j]'(by omega)) : hit30 P own := by
 obtain ⟨e, e1, e2, e3, e4⟩ := nx_ed hN hm hi hj
 have h1 := ((hc i j (by omega) (by omega)).1 he).2
 rw [Xax hN hm hjn hi] at h1
 refine ⟨e, e1, Ve.1 e4, ?_⟩
 rw [e2, e3, List.getD_eq_getElem?_getD, List.getD_eq_getElem?_getD, gEg hi, gEg hjn]
 exact h1
theorem hit_at {P : List Ek} {N : List Int} {own : Int} (ho : own = 0 ∨ own = 1 ∨ own = 2) (hN : N.Pairwise fun a b => a < b) (hm : ∀ e ∈ edL P, e.fr ∈ N ∧ e.to ∈ N) (hkd : ∀ e ∈ edL P, 0 ≤ e.kd) {out : List Nat} (hl : out.length = N.length) (hc : ∀ i j (hi : i < out.length) (hj : j < out.length), out[i] = out[j] ↔ Rch (nxN P N (kindsTo own)) i j ∧ Rch (nxN P N (kindsTo own)) j i) (h : hit30 P own) : ∃ i j, ∃ (hi : i < N.length) (hj : j < N.length), j ∈ nxN P N [own] i ∧ out[i]'(by omega) = out[j]'(by omega) := by
 obtain ⟨e, e1, e2, e3⟩ := h
 obtain ⟨i, hi, i1, i2⟩ := Pg hN (hm e e1).1
 obtain ⟨j, hj, j1, j2⟩ := Pg hN (hm e e1).2
 refine ⟨i, j, hi, hj, (Gn hN hm hi).2 ⟨hj, Ec.2 (Eb.2 ⟨e, e1, i1.symm, j1.symm, Ve.2 e2⟩)⟩, (hc i j (by omega) (by omega)).2 ⟨Rch.one ((Gn hN hm hi).2 ⟨hj, Ec.2 (Eb.2 ⟨e, e1, i1.symm, j1.symm, (kin_to ho (hkd e e1)).2 (by omega)⟩)⟩), ?_⟩⟩
 rw [Xax hN hm hj hi, i1, j1]
 exact e3
theorem tu_in (hP : PE E) {W0 : AW} {P : List Ek} {N : List Int} {own : Int} {nv : V} {nm : Nat → List Nat} {out : List Nat} {n i : Nat} (hM : Nx nv nm n) (hl : out.length = n) (hi : i < n) {A : AFr} {Q : Exit → AFr → AW → Prop} (a8 : A 8 = some (.sl 1 false (natsV out))) (a10 : A 10 = some nv) (a11 : A 11 = some (.int .i64 (i : Nat))) (a12 : A 12 = some (.int .i64 0))
  (hret : ∀ A', A' 4 = some (.bool true) → A' 5 = some (.bool true) → (∃ j, ∃ hj : j < n, j ∈ nm i ∧ out[i]'(by omega) = out[j]'(by omega)) → Q .ret A' W0)
  (hex : ∀ A', A' 8 = some (.sl 1 false (natsV out)) → A' 10 = some nv → A' 11 = some (.int .i64 (i : Nat)) → (∀ j (hj : j < n), j ∈ nm i → out[i]'(by omega) ≠ out[j]'(by omega)) → Q (.exit 2) A' W0) : awp E (.loop c_turns30_1) Q A W0 := by
 obtain ⟨xs, x, s1, hat, s3⟩ := hM.at hi
 have hsm := hM.sm i hi
 have hlt := hM.lt i hi
 rw [Ai]
 refine alp (fun (k : Nat) A1 W1 => A1 8 = some (.sl 1 false (natsV out)) ∧ A1 10 = some nv ∧ A1 11 = some (.int .i64 (i : Nat)) ∧ A1 12 = some (.int .i64 (k : Nat)) ∧ k ≤ (nm i).length ∧ W1 = W0 ∧ ∀ m (hm : m < (nm i).length), m < k → ∀ hj : (nm i)[m] < n, out[i]'(by omega) ≠ out[(nm i)[m]]'(by omega)) (fun k => (nm i).length - k) 0
  ⟨a8, a10, a11, a12, Nat.zero_le _, rfl, fun _ _ h => by omega⟩ ?_
 rintro k A1 _ ⟨q8, q10, q11, q12, qk, rfl, qf⟩ _
 by_cases hk : k < (nm i).length
 ·have hj : (natsV (nm i))[k]? = some (.int .i64 ((nm i)[k] : Nat)) := D4 hk
  have hjm := gmm hk
  have hjn := hlt _ hjm
  have e1 : (natsV out)[i]? = some (.int .i64 (out[i]'(by omega) : Nat)) := D4 _
  have e2 : (natsV out)[(nm i)[k]]? = some (.int .i64 (out[(nm i)[k]]'(by omega) : Nat)) := D4 _
  by_cases he : out[i]'(by omega) = out[(nm i)[k]]'(by omega)
  ·have hb : (((out[i]'(by omega) : Nat) : Int) == ((out[(nm i)[k]]'(by omega) : Nat) : Int)) = true := by simp [he]
   simp (disch:=omega) only [BS, Am, Ac, ↓reduceIte, nE, BM, c_turns30_1, q8, q10, q11, q12, s1.idx hat, s3.loadf, s3.len, An, clt, hk, dT, s3.idx hj, e1, e2, hb]
   exact hret _ tt tt ⟨_, hjn, hjm, he⟩
  ·have hb : (((out[i]'(by omega) : Nat) : Int) == ((out[(nm i)[k]]'(by omega) : Nat) : Int)) = false := by simp; omega
   simp (disch:=omega) only [BX, ↓reduceIte, nE, BM, c_turns30_1, q8, q10, q11, q12, s1.idx hat, s3.loadf, s3.len, An, clt, hk, dT, s3.idx hj, e1, e2, hb, Ah]
   refine ⟨k + 1, ⟨tt, tt, tt, tt, hk, tt, fun m hm hmk hj => ?_⟩, by omega, lr _⟩
   by_cases e : m = k
   ·subst e; exact he
   ·exact qf m hm (by omega) hj
 ·obtain rfl : k = (nm i).length := by omega
  simp (disch:=omega) only [BX, ↓reduceIte, nE, c_turns30_1, q10, q11, q12, s1.idx hat, s3.loadf, s3.len, An, clt, hk, dF]
  refine hex _ tt tt tt fun j hj hjm => ?_
  obtain ⟨m, hm, rfl⟩ := List.getElem_of_mem hjm
  exact qf m hm hm hj
theorem tu_out (hP : PE E) {W0 : AW} {P : List Ek} {N : List Int} {own : Int} {nv : V} {nm : Nat → List Nat} {out : List Nat} {n : Nat} (hM : Nx nv nm n) (hl : out.length = n) (hn : n < 2 ^ 30) {A : AFr} {Q : Exit → AFr → AW → Prop} (a8 : A 8 = some (.sl 1 false (natsV out))) (a10 : A 10 = some nv) (a11 : A 11 = some (.int .i64 0))
  (hret : ∀ A', A' 4 = some (.bool true) → A' 5 = some (.bool true) → (∃ i j, ∃ (hi : i < n) (hj : j < n), j ∈ nm i ∧ out[i]'(by omega) = out[j]'(by omega)) → Q .ret A' W0)
  (hex : ∀ A', (∀ i j (hi : i < n) (hj : j < n), j ∈ nm i → out[i]'(by omega) ≠ out[j]'(by omega)) → Q (.exit 0) A' W0) : awp E (.loop c_turns30_0) Q A W0 := by
 obtain ⟨xs, s1, s2, s3⟩ := hM.el
 rw [Ai]
 refine alp (fun (i : Nat) A1 W1 => A1 8 = some (.sl 1 false (natsV out)) ∧ A1 10 = some nv ∧ A1 11 = some (.int .i64 (i : Nat)) ∧ i ≤ n ∧ W1 = W0 ∧ ∀ m j (hm : m < n) (hj : j < n), m < i → j ∈ nm m → out[m]'(by omega) ≠ out[j]'(by omega)) (fun i => n - i) 0
  ⟨a8, a10, a11, Nat.zero_le _, rfl, fun _ _ _ _ h => by omega⟩ ?_
 rintro i A1 _ ⟨q8, q10, q11, qi, rfl, qf⟩ _
 by_cases hi : i < n
 ·simp (disch:=omega) only [BS, Am, Ac, ↓reduceIte, nE, c_turns30_0, q10, q11, s1.len, s2, clt, hi, dT]
  refine tu_in (P := P) (N := N) (own := own) hP hM hl hi tt tt tt tt ?_ ?_
  ·rintro A2 z4 z5 ⟨j, hj, h1, h2⟩
   simp (disch:=omega) only [BS]
   exact hret _ z4 z5 ⟨i, j, hi, hj, h1, h2⟩
  ·intro A2 z8 z10 z11 hno
   simp (disch:=omega) only [BS, ↓reduceIte, nE, z8, z10, z11, Ah]
   refine ⟨i + 1, ⟨tt, tt, tt, hi, tt, fun m j hm hj hmi hjm => ?_⟩, by omega, lr _⟩
   by_cases e : m = i
   ·subst e; exact hno j hj hjm
   ·exact qf m j hm hj (by omega) hjm
 ·obtain rfl : i = n := by omega
  simp (disch:=omega) only [BX, ↓reduceIte, nE, c_turns30_0, q10, q11, s1.len, s2, clt, hi, dF]
  exact hex _ fun m j hm hj hjm => qf m j hm hj hm hjm
theorem Mc (hP : PE E) (W : AW) {g m lo : Nat} {h : V} {P : List Ek} {N : List Int} (hG : Gr W g m h P N lo) (hNs : N.Pairwise fun a b => a < b) (hPN : ∀ x ∈ P, x.1 ∈ N ∧ x.2.1 ∈ N) {own : Int} (ho : own = 0 ∨ own = 1 ∨ own = 2) :
  ACalls E 28 [.ptr g 0, .int .u8 own] W fun Y W' => W' = W ∧ ∃ b, Y = .tuple [.bool b, .bool true] ∧ (b = true ↔ hit30 P own) := by
 refine ACalls.of hP Tryz.func28 Qf (by simp) fun _ hok => ?_
 refine Ae hok ?_
 have hnl := hG.nl
 have hPe : ∀ e ∈ edL P, e.fr ∈ N ∧ e.to ∈ N := fun e he => hPN _ (edL_mem.1 he)
 have hkd : ∀ e ∈ edL P, 0 ≤ e.kd := fun e he => (edOk hG.pk he).2.2.2.2.1
 have hX0 : ∀ l, Gr (X W W.nx l) g m h P N lo := fun l => hG.ex Ex.x0
 obtain ⟨fk, hsk⟩ := slK (E := E) ho
 have hw := w8add ho
 have hkl : (kindsTo own).length < 2 ^ 40 := by rcases ho with rfl | rfl | rfl <;> simp [kindsTo]
 by_cases hne : N = []
 ·have hP0 : P = [] := List.eq_nil_iff_forall_not_mem.2 fun x hx => by have := (hPN x hx).1; rw [hne] at this; cases this
  have hno : ¬ hit30 P own := by
   rintro ⟨e, he, _⟩
   have := (hPe e he).1
   rw [hne] at this; cases this
  have hnr : ∀ ks, nextR P N ks = [] := fun ks => by
   have h1 := (F9 (kinds := ks) hNs (edL P) (List.replicate N.length []) (by simp) fun e he => (hPe e he).1).1
   exact List.eq_nil_of_length_eq_zero (by rw [nextR, h1, hne]; rfl)
  simp only [BZ, ↓reduceIte, nE, reduceCtorEq, c_turns30, bK3, hw, hsk]
  refine (Uy hP _ (hX0 _) hNs hPN (.mk (xs := u8s (kindsTo own))) hkl).mono ?_
  rintro YN WN (⟨h1, _⟩ | ⟨_, r, rfl, hE⟩)
  ·exact absurd (hnr _) h1
  have hEN : Ex W WN := Ex.x0.trans hE
  rw [hEN.cl.start]
  simp only [BZ, ↓reduceIte, ]
  refine (comp0_c hP _ (nx := fun _ => []) ⟨⟨[], .inr ⟨rfl, r, rfl⟩, rfl, fun i h => by simp at h⟩, fun i h => by omega, fun i h => by omega⟩).mono ?_
  rintro _ WC ⟨hEC, r', rfl⟩
  have hEC' : Ex W WC := hEN.trans ((Ex.refl hEN.cl).X.trans hEC)
  rw [hEC'.cl.start]
  simp only [BZ, ↓reduceIte, nE, reduceCtorEq, bKo]
  refine (Uy hP _ (hG.ex (hEC'.X)) hNs hPN (.mk (xs := u8s [own])) (by simp)).mono ?_
  rintro YM WM (⟨h1, _⟩ | ⟨_, r2, rfl, hE2⟩)
  ·exact absurd (hnr _) h1
  have hEM : Ex W WM := hEC'.X.trans hE2
  have hb0 : ((0 : Int) != 0) = false := by decide
  rw [hEM.cl.start]
  simp only [BS, Am, ↓reduceIte, nE, hb0]
  repeat (rw [Aa]; simp only [BX, ↓reduceIte, nE])
  rw [Ai]
  have h00 : decide (((0 : Nat) : Int) < ((0 : Nat) : Int)) = false := by decide
  have h01 : decide ((0 : Int) < 0) = false := by decide
  have h02 : decide ((0 : Int) < ((0 : Nat) : Int)) = false := by decide
  refine alp (fun (_ : Nat) A1 W1 => A1 10 = some (.slr r2 0 0 1) ∧ A1 11 = some (.int .i64 0) ∧ Ex W W1) (fun _ => 0) 0
   ⟨tt, tt, hEM.X⟩ ?_
  rintro _ A1 W1 ⟨q10, q11, qE⟩ _
  have hl0 : ∀ (W : AW) (K : V → AW → Prop), sem E (.len 1 0) [.slr r2 0 0 1] W K = K (.int .i64 0) W := fun W K => rfl
  simp only [BX, ↓reduceIte, nE, BM, BD, nT, c_turns30_0, q10, q11, hl0, h01]
  exact ⟨_, rfl, _, W, .weak (Aj hok rfl fun y hy => qE.get y hy), lr _, rfl, false, rfl, by simp [hno]⟩
 ·have hN1 := nx_Nx (kinds := kindsTo own) hNs hPe (Lo hG)
  have hN2 := nx_Nx (kinds := [own]) hNs hPe (Lo hG)
  have hpos : 0 < N.length := List.length_pos_iff.2 hne
  simp only [BZ, ↓reduceIte, nE, reduceCtorEq, c_turns30, bK3, hw, hsk]
  refine pc (Oc hP _ (hX0 _) hNs hPN (.mk (xs := u8s (kindsTo own))) hkl hne) ?_
  simp only [BZ, ↓reduceIte, ]
  refine (comp_c hP _ hN1 (by omega) hpos).mono ?_
  rintro _ _ ⟨rfl, out, rfl, o1, o2⟩
  simp only [BZ, ↓reduceIte, nE, reduceCtorEq, bKo]
  refine pc (Oc hP _ (hX0 _) hNs hPN (.mk (xs := u8s [own])) (by simp) hne) ?_
  have hb0 : ((0 : Int) != 0) = false := by decide
  have hll : ∀ (W : AW) (K : V → AW → Prop), sem E (.len 1 0) [llV (nextR P N [own])] W K = K (.int .i64 (N.length : Nat)) W := fun W K => by
   obtain ⟨xs, s1, s2, s3⟩ := hN2.el
   rw [s1.len, s2]
  simp only [BS, Am, ↓reduceIte, nE, hb0]
  have hbn : (((N.length : Nat) : Int) != ((N.length : Nat) : Int)) = false := by simp
  repeat (rw [Aa]; simp only [BX, ↓reduceIte, nE, hll, An, o1, hbn])
  refine tu_out (P := P) (N := N) (own := own) hP hN2 o1 (by omega) tt tt tt ?_ ?_
  ·rintro A2 z4 z5 ⟨i, j, hi, hj, h1, h2⟩
   simp only [BS, z4, z5]
   exact ⟨_, rfl, _, W, Aw hok rfl, lr _, rfl, true, rfl, by simp only [true_iff]; exact hit_of ho hNs hPe o1 o2 hi h1 hj h2⟩
  ·intro A2 hno
   simp only [BS, Am, ↓reduceIte, nE, ]
   refine ⟨_, rfl, _, W, Aw hok rfl, lr _, rfl, false, rfl, ?_⟩
   simp only [Bool.false_eq_true, false_iff]
   intro hh
   obtain ⟨i, j, hi, hj, h1, h2⟩ := hit_at ho hNs hPe hkd o1 o2 hh
   exact hno i j hi hj h1 h2
def c_few_1 : AC := (.seq (.r [.m 15 4,.m 16 0,.m 17 3,.b 18 (.idxp 3) 16 17,.u 19 (.fld 1) 18,.u 20 (.load false 1) 19,.u 21 (.len 1 0) 20,.b 22 (.bin .lss) 15 21,.m 23 22,.M 24 4 23 true,.P 25 (.bin .lss) [.t 24,.i 10] 23 true,.p 26 .pick [.t 23,.t 25,.F]] (.w 26 2)) (.seq (.block 3 (.r [.m 29 0,.m 30 3,.b 31 (.idxp 3) 29 30,.u 32 (.fld 1) 31,.u 33 (.load false 1) 32,.m 34 4,.b 35 (.idxp 1) 33 34,.u 36 (.load false 1) 35,.u 37 (.len 1 0) 36,.a 38 (.bin .gtr) 37 32] (.cond (.t 38) (.r [.v 2 (.bool false)] .ret) .skip))) (.reg [.m 27 4,.a 28 (.bin .add) 27 1,.m 4 28])))
def c_few_0 : AC := (.seq (.r [.m 5 3,.m 6 0,.u 7 (.len 1 0) 6,.b 8 (.bin .lss) 5 7,.m 9 8,.M 10 3 9 true,.P 11 (.bin .lss) [.t 10,.i 10] 9 true,.p 12 .pick [.t 9,.t 11,.F]] (.w 12 0)) (.seq (.block 1 (.seq (.r [.v 4 (.int .i64 0)] (.block 2 (.loop c_few_1))) (.r [.m 39 0,.m 40 3,.b 41 (.idxp 3) 39 40,.u 42 (.fld 0) 41,.u 43 (.load false 1) 42,.u 44 (.len 1 0) 43,.a 45 (.bin .gtr) 44 8,.m 46 45,.M 47 0 46 false,.M 48 3 46 false,.B 49 (.idxp 3) 47 48 46 false,.U 50 (.fld 1) 49 46 false,.U 51 (.load false 1) 50 46 false,.U 52 (.len 1 0) 51 46 false,.P 53 (.bin .gtr) [.t 52,.i 8] 46 false,.p 54 .pick [.t 46,.T,.t 53]] (.cond (.t 54) (.r [.v 2 (.bool false)] .ret) .skip)))) (.reg [.m 13 3,.a 14 (.bin .add) 13 1,.m 3 14])))
def c_few : AC := (.r [.v 2 (.bool false)] (.seq (.r [.v 3 (.int .i64 0)] (.block 0 (.loop c_few_0))) (.r [.m 55 0,.u 56 (.len 1 0) 55,.a 57 (.bin .leq) 56 6,.m 2 57] .ret)))
theorem ok_fewe : compF Tryz.prog Tryz.f8 ⟨false, false, []⟩ = some (c_few, [.tmp 2], 58) := by kernel_rfl
def c_many_0 : AC := (.seq (.r [.m 4 3,.m 5 0,.u 6 (.len 1 0) 5,.b 7 (.bin .lss) 4 6,.m 8 7,.M 9 3 8 true,.P 10 (.bin .lss) [.t 9,.i 40] 8 true,.p 11 .pick [.t 8,.t 10,.F]] (.w 11 0)) (.seq (.block 1 (.r [.m 14 0,.m 15 3,.m 16 3,.a 17 (.bin .add) 16 5,.m 18 0,.u 19 (.len 1 0) 18,.b 20 (.len 5 0) 17 19,.p 21 (.slc 3 true true false) [.t 14,.t 15,.t 20],.u 22 (.call 8) 21,.u 23 (.un .not) 22] (.cond (.t 23) (.r [.v 2 (.bool false)] .ret) .skip))) (.reg [.m 12 3,.a 13 (.bin .add) 12 5,.m 3 13])))
def c_many : AC := (.r [.v 2 (.bool false)] (.seq (.r [.v 3 (.int .i64 0)] (.block 0 (.loop c_many_0))) (.r [.m 24 0,.u 25 (.len 1 0) 24,.a 26 (.bin .leq) 25 30,.m 2 26] .ret)))
theorem Xam : compF Tryz.prog Tryz.f22 ⟨false, false, []⟩ = some (c_many, [.tmp 2], 27) := by kernel_rfl
structure De.few (d : De) : Prop where
 m : d.ml.length ≤ 8
 r : d.rl.length ≤ 8
 n : ∀ o ∈ d.rl, (nums o).length ≤ 32
theorem De.few.small {d : De} (h : d.few) : d.small := ⟨by have := h.m; omega, by have := h.r; omega, fun o ho => by have := h.n o ho; omega⟩
theorem fewD_in (W : AW) {v : V} {l : List De} (hv : isS 3 v (l.map De.V)) {i : Nat} (hi : i < l.length) (ha : l[i].ok) {A : AFr} {Q : Exit → AFr → AW → Prop}
  (a0 : A 0 = some v) (a3 : A 3 = some (.int .i64 i)) (a4 : A 4 = some (.int .i64 0))
  (hret : ∀ A', A' 2 = some (.bool false) → Q .ret A' W)
  (hex : ∀ A', A' 0 = some v → A' 3 = some (.int .i64 i) → (∀ j (hj : j < l[i].rl.length), j < 10 → (nums l[i].rl[j]).length ≤ 32) → Q (.exit 2) A' W) : ALoop (awp E c_few_1) Q A W := by
 obtain ⟨xs, i1, i2, i3⟩ : ∃ xs, isS 1 l[i].rv xs ∧ xs.length = l[i].rl.length ∧ ∀ k (h : k < xs.length) (h' : k < l[i].rl.length), isEl xs[k] l[i].rl[k] := ha.rd
 have hat : (l.map De.V)[i]? = some l[i].V := by simp [hi]
 refine alp (fun (k : Nat) A1 W1 => A1 0 = some v ∧ A1 3 = some (.int .i64 i) ∧ A1 4 = some (.int .i64 (k : Nat)) ∧ k ≤ xs.length ∧ k ≤ 10 ∧ W1 = W ∧ ∀ j (hj : j < l[i].rl.length), j < k → (nums l[i].rl[j]).length ≤ 32) (fun k => xs.length - k) 0
  ⟨a0, a3, a4, Nat.zero_le _, by omega, rfl, fun _ _ h => by omega⟩ ?_
 rintro k A1 W1 ⟨g0, g3, g4, gk, gk10, rfl, ge⟩ _
 have h10 : decide ((k : Int) < 10) = decide (k < 10) := by simp; omega
 by_cases hk1 : k < xs.length
 ·by_cases hk2 : k < 10
  ·have e1 : xs[k]? = some xs[k] := gEg _
   have t := i3 k hk1 (by omega)
   have h40 : decide (((nums l[i].rl[k]).length : Int) > 32) = decide ((nums l[i].rl[k]).length > 32) := by simp; omega
   by_cases hb : (nums l[i].rl[k]).length > 32
   ·simp (disch:=omega) only [c_few_1, BS, Am, Ac, Aa, ↓reduceIte, nE, reduceCtorEq, BM, g0, g3, g4, hv.idx hat, O9, i1.len, clt, hk1, h10, hk2, dT, i1.idx e1, t.isS.loadf, t.isS.len, Al, h40, decide_eq_true hb]
    exact hret _ rfl
   ·simp (disch:=omega) only [c_few_1, BX, Aa, ↓reduceIte, nE, reduceCtorEq, BM, g0, g3, g4, hv.idx hat, O9, i1.len, clt, hk1, h10, hk2, dT, i1.idx e1, t.isS.loadf, t.isS.len, Al, h40, decide_eq_false hb, Ah]
    refine ⟨k + 1, ⟨tt, tt, tt, tt, by omega, tt, fun j hj hjk => ?_⟩, by omega, lr _⟩
    by_cases e : j = k
    ·subst e; omega
    ·exact ge j hj (by omega)
  ·simp (disch:=omega) only [c_few_1, BX, Aa, ↓reduceIte, nE, reduceCtorEq, BM, g0, g3, g4, hv.idx hat, O9, i1.len, clt, hk1, h10, hk2, dT, dF]
   exact hex _ g0 g3 fun j hj h => ge j hj (by omega)
 ·simp (disch:=omega) only [c_few_1, BX, Aa, ↓reduceIte, nE, reduceCtorEq, BM, g0, g3, g4, hv.idx hat, O9, i1.len, clt, hk1, dF]
  exact hex _ g0 g3 fun j hj h => ge j hj (by omega)
theorem fewD_c (hP : PE E) (W : AW) {v : V} {l : List De} (hv : isS 3 v (l.map De.V)) (ha : ∀ a ∈ l, a.ok) (hl : l.length < 2 ^ 48) :
  ACalls E 8 [v] W fun Y W' => W' = W ∧ ∃ b, Y = .bool b ∧ (b = true → l.length ≤ 6 ∧ ∀ a ∈ l, a.few) := by
 refine ACalls.of hP Tryz.func8 ok_fewe (by simp) fun _ hok => ?_
 simp only [c_few, BS, Am]
 rw [Ai]
 refine alp (fun (k : Nat) A1 W1 => A1 0 = some v ∧ A1 3 = some (.int .i64 k) ∧ k ≤ l.length ∧ k ≤ 10 ∧ W1 = W ∧ ∀ j (hj : j < l.length), j < k → l[j].few) (fun k => l.length - k) 0
  ⟨rfl, rfl, Nat.zero_le _, by omega, rfl, fun _ _ h => by omega⟩ ?_
 rintro k A1 W1 ⟨g0, g3, gk, gk9, rfl, ge⟩ _
 have h60 : decide ((l.length : Int) ≤ 6) = decide (l.length ≤ 6) := by simp; omega
 have h70 : decide ((k : Int) < 10) = decide (k < 10) := by simp; omega
 by_cases hk1 : k < l.length
 ·by_cases hk2 : k < 10
  ·have hat : (l.map De.V)[k]? = some l[k].V := by simp [hk1]
   have hak := ha l[k] (gmm hk1)
   obtain ⟨xs, i1, i2, i3⟩ : ∃ xs, isS 1 l[k].rv xs ∧ xs.length = l[k].rl.length ∧ ∀ m (h : m < xs.length) (h' : m < l[k].rl.length), isEl xs[m] l[k].rl[m] := hak.rd
   have hms : isS 3 l[k].mv (l[k].ml.map Mi.V) := hak.ms
   have h20 : decide ((l[k].ml.length : Int) > 8) = decide (l[k].ml.length > 8) := by simp; omega
   have h20' : decide ((l[k].rl.length : Int) > 8) = decide (l[k].rl.length > 8) := by simp; omega
   simp (disch:=omega) only [c_few_0, BS, Am, Ac, Aa, ↓reduceIte, nE, reduceCtorEq, g0, g3, hv.len, lmp, clt, hk1, h70, hk2, dT, Ai]
   refine fewD_in W1 hv hk1 hak g0 g3 rfl ?_ ?_
   ·intro A' h2
    simp only [BS, BC, h2]
    exact ⟨_, rfl, _, _, .weak Ab, lr _, rfl, _, rfl, by simp⟩
   ·intro A' h0 h3 hall
    by_cases hb : l[k].ml.length > 8
    ·simp (disch:=omega) only [BX, Aa, ↓reduceIte, nE, BM, h0, h3, hv.idx hat, deF0, hms.len, lmp, h20, decide_eq_true hb]
     exact ⟨_, rfl, _, _, .weak Ab, lr _, rfl, _, rfl, by simp⟩
    ·by_cases hb' : l[k].rl.length > 8
     ·simp (disch:=omega) only [BX, Aa, ↓reduceIte, nE, reduceCtorEq, BM, h0, h3, hv.idx hat, deF0, O9, hms.len, lmp, h20, decide_eq_false hb, i1.len, i2, h20', decide_eq_true hb']
      exact ⟨_, rfl, _, _, .weak Ab, lr _, rfl, _, rfl, by simp⟩
     ·simp (disch:=omega) only [BX, Aa, ↓reduceIte, nE, reduceCtorEq, BM, h0, h3, hv.idx hat, deF0, O9, hms.len, lmp, h20, decide_eq_false hb, i1.len, i2, h20', decide_eq_false hb', Ah]
      refine ⟨k + 1, ⟨tt, tt, tt, tt, tt, fun j hj hjk => ?_⟩, by omega, lr _⟩
      by_cases e : j = k
      ·subst e
       refine ⟨by omega, by omega, fun o ho => ?_⟩
       obtain ⟨m, hm, rfl⟩ := List.mem_iff_getElem.1 ho
       exact hall m hm (by omega)
      ·exact ge j hj (by omega)
  ·simp (disch:=omega) only [c_few_0, BX, Aa, ↓reduceIte, nE, reduceCtorEq, g0, g3, hv.len, lmp, clt, hk1, h70, hk2, dT, dF, h60]
   exact ⟨_, rfl, _, _, .weak Ab, lr _, rfl, _, rfl, fun h => by simp at h; omega⟩
 ·simp (disch:=omega) only [c_few_0, BX, Aa, ↓reduceIte, nE, reduceCtorEq, BM, g0, g3, hv.len, lmp, clt, hk1, dF, h60]
  refine ⟨_, rfl, _, _, .weak Ab, lr _, rfl, _, rfl, fun h => ⟨by simpa using h, fun a ha => ?_⟩⟩
  obtain ⟨j, hj, rfl⟩ := List.mem_iff_getElem.1 ha
  exact ge j hj (by omega)
theorem minM {W : AW} {K : V → AW → Prop} {a b m : Nat} : sem E (.len 5 m) [.int .i64 (a : Int), .int .i64 (b : Int)] W K = K (.int .i64 ((min a b : Nat) : Int)) W := by
 have e : (if (b : Int) < (a : Int) then (b : Int) else (a : Int)) = ((min a b : Nat) : Int) := by split <;> omega
 simp only [sem, e]
 exact propext ⟨fun h => h.2, fun h => ⟨tt, h⟩⟩
theorem isS.slc2 {s : Nat} {v : V} {xs : List V} (h : isS s v xs) {a b : Nat} (hab : a ≤ b) (hb : b ≤ xs.length) : ∃ v', isS s v' ((xs.take b).drop a) ∧ ∀ {W : AW} {K : V → AW → Prop}, sem E (.slc s true true false) [v, .int .i64 (a : Int), .int .i64 (b : Int)] W K = K v' W := by
 rcases h with ⟨rfl, rfl⟩ | ⟨rfl, rfl⟩ | ⟨f, rfl⟩
 ·obtain rfl : b = 0 := by simpa using hb
  obtain rfl : a = 0 := by omega
  exact ⟨.nilsl, .inl ⟨rfl, by simp⟩, fun {W K} => rfl⟩
 ·obtain rfl : b = 0 := by simpa using hb
  obtain rfl : a = 0 := by omega
  exact ⟨.slz, .inr (.inl ⟨rfl, by simp⟩), fun {W K} => rfl⟩
 ·refine ⟨_, .mk (f := f && b == xs.length), fun {W K} => ?_⟩
  simp [sem, rsem, tsem, slcOp, natV, slcV, hb, hab]
theorem manyD_c (hP : PE E) (W : AW) {v : V} {l : List De} (hv : isS 3 v (l.map De.V)) (ha : ∀ a ∈ l, a.ok) (hl : l.length < 2 ^ 48) :
  ACalls E 22 [v] W fun Y W' => W' = W ∧ ∃ b, Y = .bool b ∧ (b = true → l.length ≤ 30 ∧ ∀ a ∈ l, a.few) := by
 refine ACalls.of hP Tryz.func22 Xam (by simp) fun _ hok => ?_
 simp only [c_many, BS, Am]
 rw [Ai]
 refine alp (fun (k : Nat) A1 W1 => A1 0 = some v ∧ A1 3 = some (.int .i64 k) ∧ k ≤ l.length + 5 ∧ k ≤ 40 ∧ k % 5 = 0 ∧ W1 = W ∧ ∀ j (hj : j < l.length), j < k → l[j].few) (fun k => 45 - k) 0
  ⟨rfl, rfl, Nat.zero_le _, by omega, rfl, rfl, fun _ _ h => by omega⟩ ?_
 rintro k A1 W1 ⟨g0, g3, gk, gk9, gm, rfl, ge⟩ _
 have h60 : decide ((l.length : Int) ≤ 30) = decide (l.length ≤ 30) := by simp; omega
 have h70 : decide ((k : Int) < 40) = decide (k < 40) := by simp; omega
 have hlt : decide ((k : Int) < (l.length : Int)) = decide (k < l.length) := by simp
 by_cases hk1 : k < l.length
 ·by_cases hk2 : k < 40
  ·have w5 : IntKind.i64.wrap ((k : Int) + 5) = ((k + 5 : Nat) : Int) := IntWalk.i64_in _ (by omega)
   obtain ⟨v', c1, c2⟩ := hv.slc2 (E := E) (a := k) (b := min (k + 5) l.length) (by omega) (by rw [lmp]; omega)
   have c1' : isS 3 v' (((l.take (min (k + 5) l.length)).drop k).map De.V) := by rw [List.map_drop, List.map_take]; exact c1
   simp only [c_many_0, BX, Aa, ↓reduceIte, nE, reduceCtorEq, g0, g3, hv.len, lmp, hlt, hk1, h70, hk2, dT, w5, minM, c2, c1'.frz]
   refine (fewD_c hP W1 c1' (fun a h => ha a (List.mem_of_mem_take (List.mem_of_mem_drop h))) (by rw [List.length_drop, ltk]; omega)).mono ?_
   rintro _ _ ⟨rfl, b, rfl, hb⟩
   cases b with
   | false =>
    simp only [BX, ↓reduceIte, BD]
    exact ⟨_, rfl, _, _, .weak Ab, lr _, rfl, _, rfl, by simp⟩
   | true =>
    simp only [BS, BC, Ac, ↓reduceIte, nE, reduceCtorEq, BD, g0, g3, w5]
    refine ⟨k + 5, ⟨tt, tt, by omega, by omega, by omega, tt, fun j hj hjk => ?_⟩, by omega, lr _⟩
    by_cases e : j < k
    ·exact ge j hj e
    ·refine (hb rfl).2 _ (List.mem_iff_getElem.2 ⟨j - k, by rw [List.length_drop, ltk]; omega, ?_⟩)
     rw [List.getElem_drop, List.getElem_take]
     congr 1
     omega
  ·simp only [c_many_0, BX, Aa, ↓reduceIte, nE, reduceCtorEq, g0, g3, hv.len, lmp, hlt, hk1, h70, hk2, dT, dF, h60]
   exact ⟨_, rfl, _, _, .weak Ab, lr _, rfl, _, rfl, fun h => by simp at h; omega⟩
 ·simp only [c_many_0, BX, Aa, ↓reduceIte, nE, reduceCtorEq, BM, g0, g3, hv.len, lmp, hlt, hk1, dF, h60]
  refine ⟨_, rfl, _, _, .weak Ab, lr _, rfl, _, rfl, fun h => ⟨by simpa using h, fun a ha => ?_⟩⟩
  obtain ⟨j, hj, rfl⟩ := List.mem_iff_getElem.1 ha
  exact ge j hj (by omega)
end Go.AL.S
set_option maxHeartbeats 4000000
namespace Go.AL.S
open Go Go.AL Go.Proofs Go.Sort Go.Shelf Go.RowKit
variable {E : Env}
end Go.AL.S
namespace Go.AL.S
open Go Go.AL Go.AL.SE Go.Proofs
variable {E : Env}
theorem J3 {s : Str} {k v : Int} (h : (wrR s k v).2 = true) : (wrR s k v).1 ∈ nodesR s := by
 unfold wrR at h ⊢
 cases hw : who s k v with
 | none => rw [hw] at h; cases h
 | some t =>
  rw [hw] at h
  have h2 : t.st ≠ 2 := of_decide_eq_true h
  exact List.mem_map.2 ⟨t, List.mem_filter.2 ⟨(Hu hw).1, by simpa using h2⟩, rfl⟩
theorem Hk {a b k : Int} {N : List Int} (ha : a ∈ N) (hb : b ∈ N) : ∀ x ∈ edgeP a b k, x.1 ∈ N ∧ x.2.1 ∈ N := by
 intro x hx
 unfold edgeP at hx
 split at hx
 ·cases hx
 ·rw [List.mem_singleton.1 hx]; exact ⟨ha, hb⟩
theorem Hq (s : Str) (o : Ods) : ∀ x ∈ buildP s o, x.1 ∈ nodesR s ∧ x.2.1 ∈ nodesR s := by
 intro x hx
 rcases List.mem_append.1 hx with hx | hx
 ·obtain ⟨k, _, hx⟩ := List.mem_flatMap.1 hx
  obtain ⟨y, _, hx⟩ := List.mem_flatMap.1 hx
  split at hx
  ·rename_i h; exact Hk (J3 h.1) (J3 h.2) x hx
  ·cases hx
 ·obtain ⟨t, ht, hx⟩ := List.mem_flatMap.1 hx
  unfold txnP at hx
  split at hx
  ·cases hx
  ·rename_i h2
   have htn : t.id ∈ nodesR s := List.mem_map.2 ⟨t, List.mem_filter.2 ⟨ht, by simpa using h2⟩, rfl⟩
   obtain ⟨r, _, hx⟩ := List.mem_flatMap.1 hx
   split at hx
   ·rcases List.mem_append.1 hx with hx | hx
    ·unfold lastP at hx
     split at hx
     ·split at hx
      ·rename_i h; exact Hk (J3 h) htn x hx
      ·cases hx
     ·cases hx
    ·unfold nextP at hx
     split at hx
     ·split at hx
      ·rename_i h; exact Hk htn (J3 h) x hx
      ·cases hx
     ·cases hx
   ·cases hx
theorem Xaz {s : Str} (h : SOk s) : (nodesR s).Pairwise fun a b => a < b := List.pairwise_map.2 (List.Pairwise.filter _ h.lt)
structure TK (so : Str × Ods) (k : Int) : Prop where
 ok : SOk so.1
 ol : so.2.length = 8
 id : ∀ t ∈ so.1, t.id ≤ k
 ks : ∀ j : Int, 0 ≤ j → (keyO so.2 j).length ≤ 32
theorem Sz {s : Str} {i : Int} {f : Tx → Tx} (hs : SOk s) (hid : ∀ t, (f t).id = t.id) (hf : ∀ t, t.ok → (f t).ok) : SOk (mapId s i f) := by
 refine ⟨fun t ht => ?_, Xbk hs.lt i hid⟩
 obtain ⟨x, hx, rfl⟩ := List.mem_map.1 ht
 split
 ·exact hf x (hs.ok x hx)
 ·exact hs.ok x hx
theorem V8 {st : Int} (h : 0 ≤ st ∧ st < 4) (t : Tx) (ht : t.ok) : (endT st t).ok := by
 unfold endT
 split
 ·exact ⟨ht.id0, ht.id1, ht.cl0, ht.cl1, ht.ms, ht.msl, ht.lsl, ht.ls, h⟩
 ·exact ht
theorem comT_ok {ls : List (Option (List Int))} (h : ∀ o ∈ ls, ∀ n ∈ nums o, 0 ≤ n ∧ n < 65536) (t : Tx) (ht : t.ok) : (comT ls t).ok := by
 unfold comT
 split
 ·rename_i hc
  have hc := hc.2.1
  simp only [okC, Bool.and_eq_true, decide_eq_true_eq, Bool.not_eq_true', List.any_eq_false] at hc
  refine ⟨ht.id0, ht.id1, ht.cl0, ht.cl1, ht.ms, ht.msl, hc.1, fun o ho => ⟨?_, h o ho⟩, by show (0 : Int) ≤ 1 ∧ (1 : Int) < 4; decide⟩
  have := hc.2 o ho
  simp only [longL, decide_eq_true_eq] at this
  omega
 ·exact ht
theorem Tu {s : Str} {o o' : Ods} (hs : SOk s) (ho : ∀ j : Int, 0 ≤ j → keyO o j <+: keyO o' j) {x : Ek} (hx : x ∈ buildP s o) : x ∈ buildP s o' :=
 Hp hs (fun _ _ _ => rfl) (fun _ _ h => h) ho (fun t ht r hr => ⟨t, ht, rfl, by rw [E4 hr]; decide, hr⟩) hx
theorem Yu {s : Str} {o : Ods} (hs : SOk s) (t : Tx) {x : Ek} (hx : x ∈ buildP s o) : x ∈ buildP (s ++ [t]) o := by
 refine Hp hs (fun k v h => ?_) (fun k v h => ?_) (fun j _ => List.prefix_refl _) (fun t ht r hr => ⟨t, by simp [ht], rfl, by rw [E4 hr]; decide, hr⟩) hx
 ·unfold wrR at h ⊢
  rw [T4]
  cases hw : who s k v with
  | none => rw [hw] at h; simp at h
  | some t => rfl
 ·rw [T4]
  cases hw : who s k v with
  | none => rw [hw] at h; simp at h
  | some t => rfl
theorem endD_TK {s : Str} {o : Ods} {i : Int} {d : De} (hs : SOk s) (hd : ∀ o ∈ d.rl, ∀ n ∈ nums o, 0 ≤ n ∧ n < 65536) : SOk (endD s i d) ∧ (∀ t ∈ endD s i d, ∃ x ∈ s, t.id = x.id) ∧ ∀ x ∈ buildP s o, x.1 ≠ i → x.2.1 ≠ i → x ∈ buildP (endD s i d) o := by
 have hm : ∀ {f : Tx → Tx}, (∀ t, (f t).id = t.id) → ∀ t ∈ mapId s i f, ∃ x ∈ s, t.id = x.id := fun {f} hid t ht => by
  obtain ⟨x, hx, rfl⟩ := List.mem_map.1 ht
  refine ⟨x, hx, ?_⟩
  split <;> simp [hid]
 unfold endD
 split
 ·rw [Re hs.lt]
  exact ⟨Sz hs (Pb _) (comT_ok hd), hm (Pb _), fun x hx _ _ => Np hs i (Pb _) (comT_ms _) (comT_st _) (fun t r hr => Tr hr) (fun j _ => List.prefix_refl _) hx⟩
 ·split
  ·by_cases he : (endR s i 2).2 = 0
   ·obtain ⟨t, c1, c2⟩ := endR_ok.1 he
    rw [Q8 hs.lt]
    exact ⟨Sz hs (Ih _) (V8 (by decide)), hm (Ih _), fun x hx h1 h2 => (Rk hs.lt c1 c2).2 ⟨hx, h1, h2⟩⟩
   ·rw [endR_err he]
    exact ⟨hs, fun t ht => ⟨t, ht, rfl⟩, fun x hx _ _ => hx⟩
  ·split
   ·rw [Q8 hs.lt]
    exact ⟨Sz hs (Ih _) (V8 (by decide)), hm (Ih _), fun x hx _ _ => Np hs i (Ih _) (O2 _) endT3_st (fun t r hr => Tl hr) (fun j _ => List.prefix_refl _) hx⟩
   ·exact ⟨hs, fun t ht => ⟨t, ht, rfl⟩, fun x hx _ _ => hx⟩
theorem Ob {s : Str} {a : Int} (h : a ∈ nodesR s) : ∃ t ∈ s, a = t.id := by
 obtain ⟨t, ht, rfl⟩ := List.mem_map.1 h
 exact ⟨t, (List.mem_filter.1 ht).1, rfl⟩
theorem TK.step {so : Str × Ods} {k : Nat} {d : De} (h : TK so k) (hd : d.ok) (hk : k + 1 < 65536) : TK (stepD so ((k + 1 : Nat) : Int) d) ((k + 1 : Nat) : Int) ∧ ∀ x ∈ buildP so.1 so.2, x ∈ buildP (stepD so ((k + 1 : Nat) : Int) d).1 (stepD so ((k + 1 : Nat) : Int) d).2 := by
 obtain ⟨s, o⟩ := so
 obtain ⟨hs, ho, hid, hks⟩ := h
 simp only at hs ho hid hks
 unfold stepD
 simp only
 by_cases he : (beginR s 0 ((k + 1 : Nat) : Int) d.ml).2 = 0
 ·rw [if_neg (fun h => h he)]
  have hb : okB 0 d.ml = true ∧ lastId s < ((k + 1 : Nat) : Int) ∧ (beginR s 0 ((k + 1 : Nat) : Int) d.ml).1 = s ++ [⟨((k + 1 : Nat) : Int), 0, d.ml, [], 0⟩] := by
   unfold beginR at he ⊢
   split at he
   ·rename_i h1
    split at he
    ·cases he
    ·rename_i h2
     split at he
     ·rename_i h3
      rw [if_pos h1, if_neg h2, if_pos h3]
      exact ⟨h1, by omega, rfl⟩
     ·cases he
   ·cases he
  obtain ⟨b1, b2, b3⟩ := hb
  rw [b3]
  simp only [okB, Bool.and_eq_true, decide_eq_true_eq] at b1
  have hs1 : SOk (s ++ [⟨((k + 1 : Nat) : Int), 0, d.ml, [], 0⟩]) := app_ok hs ⟨by simp only; omega, by simp only; omega, Int.le_refl _, by show (0 : Int) < 256; decide, hd.mi, b1.1.1.2, by simp, by simp, by show (0 : Int) ≤ 0 ∧ (0 : Int) < 4; decide⟩ b2
  obtain ⟨e1, e2, e3⟩ := endD_TK (o := o) (i := ((k + 1 : Nat) : Int)) (d := d) hs1 hd.ns
  generalize endD (s ++ [⟨((k + 1 : Nat) : Int), 0, d.ml, [], 0⟩]) ((k + 1 : Nat) : Int) d = s2 at e1 e2 e3 ⊢
  have hr : ∀ r ∈ readsR ((find s2 ((k + 1 : Nat) : Int)).getD Tx.zero), 0 ≤ r.1 ∧ (nums r.2).length ≤ 32 := by
   cases hf : find s2 ((k + 1 : Nat) : Int) with
   | none => intro r hr; simp [readsR, Tx.zero] at hr
   | some t => exact fun r hr => ⟨(Fo (Gx e1 hf).2.2.ms r hr).1, (F5 (Gx e1 hf).2.2 r hr).1⟩
  obtain ⟨t1, t2, t3, _⟩ := Kl ho fun r h => (hr r h).1
  refine ⟨⟨e1, t1, fun t ht => ?_, fun j hj => ?_⟩, fun x hx => Tu e1 t2 (e3 x (Yu hs _ hx) ?_ ?_)⟩
  ·obtain ⟨x, hx, e⟩ := e2 t ht
   rw [e]
   rcases List.mem_append.1 hx with hx | hx
   ·have := hid x hx; omega
   ·rw [List.mem_singleton.1 hx]; exact Int.le_refl _
  ·rcases t3 j hj with e | ⟨r, h1, _, h2⟩
   ·rw [e]; exact hks j hj
   ·rw [← h2]; exact (hr r h1).2
  ·obtain ⟨t, ht, e⟩ := Ob (Hq s o x hx).1
   have := hid t ht
   rw [e]; omega
  ·obtain ⟨t, ht, e⟩ := Ob (Hq s o x hx).2
   have := hid t ht
   rw [e]; omega
 ·rw [if_pos he]
  have hb : (beginR s 0 ((k + 1 : Nat) : Int) d.ml).1 = s := by
   rcases Pf s 0 ((k + 1 : Nat) : Int) d.ml with ⟨_, h⟩ | ⟨h, _⟩
   ·exact h
   ·exact absurd h he
  rw [hb]
  exact ⟨⟨hs, ho, fun t ht => by have := hid t ht; omega, hks⟩, fun x hx => hx⟩
theorem Xaa : ∀ j : Int, keyO os0 j = [] := by
 intro j
 unfold keyO os0
 split
 ·rfl
 ·rename_i h
  have : j.toNat < 8 := by omega
  generalize j.toNat = n at this
  rcases n with _ | _ | _ | _ | _ | _ | _ | _ | n <;> first | rfl | omega
theorem Wo {l : List De} {k : Nat} (hk : k < l.length) : toldR (l.take (k + 1)) = stepD (toldR (l.take k)) ((k + 1 : Nat) : Int) l[k] := Me hk
theorem Ua {l : List De} (h : ∀ d ∈ l, d.ok) (hl : l.length < 65535) : ∀ k : Nat, k ≤ l.length → TK (toldR (l.take k)) k
 | 0, _ => ⟨⟨by simp [toldR], by simp [toldR]⟩, rfl, by simp [toldR], fun j _ => by show (keyO os0 j).length ≤ 32; rw [Xaa]; simp⟩
 | k + 1, hk => by
  rw [Wo (by omega)]
  exact ((Ua h hl k (by omega)).step (h _ (gmm _)) (by omega)).1
theorem Yk {s : Str} {os : Ods} (k : Int) (h : (keyO os k).length ≤ 32) : (keyP s os k).length ≤ 32 := by
 have := C3 (f := kf s k) (n := 1) (l := (keyO os k).zip (keyO os k).tail) fun x _ => by
  unfold kf
  split
  ·exact Gz _ _ _
  ·simp
 have h2 : ((keyO os k).zip (keyO os k).tail).length ≤ 32 := by rw [List.length_zip]; omega
 have h3 : keyP s os k = ((keyO os k).zip (keyO os k).tail).flatMap (kf s k) := rfl
 rw [h3]; omega
theorem TK.len {so : Str × Ods} {k : Int} (h : TK so k) : (buildP so.1 so.2).length < 2 ^ 21 := by
 have h1 := C3 (f := fun (k : Nat) => keyP so.1 so.2 (k : Int)) (n := 32) (l := List.range 8) fun k _ => Yk k (h.ks k (by omega))
 have h2 := C3 (f := txnP so.1 so.2) (n := 16) (l := so.1) fun t ht => Pp (h.ok.ok t ht)
 have h3 := Kq h.ok
 have h4 : (List.range 8).length = 8 := rfl
 rw [buildP, keysP, lap]
 omega
theorem SOk.nodes {s : Str} (h : SOk s) : ∀ x ∈ nodesR s, 0 ≤ x ∧ x < 65536 := fun x hx => by
 obtain ⟨t, ht, rfl⟩ := Ob hx
 exact ⟨(h.ok t ht).id0, (h.ok t ht).id1⟩
theorem Pt {es : List Ed} {N : List Int} {k own : Int} (h : ownR k = some own) : shortR es N k = if bestR es N own = [] then none else some (bestR es N own, kindsR es own (bestR es N own)) := by
 unfold shortR
 rw [h]
def clsR (own : Int) : Int := if own = 0 then 1 else if own = 1 then 8 else 16
theorem own_cls {own : Int} (ho : own = 0 ∨ own = 1 ∨ own = 2) : ownR (clsR own) = some own := by
 rcases ho with rfl | rfl | rfl <;> rfl
def c_lawMe_0 : AC := (.seq (.r [.m 19 5,.p 20 (.bin .lss) [.t 19,.c (.int .u8 3)]] (.w 20 0)) (.seq (.block 1 (.r [.m 24 3,.m 25 5,.b 26 (.idxa 3 1) 4 25,.u 27 (.load false 1) 26,.b 28 (.call 12) 24 27,.m 23 28,.u 29 (.ext 0) 23,.u 30 (.ext 1) 23,.p 6 (.alloc [.nilsl,.nilsl]) [],⟨none,.store 2, [.t 6,.t 29], none⟩,.m 7 30] (.r [.m 32 3,.m 33 5,.b 34 (.call 28) 32 33,.m 31 34,.u 35 (.ext 0) 31,.u 36 (.ext 1) 31,.m 8 35,.m 9 36] (.seq (.par (.step 0 (.m 37 9) (.step 1 (.u 38 (.un .not) 37) (.step 2 (.m 39 38) (.step 3 (.M 40 7 39 false) (.step 4 (.M 41 8 39 false) (.step 5 (.B 42 (.eqv true (false, [.b])) 40 41 39 false) (.step 6 (.p 43 .pick [.t 39,.T,.t 42]) (.step 7 (.m 44 43) (.step 8 (.M 45 7 44 false) (.step 9 (.M 46 45 44 false) (.step 10 (.M 47 3 46 true) (.step 11 (.M 48 5 46 true) (.step 12 (.B 49 (.idxa 3 1) 4 48 46 true) (.step 13 (.U 50 (.load false 1) 49 46 true) (.step 14 (.U 51 (.load true 2) 6 46 true) (.step 15 (.P 52 (.call 20) [.t 47,.t 50,.t 51] 46 true) (.step 16 (.U 53 (.un .not) 52 46 true) (.step 17 (.P 54 .pick [.t 46,.t 53,.F] 44 false) (.step 18 (.p 55 .pick [.t 44,.T,.t 54]) (.step 19 (.m 56 55) (.step 20 (.M 57 7 56 false) (.step 21 (.U 58 (.un .not) 57 56 false) (.step 22 (.M 59 58 56 false) (.step 23 (.U 60 (.fld 0) 6 59 true) (.step 26 (.U 63 (.fld 1) 6 59 true) (.step 24 (.U 61 (.load false 1) 60 59 true) (.step 25 (.U 62 (.len 1 0) 61 59 true) (.step 27 (.U 64 (.load false 1) 63 59 true) (.step 28 (.U 65 (.len 1 0) 64 59 true) (.step 29 (.B 66 (.bin .add) 62 65 59 true) (.step 30 (.P 67 (.bin .gtr) [.t 66,.i 0] 59 true) (.step 31 (.P 68 .pick [.t 59,.t 67,.F] 56 false) (.step 32 (.p 69 .pick [.t 56,.T,.t 68]) .done)))))))))))))))))))))))))))))))))) (.cond (.t 69) (.r [.v 2 (.bool false)] .ret) .skip))))) (.reg [.m 21 5,.p 22 (.bin .add) [.t 21,.c (.int .u8 1)],.m 5 22])))
def c_lawMe : AC := (.r [.v 2 (.bool false)] (.seq (.r [.m 10 0,.u 11 (.call 22) 10,.u 12 (.un .not) 11] (.cond (.t 12) (.r [.p 13 (.call 9) [],.m 2 13] .ret) .skip)) (.r [.m 14 0,.u 15 (.call 10) 14,.m 3 15] (.seq (.r [.m 16 3,.p 17 (.eqn false 0) [.t 16,.c (.nilptr)]] (.cond (.t 17) (.r [.v 2 (.bool false)] .ret) .skip)) (.r [.p 18 (.build [.int .u8 0,.int .u8 0,.int .u8 0] [(0, 1), (1, 1), (2, 1)]) [.c (.int .u8 1),.c (.int .u8 8),.c (.int .u8 16)],.p 4 (.alloc [.int .u8 0,.int .u8 0,.int .u8 0]) [],⟨none,.store 3, [.t 4,.t 18], none⟩] (.seq (.r [.v 5 (.int .u8 0)] (.block 0 (.loop c_lawMe_0))) (.r [.p 70 (.call 9) [],.m 2 70] .ret)))))))
theorem Xs : compF Tryz.prog Tryz.f7 ⟨false, false, []⟩ = some (c_lawMe, [.tmp 2], 71) := by kernel_rfl
theorem Lm {a b k : Int} : ∀ x ∈ edgeP a b k, x.1 ≠ x.2.1 := by
 intro x hx
 unfold edgeP at hx
 split at hx
 ·cases hx
 ·rename_i h; rw [List.mem_singleton.1 hx]; exact h
theorem build_ne (s : Str) (o : Ods) : ∀ x ∈ buildP s o, x.1 ≠ x.2.1 := by
 intro x hx
 rcases List.mem_append.1 hx with hx | hx
 ·obtain ⟨k, _, hx⟩ := List.mem_flatMap.1 hx
  obtain ⟨y, _, hx⟩ := List.mem_flatMap.1 hx
  split at hx
  ·exact Lm x hx
  ·cases hx
 ·obtain ⟨t, ht, hx⟩ := List.mem_flatMap.1 hx
  unfold txnP at hx
  split at hx
  ·cases hx
  ·obtain ⟨r, _, hx⟩ := List.mem_flatMap.1 hx
   split at hx
   ·rcases List.mem_append.1 hx with hx | hx
    ·unfold lastP at hx
     split at hx
     ·split at hx
      ·exact Lm x hx
      ·cases hx
     ·cases hx
    ·unfold nextP at hx
     split at hx
     ·split at hx
      ·exact Lm x hx
      ·cases hx
     ·cases hx
   ·cases hx
theorem eqvB {W : AW} {K : V → AW → Prop} {a b : Bool} : sem E (.eqv true (false, [.b])) [.bool a, .bool b] W K = K (.bool (a != b)) W := by
 cases a <;> cases b <;> rfl
theorem isR_c (hP : PE E) (W : AW) {g m lo : Nat} {h : V} {P : List Ek} {N : List Int} (hG : Gr W g m h P N lo) {v1 v2 : V} {ids ks : List Int} (i1 : isS 1 v1 (intsV ids)) (i2 : isS 1 v2 (u8s ks)) (hi : ∀ x ∈ ids, 0 ≤ x ∧ x < 65536) (hk : ∀ x ∈ ks, 0 ≤ x ∧ x < 256) (hl : ids.length < 2 ^ 20) (hl2 : ks.length < 2 ^ 20) (k : Int) :
  ACalls E 20 [.ptr g 0, .int .u8 k, .agg [v1, v2]] W fun Y W' => Y = .bool (isR (fun e => decide (ofEd e ∈ P)) k ids ks) ∧ W' = W :=
 cIs_c hP W _ i1 i2 hi hk hl hl2 k rfl rfl (fun _ => rfl) fun l e he => hasG_x hP _ (by rw [Ag hG.lg]; exact hG.hg) (by rw [Ag hG.lm]; exact hG.hm) (by have := hG.lg; simp only [Ar, rf]; omega) (by have := hG.lm; simp only [Ar, rf]; omega) hG.pk e he
theorem lawMe_c (hP : PE E) (hd0 : E.w0.drawn = 0) (W : AW) {v : V} {l : List De} (hv : isS 3 v (l.map De.V)) (ha : ∀ d ∈ l, d.ok) (hl : l.length < 2 ^ 48) :
  ACalls E 7 [v] W fun Y _ => Y = .bool true := by
 refine ACalls.of hP Tryz.func7 Xs (by simp) fun _ hok => ?_
 refine Ae hok ?_
 simp only [BZ, ↓reduceIte, reduceCtorEq, c_lawMe, hv.frz]
 refine (manyD_c hP _ hv ha hl).mono ?_
 rintro _ _ ⟨rfl, b, rfl, hb⟩
 cases b with
 | false =>
  simp only [BX, ↓reduceIte, BD]
  refine pc (T3 hP hd0 _) ?_
  simp only [BS, BC, ↓reduceIte, ]
  exact ⟨_, rfl, _, W, Aw hok rfl, lr _, rfl⟩
 | true =>
  obtain ⟨h30, hf⟩ := hb rfl
  simp only [BX, ↓reduceIte, reduceCtorEq, BD, hv.frz]
  have hd : ∀ d ∈ l, d.ok ∧ d.small := fun d h => ⟨ha d h, (hf d h).small⟩
  refine (Ze hP _ hv hd (by omega)).mono ?_
  rintro _ W1 ⟨g, m, h, rfl, hG, hS, hE⟩
  rw [← G0 hok] at hE
  have en : eqNil 0 (.ptr g 0) .nilptr = some false := rfl
  rw [hE.cl.start]
  simp only [BX, ↓reduceIte, nE, BM, BD, nA, nL, nT, en]
  have hTK := Ua ha (by omega) l.length (lr _)
  rw [tkl] at hTK
  have hlen : (edL (buildP (toldR l).1 (toldR l).2)).length < 2 ^ 30 := by have := hTK.len; have := O4 (buildP (toldR l).1 (toldR l).2); omega
  have hNs := Xaz hS
  have hPN := Hq (toldR l).1 (toldR l).2
  have hne := build_ne (toldR l).1 (toldR l).2
  have hN := hS.nodes
  generalize buildP (toldR l).1 (toldR l).2 = P at hG hlen hPN hne
  generalize nodesR (toldR l).1 = N at hG hNs hPN hN
  obtain ⟨WB, hWB⟩ : ∃ WB, WB = X W1 W1.nx [.row [.int .u8 1, .int .u8 8, .int .u8 16]] := ⟨_, rfl⟩
  have gA : WB.get (rf W1.nx 0) = some (.row [.int .u8 1, .int .u8 8, .int .u8 16]) := by rw [hWB, Ap]; rfl
  have lA : rf W1.nx 0 < WB.nx := by rw [hWB]; simp [Ar, rf]
  have hE0 : Ex W1 WB := by rw [hWB]; exact (Ex.refl hE.cl).X
  have hEB := hE.trans hE0
  have hGB := hG.ex hE0
  rw [← hWB]
  clear hWB
  generalize rf W1.nx 0 = ra at gA lA
  have hPe : ∀ e ∈ edL P, e.fr ∈ N ∧ e.to ∈ N := fun e he => hPN _ (edL_mem.1 he)
  have hk4 : ∀ e ∈ edL P, 0 ≤ e.fr ∧ e.fr < 65536 ∧ 0 ≤ e.to ∧ e.to < 65536 ∧ 0 ≤ e.kd ∧ e.kd < 256 := fun e he => edOk hG.pk he
  have hlp : ∀ e ∈ edL P, e.fr ≠ e.to := fun e he => hne _ (edL_mem.1 he)
  rw [Ai]
  refine alp (fun (i : Nat) A1 W3 => A1 3 = some (.ptr g 0) ∧ A1 4 = some (.ptr ra 0) ∧ A1 5 = some (.int .u8 (i : Nat)) ∧ i ≤ 3 ∧ Ex WB W3) (fun i => 3 - i) 0
   ⟨tt, tt, tt, by omega, Ex.refl hEB.cl⟩ ?_
  rintro i A1 W3 ⟨q3, q4, q5, qi, qE⟩ hbs
  have hi3 : decide (((i : Nat) : Int) < 3) = decide (i < 3) := by simp; omega
  by_cases hi : i < 3
  ·have ho : ((i : Nat) : Int) = 0 ∨ ((i : Nat) : Int) = 1 ∨ ((i : Nat) : Int) = 2 := by omega
   have hcls := own_cls ho
   have gA3 := (qE.get _ lA).trans gA
   have hxa : ∀ (W : AW) (K : V → AW → Prop), sem E (.idxa 3 1) [.ptr ra 0, .int .u8 (i : Nat)] W K = K (.ptr ra i) W := fun W K => by
    obtain rfl | rfl | rfl : i = 0 ∨ i = 1 ∨ i = 2 := by omega
    all_goals simp [sem, rsem, tsem]
   have hld : ∀ l (K : V → AW → Prop), sem E (.load false 1) [.ptr ra i] (X W3 W3.nx l) K = K (.int .u8 (clsR (i : Nat))) (X W3 W3.nx l) := fun l K => by
    have : (X W3 W3.nx l).get ra = some (.row [.int .u8 1, .int .u8 8, .int .u8 16]) := by rw [Ag (by have := qE.nx; omega)]; exact gA3
    obtain rfl | rfl | rfl : i = 0 ∨ i = 1 ∨ i = 2 := by omega
    all_goals simp [sem, rsem, this, clsR, partV]
   have hG3 := hGB.ex qE
   have w8 : IntKind.u8.wrap (((i : Nat) : Int) + 1) = ((i + 1 : Nat) : Int) := by
    obtain rfl | rfl | rfl : i = 0 ∨ i = 1 ∨ i = 2 := by omega
    all_goals rfl
   have hiff := best_iff (es := edL P) (N := N) (own := ((i : Nat) : Int)) (ks := kin (kindsTo (i : Nat))) (fun e he => kin_to ho (hk4 e he).2.2.2.2.1) hPe
   refine Au qE.cl ?_
   simp only [BX, ↓reduceIte, nE, c_lawMe_0, q3, q4, q5, hi3, hi, dT, hxa, hld]
   refine (Rb hP _ (hG3.ex ((Ex.refl qE.cl).X)) hN (by omega) _).mono ?_
   rintro _ _ ⟨v1, v2, rfl, i1, i2, rfl⟩
   by_cases h0 : bestR (edL P) N (i : Nat) = []
   ·have hs : shortR (edL P) N (clsR (i : Nat)) = none := by rw [Pt hcls, if_pos h0]
    rw [hs] at i1 i2 ⊢
    simp only [BZ, ↓reduceIte, nE, BM, BD, nA, nL, nT, q3, q5, i1.one, i2.one]
    refine (Mc hP _ (hG3.ex ((Ex.refl qE.cl).X)) hNs hPN ho).mono ?_
    rintro _ _ ⟨rfl, b, rfl, hb'⟩
    obtain rfl : b = false := by
     cases b with
     | false => rfl
     | true => exact absurd h0 (hiff.2 (hb'.1 rfl))
    simp only [BS, Am, ↓reduceIte, nE, BD]
    repeat (rw [Aa]; simp only [BX, ↓reduceIte, nE, BM, BD, q3, q4, q5, eqvB, Option.isSome_none, bne_self_eq_false, i1.len, i2.len, Al, w8])
    repeat (rw [Aa]; simp only [BX, ↓reduceIte, nE, reduceCtorEq, BM, BD, nA, nL, nT, Nat.reduceMul, Ei, Ce, Ej, Ca, H9, Ia, q3, q4, q5, w8])
    exact ⟨i + 1, ⟨tt, tt, tt, hi, qE.trans (Ex.refl qE.cl).X⟩, by omega, by have := qE.nx; simp only [rf]; omega⟩
   ·have hs : shortR (edL P) N (clsR (i : Nat)) = some (bestR (edL P) N (i : Nat), kindsR (edL P) (i : Nat) (bestR (edL P) N (i : Nat))) := by rw [Pt hcls, if_neg h0]
    have hsho := best_sho hNs hPe (fun e he => ⟨(hk4 e he).2.2.1, (hk4 e he).2.2.2.1⟩) hlp h0
    have hbN : ∀ x ∈ bestR (edL P) N (i : Nat), x ∈ N := fun x hx => by
     obtain ⟨j, hj, rfl⟩ := List.getElem_of_mem hx
     obtain ⟨e, e1, _, e3, _⟩ := hsho.ed j hj
     rw [← e3]
     exact (hPe e e1).1
    have hbt : (bestR (edL P) N (i : Nat)).length < 2 ^ 20 := Nat.lt_of_le_of_lt (Cc (List.nodup_iff_pairwise_ne.2 (List.pairwise_iff_getElem.2 fun a b ha hb hab => hsho.nd a b hab hb)) hbN) hG.nl
    have hbm : ∀ x ∈ bestR (edL P) N (i : Nat), 0 ≤ x ∧ x < 65536 := fun x hx => by
     exact hN x (hbN x hx)
    have hkl := Mz (edL P) (i : Nat) (bestR (edL P) N (i : Nat))
    have hkm : ∀ x ∈ kindsR (edL P) (i : Nat) (bestR (edL P) N (i : Nat)), 0 ≤ x ∧ x < 256 := fun x hx => by
     obtain ⟨j, hj, rfl⟩ := List.getElem_of_mem hx
     obtain ⟨k, k1, k2, k3⟩ := Lb hsho (i := j) (by omega)
     rw [gEg hj] at k1
     rw [Option.some.inj k1]
     have := (hk4 _ k3).2.2.2.2
     exact this
    have hr := isR_sho hsho hcls (f := fun e => decide (ofEd e ∈ P)) fun e => decide_eq_decide.2 edL_mem.symm
    rw [hs] at i1 i2 ⊢
    rw [Option.getD_some] at i1 i2
    generalize bestR (edL P) N (i : Nat) = best at i1 i2 hbt hbm hkl hkm hr hiff h0
    generalize kindsR (edL P) (i : Nat) best = kbest at i1 i2 hkl hkm hr
    simp only at i1 i2
    simp only [BZ, ↓reduceIte, nE, BM, BD, nA, nL, nT, q3, q5, i1.one, i2.one]
    refine (Mc hP _ (hG3.ex ((Ex.refl qE.cl).X)) hNs hPN ho).mono ?_
    rintro _ _ ⟨rfl, b, rfl, hb'⟩
    obtain rfl : b = true := hb'.2 (hiff.1 h0)
    simp only [BS, Am, ↓reduceIte, nE, BD]
    repeat (rw [Aa]; simp only [BS, BC, ↓reduceIte, nE, BM, BD, nA, nL, q3, q4, q5, eqvB, Option.isSome_some, bne_self_eq_false, hxa, hld])
    refine pc (isR_c hP _ (hG3.ex ((Ex.refl qE.cl).X)) i1 i2 hbm hkm hbt (by omega) _) ?_
    rw [hr]
    simp only [BS]
    repeat (rw [Aa]; simp only [BS, BC, Ac, ↓reduceIte, nE, BM, BD, q3, q4, q5, w8])
    repeat (rw [Aa]; simp only [BX, ↓reduceIte, nE, reduceCtorEq, BM, BD, nA, nL, nT, Nat.reduceMul, Ei, Ce, Ej, Ca, H9, Ia, q3, q4, q5, w8])
    exact ⟨i + 1, ⟨tt, tt, tt, hi, qE.trans (Ex.refl qE.cl).X⟩, by omega, by have := qE.nx; simp only [rf]; omega⟩
  ·simp only [BX, ↓reduceIte, c_lawMe_0, q5, hi3, hi, dF]
   refine pc (T3 hP hd0 _) ?_
   simp only [BS, BC, ↓reduceIte, ]
   exact ⟨_, rfl, _, W, .weak (Aj hok rfl fun y hy => (hEB.trans qE).get y hy), lr _, rfl⟩
end Go.AL.S
namespace Go.AL
open Go Go.AL Go.Proofs
variable {E : Env}
theorem calls_inp0 {P : Program} {f : FuncId} {W : World} {vs : List V} {ws : List Value} (hr : RelL (S.gIn W) vs ws) (h : ACalls (S.Env.inp P { W with drawn := 0 }) f vs AW.empty fun Y _ => Y = .bool true) :
  Calls P f ws.toArray W fun e w' => e = .returned (.bool true) ∧ RowKit.Below W.heap.size W w' := by
 have hW : RelW (S.Env.inp P { W with drawn := 0 }) (S.gIn W) W AW.empty := (S.Env.inp_rel P { W with drawn := 0 }).grow ⟨⟨rfl, rfl, rfl, lr _, fun _ _ => rfl⟩, Nat.zero_le _⟩ (fun _ _ => rfl) (lr _)
 refine (h.2 (S.Env.inp_sound P _) _ _ ws hW hr).mono ?_
 rintro e w' ⟨v, γ', Y, W', rfl, _, _, h4, h5, rfl⟩
 cases h5
 have hb := h4.below.row
 exact ⟨rfl, ⟨hb.os, hb.tape, hb.output, hb.size, hb.block⟩⟩
end Go.AL
namespace Go.AL.S
open Go Go.AL Go.RowKit
mutual
def Sh.tyB (P : Program) : Sh → TypeId → Bool
 | .bool, t => (match P.underlying t with | some .bool => true | _ => false) && decide (P.cellsOf t = 1)
 | .int k, t => (match P.underlying t with | some (.int k') => decide (k' = k) | _ => false) && decide (P.cellsOf t = 1)
 | .sl e, t => (match P.underlying t with | some (.slice te) => e.tyB P te && decide (0 < e.n) && decide (0 < P.bytesOf te) | _ => false) && decide (P.cellsOf t = 1)
 | .st l, t => (match P.underlying t with | some (.struct fs) => decide (P.cellsOf t = Sh.nL l) && Sh.tyLB P l 0 fs.toList | _ => false)
def Sh.tyLB (P : Program) : List Sh → Nat → List Field → Bool
 | [], _, [] => true
 | s :: l, off, f :: r => decide (f.offset = off) && s.tyB P f.type && Sh.tyLB P l (off + s.n) r
 | _, _, _ => false
end
mutual
theorem Sh.ty_of {P : Program} : ∀ {s : Sh} {t : TypeId}, s.tyB P t = true → s.Ty P t
 | .bool, t, h => by
  simp only [Sh.tyB, Bool.and_eq_true, decide_eq_true_eq] at h
  refine ⟨?_, h.2⟩
  have h1 := h.1
  split at h1
  ·assumption
  ·cases h1
 | .int k, t, h => by
  simp only [Sh.tyB, Bool.and_eq_true, decide_eq_true_eq] at h
  refine ⟨?_, h.2⟩
  have h1 := h.1
  split at h1
  ·rename_i k' hk; rw [decide_eq_true_eq] at h1; rw [hk, h1]
  ·cases h1
 | .sl e, t, h => by
  simp only [Sh.tyB, Bool.and_eq_true, decide_eq_true_eq] at h
  have h1 := h.1
  split at h1
  ·rename_i te hk
   simp only [Bool.and_eq_true, decide_eq_true_eq] at h1
   exact ⟨te, hk, Sh.ty_of h1.1.1, h1.1.2, h.2, h1.2⟩
  ·cases h1
 | .st l, t, h => by
  simp only [Sh.tyB] at h
  split at h
  ·rename_i fs hk
   simp only [Bool.and_eq_true, decide_eq_true_eq] at h
   exact .inl ⟨fs, hk, h.1, Sh.tyL_of h.2⟩
  ·cases h
theorem Sh.tyL_of {P : Program} : ∀ {l : List Sh} {off : Nat} {fs : List Field}, Sh.tyLB P l off fs = true → Sh.TyL P l off fs
 | [], _, [], _ => rfl
 | s :: l, off, f :: r, h => by
  simp only [Sh.tyLB, Bool.and_eq_true, decide_eq_true_eq] at h
  exact ⟨f, r, rfl, h.1.1, Sh.ty_of h.1.2, Sh.tyL_of h.2⟩
 | [], _, _ :: _, h => by simp [Sh.tyLB] at h
 | _ :: _, _, [], h => by simp [Sh.tyLB] at h
end
theorem Kz {γ : G} : ∀ {a b : List V} {l m : List Value}, RelL γ a l → RelL γ b m → RelL γ (a ++ b) (l ++ m)
 | [], _, _, _, h, h' => by rw [show _ = ([] : List Value) from h]; exact h'
 | x :: a, b, _, m, ⟨v, l', e, h1, h2⟩, h' => ⟨v, l' ++ m, by rw [e]; rfl, h1, Kz h2 h'⟩
theorem P7 {γ : G} : ∀ {a : List V} {l : List Value}, RelL γ a l → l.length = a.length
 | [], l, h => by obtain rfl : l = [] := h; rfl
 | x :: a, _, ⟨v, l', e, _, h2⟩ => by rw [e, lcs, lcs, P7 h2]
theorem el_of {γ : G} {e : Sh} {ws : List V} {l : List Value} (h : e.Is ws) (hr : RelL γ ws l) : ∃ v : Value, v.cells.toList = l ∧ v.cells.size = e.n ∧ RelV γ (e.val ws) v := by
 have hl := (P7 hr).trans h.len
 cases e with
 | st sh => exact ⟨.agg l.toArray, by simp [Value.cells], by simpa [Value.cells] using hl, l, rfl, hr⟩
 | bool =>
  obtain ⟨b, rfl⟩ := h
  obtain ⟨v, l', e, h1, h2⟩ := hr
  obtain rfl : l' = [] := h2
  have h1' : v = .bool b := h1
  subst h1' e
  exact ⟨_, rfl, rfl, rfl⟩
 | int k =>
  obtain ⟨n, rfl, hw⟩ := h
  obtain ⟨v, l', e, h1, h2⟩ := hr
  obtain rfl : l' = [] := h2
  have h1' : v = .int k n := h1
  subst h1' e
  exact ⟨_, rfl, rfl, rfl⟩
 | sl e' =>
  obtain ⟨x, xs, rfl, hs, _⟩ := h
  obtain ⟨v, l', e, h1, h2⟩ := hr
  obtain rfl : l' = [] := h2
  subst e
  have hc : v.cells = #[v] := by
   rcases hs with ⟨rfl, _⟩ | ⟨rfl, _⟩ | ⟨f, rfl⟩
   ·have h1' : v = .slice none 0 0 := h1
    subst h1'; rfl
   ·obtain ⟨a, rfl⟩ := h1; rfl
   ·obtain ⟨b, pre, l, post, sz, cap, _, _, rfl, _⟩ := h1; rfl
  exact ⟨v, by rw [hc], by rw [hc]; rfl, h1⟩
theorem Ur {γ : G} {e : Sh} : ∀ (m : Nat) (l : List Value), l.length = m * e.n → (∀ i, i < m → ∃ ws, e.Is ws ∧ RelL γ ws ((l.drop (i * e.n)).take e.n)) →
  ∃ xs, xs.length = m ∧ RelE γ e.n xs l ∧ ∀ x ∈ xs, ∃ ws, e.Is ws ∧ x = e.val ws
 | 0, l, hl, _ => by
  have : l = [] := List.length_eq_zero_iff.1 (by omega)
  subst this
  exact ⟨[], rfl, rfl, by simp⟩
 | m + 1, l, hl, h => by
  obtain ⟨ws, h1, h2⟩ := h 0 (by omega)
  rw [Nat.zero_mul, List.drop_zero] at h2
  obtain ⟨v, hv1, hv2, hv3⟩ := el_of h1 h2
  have hl' : (l.drop e.n).length = m * e.n := by
   rw [List.length_drop, hl, Nat.add_mul]; omega
  obtain ⟨xs, x1, x2, x3⟩ := Ur m (l.drop e.n) hl' fun i hi => by
   obtain ⟨ws, a, b⟩ := h (i + 1) (by omega)
   refine ⟨ws, a, ?_⟩
   rw [List.drop_drop]
   rwa [Nat.add_mul, Nat.one_mul, Nat.add_comm] at b
  refine ⟨e.val ws :: xs, by simp [x1], ⟨v, l.drop e.n, by rw [hv1, List.take_append_drop], hv2, hv3, x2⟩, ?_⟩
  intro x hx
  rcases List.mem_cons.1 hx with rfl | hx
  ·exact ⟨ws, h1, rfl⟩
  ·exact x3 x hx
section
variable {H : Type} {enc : TypeId × Value → H} {P : Program} {W : World}
theorem Rg {c : List Value} {a : Addr} {n : Nat} {cs : List Value} {o : Nat} (hc : ∀ i, W.cell? ⟨a.block, i, none⟩ = c[i]?) (hs : a.spot = none) (h : W.cells? 0 (a.add o) n = some cs) : (c.drop (a.off + o)).take n = cs := by
 obtain ⟨_, h2, h3⟩ := World.cells?_some h
 refine List.ext_getElem? fun i => ?_
 by_cases hi : i < n
 ·rw [List.getElem?_take_of_lt hi, List.getElem?_drop, ← h3 i hi, ← hc]
  congr 1
  have hb : ∀ (a : Addr) (m : Nat), a.spot = none → a.add m = ⟨a.block, a.off + m, none⟩ := by
   intro a m h
   unfold Addr.add
   split
   ·rename_i h0; subst h0; cases a; simp at h ⊢; exact h
   ·rfl
  rw [hb a o hs, hb _ i rfl, Nat.add_assoc]
 ·rw [List.getElem?_eq_none (by simp; omega), List.getElem?_eq_none (by omega)]
theorem wAll {e : TypeId} {p : Nat → Bool} : ∀ {l : List (DataW H)}, (DataW.weightsAll P e l).all p = true → ∀ d ∈ l, (d.weights P e).all p = true
 | [], _, _, h => by simp at h
 | x :: l, h, d, hd => by
  simp only [DataW.weightsAll, List.all_append, Bool.and_eq_true] at h
  rcases List.mem_cons.1 hd with rfl | hd
  ·exact h.1
  ·exact wAll h.2 d hd
theorem wEach {p : Nat → Bool} : ∀ {ts : List TypeId} {l : List (DataW H)}, (DataW.weightsEach P ts l).all p = true → ∀ (i : Nat) (t : TypeId) (d : DataW H), ts[i]? = some t → l[i]? = some d → (d.weights P t).all p = true
 | [], _, _, _, _, _, h, _ => by simp at h
 | _ :: _, [], _, _, _, _, _, h => by simp at h
 | t :: ts, x :: l, h, i, t', d, h1, h2 => by
  simp only [DataW.weightsEach, List.all_append, Bool.and_eq_true] at h
  cases i with
  | zero => simp at h1 h2; subst h1 h2; exact h.1
  | succ i => simp at h1 h2; exact wEach h.2 i t' d h1 h2
theorem decode : ∀ (fuel : Nat) (s : Sh) (t : TypeId) (cs : List Value) (x : DataW H × List MemPlace), s.Ty P t → (x.1.weights P t).all (· ≤ reachBytes) = true → DataW.trod enc P W 0 (fun _ => true) true fuel t cs = some x → ∃ vs, s.Is vs ∧ RelL (gIn W) vs cs := by
 intro fuel
 induction fuel with
 | zero => intro s t cs x _ _ h; simp [DataW.trod] at h
 | succ fuel ih =>
  intro s t cs x ht hwt h
  cases s with
  | bool =>
   obtain ⟨b, rfl, _⟩ := DataW.trod_bool ht.1 h
   exact ⟨[.bool b], ⟨b, rfl⟩, _, _, rfl, rfl, rfl⟩
  | int k =>
   obtain ⟨n, rfl, _, hw⟩ := DataW.trod_int ht.1 h
   exact ⟨[.int k n], ⟨n, rfl, hw⟩, _, _, rfl, rfl, rfl⟩
  | sl e =>
   obtain ⟨te, hu, hte, hn, hc, hby⟩ := ht
   have hce := hte.cells
   rcases DataW.trod_slice hu h with ⟨rfl, _⟩ | ⟨a, len, cap, elems, rest, n', hf, rfl, rfl, _, hlc, hcap, hel, he, hr, _⟩
   ·exact ⟨[.nilsl], ⟨.nilsl, [], rfl, .nil, by simp, by simp⟩, _, _, rfl, rfl, rfl⟩
   ·obtain rfl : fuel = n' := by omega
    rw [hce] at he hr
    simp only [DataW.weights, hu, List.all_cons, List.all_append, Bool.and_eq_true, decide_eq_true_eq, lmp] at hwt
    obtain ⟨hw1, hw2, _⟩ := hwt
    by_cases h0 : cap = 0
    ·obtain rfl : len = 0 := by omega
     subst h0
     exact ⟨[.slz], ⟨.slz, [], rfl, .inr (.inl ⟨rfl, rfl⟩), by simp, by simp⟩, _, _, rfl, ⟨a, rfl⟩, rfl⟩
    ·have h1 : ∃ cs0, W.cells? 0 (a.add 0) e.n = some cs0 := by
      by_cases hl0 : 0 < len
      ·have := he 0 hl0
       rw [Nat.zero_mul, gEg (by omega)] at this
       obtain ⟨cs0, q, _⟩ := Option.bind_eq_some_iff.1 this
       exact ⟨cs0, q⟩
      ·obtain rfl : len = 0 := by omega
       obtain ⟨r1, r2⟩ := hr rfl
       have := r2 0 (by omega)
       rw [Nat.zero_add, Nat.zero_mul, gEg (by omega)] at this
       obtain ⟨cs0, q, _⟩ := Option.bind_eq_some_iff.1 this
       exact ⟨cs0, q⟩
     obtain ⟨cs0, hcs0⟩ := h1
     obtain ⟨_, q2, q3⟩ := World.cells?_some hcs0
     have q4 := q3 0 hn
     rw [gEg (by omega)] at q4
     have q5 : W.cell? a = some (cs0[0]'(by omega)) := by simpa [Addr.add] using q4
     obtain ⟨c, c1, c2, c3, c4⟩ := gIn_con q5
     have hch : ∀ i, i < len → ∃ ws, e.Is ws ∧ RelL (gIn W) ws ((c.drop (a.off + i * e.n)).take e.n) := by
      intro i hi
      have := he i hi
      rw [gEg (by omega)] at this
      obtain ⟨csi, p1, p2⟩ := Option.bind_eq_some_iff.1 this
      rw [Rg c4 c2 p1]
      exact ih e te csi _ hte (wAll hw2 _ (List.mem_map.2 ⟨_, gmm _, rfl⟩)) p2
     have hlen : ((c.drop a.off).take (len * e.n)).length = len * e.n := by
      by_cases hl0 : 0 < len
      ·have := he (len - 1) (by omega)
       rw [gEg (by omega)] at this
       obtain ⟨csi, p1, p2⟩ := Option.bind_eq_some_iff.1 this
       have p3 := Rg c4 c2 p1
       have p4 := congrArg List.length p3
       rw [ltk, List.length_drop, (World.cells?_some p1).2.1] at p4
       have : (len - 1) * e.n + e.n = len * e.n := by rw [← Nat.succ_mul]; congr 1; omega
       rw [ltk, List.length_drop]
       omega
      ·have : len = 0 := by omega
       subst this; simp
     obtain ⟨xs, x1, x2, x3⟩ := Ur (γ := gIn W) (e := e) len ((c.drop a.off).take (len * e.n)) hlen fun i hi => by
      obtain ⟨ws, w1, w2⟩ := hch i hi
      refine ⟨ws, w1, ?_⟩
      have : (((c.drop a.off).take (len * e.n)).drop (i * e.n)).take e.n = (c.drop (a.off + i * e.n)).take e.n := by
       rw [List.drop_take, List.take_take, List.drop_drop, Nat.min_eq_left]
       have : i * e.n + e.n ≤ len * e.n := by rw [← Nat.succ_mul]; exact Nat.mul_le_mul_right _ hi
       omega
      rw [this]; exact w2
     have h48 : len < 2 ^ 48 := by
      have h1 : reachBytes < 2 ^ 48 := by decide
      have h2 : (elems.length + rest.length) * 1 ≤ (elems.length + rest.length) * P.bytesOf te := Nat.mul_le_mul_left _ hby
      omega
     refine ⟨[.sl e.n false xs], ⟨.sl e.n false xs, xs, rfl, .mk, by omega, x3⟩, _, _, rfl, ?_, rfl⟩
     refine ⟨a.block, c.take a.off, (c.drop a.off).take (len * e.n), (c.drop a.off).drop (len * e.n), c.length, cap, ?_, x2, ?_, by omega, by simp, by omega⟩
     ·rw [List.append_assoc, List.take_append_drop, List.take_append_drop]; exact c1
     ·rw [x1, ltk, Nat.min_eq_left (by omega)]
      cases a; simp at c2; subst c2; rfl
  | st l =>
   have hall : ∀ (l : List Sh) (off : Nat) (fs : List Field), Sh.TyL P l off fs → (∀ f ∈ fs, ∃ y, (y.1.weights P f.type).all (· ≤ reachBytes) = true ∧ DataW.trod enc P W 0 (fun _ => true) true fuel f.type ((cs.drop f.offset).take (P.cellsOf f.type)) = some y) → off + Sh.nL l ≤ cs.length → ∃ vs, Sh.IsL l vs ∧ RelL (gIn W) vs ((cs.drop off).take (Sh.nL l)) := by
    intro l
    induction l with
    | nil => intro off fs hl _ _; exact ⟨[], rfl, by simp [Sh.nL, RelL]⟩
    | cons s l ihl =>
     intro off fs hl hf hlen
     obtain ⟨f, r, rfl, rfl, hs, hl'⟩ := hl
     obtain ⟨y, hyw, hy⟩ := hf f (by simp)
     rw [hs.cells] at hy
     obtain ⟨a, a1, a2⟩ := ih s f.type _ y hs hyw hy
     obtain ⟨b, b1, b2⟩ := ihl (f.offset + s.n) r hl' (fun g hg => hf g (by simp [hg])) (by simp only [Sh.nL] at hlen; omega)
     refine ⟨a ++ b, ⟨a, b, rfl, a1, b1⟩, ?_⟩
     have := Kz a2 b2
     rw [← List.drop_drop, ← List.take_add] at this
     exact this
   rcases ht with ⟨fs, hu, hc, htl⟩ | ⟨n, e, te, rfl, hu, hc, htr⟩
   ·obtain ⟨xs, n', hf, rfl, hl, hxl, hx⟩ := DataW.trod_struct hu h
    obtain rfl : fuel = n' := by omega
    simp only [DataW.weights, hu] at hwt
    obtain ⟨vs, v1, v2⟩ := hall l 0 fs.toList htl (fun f hf => by
     obtain ⟨i, hi, rfl⟩ := List.mem_iff_getElem.1 hf
     have hi' : i < fs.size := by simpa using hi
     have := hx i fs[i] (by simp [hi'])
     rw [gEg (by omega)] at this
     exact ⟨_, wEach hwt i _ _ (by simp [hi']) (by simp [show i < xs.length by omega]; rfl), by simpa using this⟩) (by omega)
    rw [List.drop_zero, List.take_of_length_le (by omega)] at v2
    exact ⟨vs, v1, v2⟩
   ·obtain ⟨xs, n', hf, rfl, hl, hxl, hx⟩ := DataW.trod_array hu h
    obtain rfl : fuel = n' := by omega
    simp only [DataW.weights, hu] at hwt
    have hgo : ∀ (m i : Nat), i + m = n → ∃ vs, Sh.IsL (List.replicate m e) vs ∧ RelL (gIn W) vs ((cs.drop (i * e.n)).take (m * e.n)) := by
     intro m
     induction m with
     | zero => intro i _; exact ⟨[], rfl, by simp [RelL]⟩
     | succ m ihm =>
      intro i hi
      have hte : e.Ty P te := by
       obtain ⟨k, rfl⟩ : ∃ k, n = k + 1 := ⟨n - 1, by omega⟩
       exact htr.1
      have := hx i (by omega)
      rw [hte.cells, gEg (by omega)] at this
      obtain ⟨a, a1, a2⟩ := ih e te _ _ hte (wAll hwt _ (List.mem_map.2 ⟨_, gmm _, rfl⟩)) this
      obtain ⟨b, b1, b2⟩ := ihm (i + 1) (by omega)
      refine ⟨a ++ b, ⟨a, b, rfl, a1, b1⟩, ?_⟩
      have := Kz a2 b2
      rw [Nat.add_mul, Nat.one_mul, ← List.drop_drop, ← List.take_add] at this
      rw [Nat.add_mul, Nat.one_mul, Nat.add_comm (m * e.n)]
      exact this
    have hnl : Sh.nL (List.replicate n e) = n * e.n := by
     clear hgo hx hxl hc hu htr
     induction n with
     | zero => simp [Sh.nL]
     | succ n ih => simp only [List.replicate_succ, Sh.nL, ih, Nat.succ_mul]; omega
    obtain ⟨vs, v1, v2⟩ := hgo n 0 (by omega)
    rw [Nat.zero_mul, List.drop_zero, List.take_of_length_le (by omega)] at v2
    exact ⟨vs, v1, v2⟩
end
end Go.AL.S
namespace Go.AL.S
open Go Go.AL
def shMi : Sh := .st [.bool, .int .u8, .int .u16]
def shDe : Sh := .st [.sl shMi, .sl (.sl (.int .u16)), .int .u8]
theorem wf_u8 {n : Int} (h : (Lit.int .u8 n).wf = true) : 0 ≤ n ∧ n < 256 := by
 simp [Lit.wf, IntKind.min, IntKind.max, IntKind.signed, IntKind.bits] at h; omega
theorem Y8 {n : Int} (h : (Lit.int .u16 n).wf = true) : 0 ≤ n ∧ n < 65536 := by
 simp [Lit.wf, IntKind.min, IntKind.max, IntKind.signed, IntKind.bits] at h; omega
theorem J9 {α : Type} {f : α → V} {p : α → Prop} : ∀ {xs : List V}, (∀ x ∈ xs, ∃ a, x = f a ∧ p a) → ∃ l : List α, xs = l.map f ∧ ∀ a ∈ l, p a
 | [], _ => ⟨[], rfl, by simp⟩
 | x :: xs, h => by
  obtain ⟨a, rfl, ha⟩ := h x (by simp)
  obtain ⟨l, rfl, hl⟩ := J9 (xs := xs) fun y hy => h y (by simp [hy])
  refine ⟨a :: l, rfl, fun b hb => ?_⟩
  rcases List.mem_cons.1 hb with rfl | hb
  ·exact ha
  ·exact hl b hb
theorem mi_of {ws : List V} (h : shMi.Is ws) : ∃ m : Mi, shMi.val ws = m.V ∧ m.ok := by
 obtain ⟨_, _, rfl, ⟨b, rfl⟩, _, _, rfl, ⟨k, rfl, hk⟩, _, _, rfl, ⟨n, rfl, hn⟩, rfl⟩ := h
 have h1 := wf_u8 hk
 have h2 := Y8 hn
 exact ⟨⟨b, k, n⟩, rfl, h1.1, h1.2, h2.1, h2.2⟩
theorem mis_of {ws : List V} (h : (Sh.sl shMi).Is ws) : ∃ v l, ws = [v] ∧ isMs v l ∧ ∀ m ∈ l, m.ok := by
 obtain ⟨v, xs, rfl, hs, _, hx⟩ := h
 obtain ⟨l, rfl, hl⟩ := J9 (f := Mi.V) (p := Mi.ok) fun x hxm => by
  obtain ⟨ws, h1, rfl⟩ := hx x hxm
  obtain ⟨m, h2, h3⟩ := mi_of h1
  exact ⟨m, h2, h3⟩
 exact ⟨v, l, rfl, hs, hl⟩
theorem ints_of {ws : List V} (h : (Sh.sl (.int .u16)).Is ws) : ∃ v o, ws = [v] ∧ isEl v o ∧ ∀ n ∈ nums o, 0 ≤ n ∧ n < 65536 := by
 obtain ⟨v, xs, rfl, hs, _, hx⟩ := h
 obtain ⟨l, rfl, hl⟩ := J9 (f := V.int .u16) (p := fun n => 0 ≤ n ∧ n < 65536) fun x hxm => by
  obtain ⟨ws, ⟨n, rfl, hn⟩, rfl⟩ := hx x hxm
  exact ⟨n, rfl, Y8 hn⟩
 rcases hs with ⟨rfl, _⟩ | ⟨rfl, _⟩ | ⟨f, rfl⟩
 ·exact ⟨_, none, rfl, .inl ⟨rfl, rfl⟩, by simp [nums]⟩
 ·exact ⟨_, some [], rfl, .inr (.inl ⟨rfl, rfl⟩), by simp [nums]⟩
 ·exact ⟨_, some l, rfl, .inr (.inr ⟨f, l, rfl, rfl⟩), hl⟩
theorem Xbr {ws : List V} (h : (Sh.sl (.sl (.int .u16))).Is ws) : ∃ v ls, ws = [v] ∧ isLs v ls ∧ ∀ o ∈ ls, ∀ n ∈ nums o, 0 ≤ n ∧ n < 65536 := by
 obtain ⟨v, xs, rfl, hs, _, hx⟩ := h
 have hgo : ∀ xs : List V, (∀ x ∈ xs, ∃ ws, (Sh.sl (.int .u16)).Is ws ∧ x = (Sh.sl (.int .u16)).val ws) → ∃ ls : List (Option (List Int)), xs.length = ls.length ∧ (∀ k (h : k < xs.length) (h' : k < ls.length), isEl xs[k] ls[k]) ∧ ∀ o ∈ ls, ∀ n ∈ nums o, 0 ≤ n ∧ n < 65536 := by
  intro xs
  induction xs with
  | nil => intro _; exact ⟨[], rfl, fun k h => by simp at h, by simp⟩
  | cons x xs ih =>
   intro h
   obtain ⟨ws, h1, rfl⟩ := h x (by simp)
   obtain ⟨v, o, rfl, h2, h3⟩ := ints_of h1
   obtain ⟨ls, l1, l2, l3⟩ := ih fun y hy => h y (by simp [hy])
   refine ⟨o :: ls, by simp [l1], fun k hk hk' => ?_, fun o' ho' => ?_⟩
   ·cases k with
    | zero => exact h2
    | succ k => exact l2 k (by simpa using hk) (by simpa using hk')
   ·rcases List.mem_cons.1 ho' with rfl | ho'
    ·exact h3
    ·exact l3 o' ho'
 obtain ⟨ls, l1, l2, l3⟩ := hgo xs hx
 exact ⟨v, ls, rfl, ⟨xs, hs, l1, l2⟩, l3⟩
theorem de_of {ws : List V} (h : shDe.Is ws) : ∃ d : De, shDe.val ws = d.V ∧ d.ok := by
 obtain ⟨ws1, _, rfl, h1, ws2, _, rfl, h2, _, _, rfl, ⟨w, rfl, hw⟩, rfl⟩ := h
 have hb := h2.bel (n := 0)
 obtain ⟨t, l, rfl, t1, t2⟩ := mis_of h1
 obtain ⟨r, ls, rfl, r1, r2⟩ := Xbr h2
 refine ⟨⟨t, l, r, ls, w⟩, rfl, t1, t2, r1, r2, ?_, wf_u8 hw⟩
 simpa [V.belL] using hb
theorem des_of {ws : List V} (h : (Sh.sl shDe).Is ws) : ∃ v, ∃ l : List De, ws = [v] ∧ isS 3 v (l.map De.V) ∧ (∀ d ∈ l, d.ok) ∧ l.length < 2 ^ 48 := by
 obtain ⟨v, xs, rfl, hs, hl, hx⟩ := h
 obtain ⟨l, rfl, hl'⟩ := J9 (f := De.V) (p := De.ok) fun x hxm => by
  obtain ⟨ws, h1, rfl⟩ := hx x hxm
  obtain ⟨a, h2, h3⟩ := de_of h1
  exact ⟨a, h2, h3⟩
 exact ⟨v, l, rfl, hs, hl', by simpa using hl⟩
end Go.AL.S
