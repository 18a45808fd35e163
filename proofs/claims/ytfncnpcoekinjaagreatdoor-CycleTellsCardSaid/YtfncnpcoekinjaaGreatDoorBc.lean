/- What the program's functions do, part 3. Conditions: none. -/
import Derived.Test.YtfncnpcoekinjaaGreatDoorBb
import Derived.OpenShut
import Derived.ChangeArms
import Derived.ReadAgain
open Nat renaming reduceEqDiff → nE, reduceLeDiff → nL, reduceAdd → nA, reduceLT → nT, le_refl → lr
open List renaming getElem?_eq_getElem → gEg, length_map → lmp, getElem_mem → gmm, length_append → lap, length_cons → lcs, mem_singleton → msg, append_nil → apn, mem_append → map', take_length → tkl, map_cons → mcs, map_append → mpp, mem_map → mmp, any_eq_true → aet, length_replicate → lrp, take_add_one → tao, length_take → ltk, mem_filter → mfl
set_option maxRecDepth 100000
namespace Go.AL.S
open Go Go.AL Go.Proofs
theorem mem_edgeP {f t k : Int} {x : Ek} : x ∈ edgeP f t k ↔ f ≠ t ∧ x = (f, t, k) := by
 unfold edgeP
 split
 ·rename_i h; simp [h]
 ·rename_i h; simp [h]
theorem mem_keyP {s : Str} {o : Ods} {k : Int} {x : Ek} : x ∈ keyP s o k ↔ ∃ u v, (u, v) ∈ (keyO o k).zip (keyO o k).tail ∧ (wrR s k u).2 = true ∧ (wrR s k v).2 = true ∧ (wrR s k u).1 ≠ (wrR s k v).1 ∧ x = ((wrR s k u).1, (wrR s k v).1, 0) := by
 simp only [keyP, List.mem_flatMap, Prod.exists]
 constructor
 ·rintro ⟨u, v, h1, h2⟩
  split at h2
  ·rename_i h3
   obtain ⟨h4, h5⟩ := mem_edgeP.1 h2
   exact ⟨u, v, h1, h3.1, h3.2, h4, h5⟩
  ·simp at h2
 ·rintro ⟨u, v, h1, h2, h3, h4, h5⟩
  exact ⟨u, v, h1, by rw [if_pos ⟨h2, h3⟩]; exact mem_edgeP.2 ⟨h4, h5⟩⟩
theorem mem_lastP {s : Str} {b : Int} {r : Rd} {x : Ek} : x ∈ lastP s b r ↔ ∃ v, (nums r.2).getLast? = some v ∧ (wrR s r.1 v).2 = true ∧ (wrR s r.1 v).1 ≠ b ∧ x = ((wrR s r.1 v).1, b, 1) := by
 unfold lastP
 cases h : (nums r.2).getLast? with
 | none => simp
 | some v =>
  simp only [Option.some.injEq]
  constructor
  ·intro h2
   split at h2
   ·rename_i h3
    obtain ⟨h4, h5⟩ := mem_edgeP.1 h2
    exact ⟨v, rfl, h3, h4, h5⟩
   ·simp at h2
  ·rintro ⟨_, rfl, h3, h4, h5⟩
   rw [if_pos h3]; exact mem_edgeP.2 ⟨h4, h5⟩
theorem mem_nextP {s : Str} {o : Ods} {b : Int} {r : Rd} {x : Ek} : x ∈ nextP s o b r ↔ ∃ v, (keyO o r.1)[(nums r.2).length]? = some v ∧ (wrR s r.1 v).2 = true ∧ b ≠ (wrR s r.1 v).1 ∧ x = (b, (wrR s r.1 v).1, 2) := by
 unfold nextP
 cases h : (keyO o r.1)[(nums r.2).length]? with
 | none => simp
 | some v =>
  simp only [Option.some.injEq]
  constructor
  ·intro h2
   split at h2
   ·rename_i h3
    obtain ⟨h4, h5⟩ := mem_edgeP.1 h2
    exact ⟨v, rfl, h3, h4, h5⟩
   ·simp at h2
  ·rintro ⟨_, rfl, h3, h4, h5⟩
   rw [if_pos h3]; exact mem_edgeP.2 ⟨h4, h5⟩
theorem mem_txnP {s : Str} {o : Ods} {t : Tx} {x : Ek} : x ∈ txnP s o t ↔ t.st ≠ 2 ∧ ∃ r ∈ readsR t, countsR s o r = true ∧ (x ∈ lastP s t.id r ∨ x ∈ nextP s o t.id r) := by
 unfold txnP
 by_cases h : t.st = 2
 ·simp [h]
 ·simp only [if_neg h, List.mem_flatMap]
  constructor
  ·rintro ⟨r, h1, h2⟩
   split at h2
   ·rename_i h3
    exact ⟨h, r, h1, h3, by simpa [readP] using h2⟩
   ·simp at h2
  ·rintro ⟨_, r, h1, h2, h3⟩
   exact ⟨r, h1, by rw [if_pos h2]; simpa [readP] using h3⟩
theorem mem_buildP {s : Str} {o : Ods} {x : Ek} : x ∈ buildP s o ↔ (∃ k : Nat, k < 8 ∧ x ∈ keyP s o (k : Int)) ∨ ∃ t ∈ s, x ∈ txnP s o t := by
 simp only [buildP, keysP, map', List.mem_flatMap, List.mem_range]
theorem zip_pre {l l' : List Int} (h : l <+: l') {p : Int × Int} (hp : p ∈ l.zip l.tail) : p ∈ l'.zip l'.tail := by
 obtain ⟨m, rfl⟩ := h
 cases l with
 | nil => simp at hp
 | cons a l =>
  simp only [List.tail_cons, List.cons_append] at hp ⊢
  have hl : a :: (l ++ m) = (a :: l) ++ m := rfl
  obtain ⟨i, hi, rfl⟩ := List.mem_iff_getElem.1 hp
  simp only [List.length_zip, lcs] at hi
  refine List.mem_iff_getElem.2 ⟨i, by simp; omega, ?_⟩
  rw [List.getElem_zip, List.getElem_zip]
  have e1 : (a :: (l ++ m))[i]'(by simp; omega) = (a :: l)[i]'(by simp; omega) := by
   simp only [hl]; rw [List.getElem_append_left]
  have e2 : (l ++ m)[i]'(by simp; omega) = l[i]'(by omega) := by rw [List.getElem_append_left]
  rw [e1, e2]
theorem begins_tr {a b c : List Int} (h : begins a b = true) (h' : b <+: c) : begins a c = true := begins_iff.2 ((begins_iff.1 h).trans h')
theorem build_mono {s s' : Str} {o o' : Ods} (hs : SOk s) (hw : ∀ k v, (wrR s k v).2 = true → wrR s' k v = wrR s k v) (hi : ∀ k v, (who s k v).isSome = true → (who s' k v).isSome = true) (ho : ∀ j : Int, 0 ≤ j → keyO o j <+: keyO o' j)
  (ht : ∀ t ∈ s, ∀ r ∈ readsR t, ∃ t' ∈ s', t'.id = t.id ∧ t'.st ≠ 2 ∧ r ∈ readsR t') {x : Ek} (hx : x ∈ buildP s o) : x ∈ buildP s' o' := by
 rw [mem_buildP] at hx ⊢
 rcases hx with ⟨k, hk, h⟩ | ⟨t, hm, h⟩
 ·refine .inl ⟨k, hk, ?_⟩
  rw [mem_keyP] at h ⊢
  obtain ⟨u, v, h1, h2, h3, h4, h5⟩ := h
  refine ⟨u, v, zip_pre (ho _ (by omega)) h1, ?_⟩
  rw [hw _ _ h2, hw _ _ h3]
  exact ⟨h2, h3, h4, h5⟩
 ·right
  rw [mem_txnP] at h
  obtain ⟨h1, r, h2, h3, h4⟩ := h
  obtain ⟨t', m1, m2, m3, m4⟩ := ht t hm r h2
  have hr := (readsR_key (hs.ok t hm).ms r h2).1
  refine ⟨t', m1, mem_txnP.2 ⟨m3, r, m4, ?_, ?_⟩⟩
  ·simp only [countsR, Bool.and_eq_true, List.all_eq_true] at h3 ⊢
   exact ⟨begins_tr h3.1 (ho _ hr), fun v hv => hi _ _ (h3.2 v hv)⟩
  ·rw [m2]
   rcases h4 with h4 | h4
   ·left
    rw [mem_lastP] at h4 ⊢
    obtain ⟨v, a1, a2, a3, a4⟩ := h4
    exact ⟨v, a1, by rw [hw _ _ a2]; exact a2, by rw [hw _ _ a2]; exact a3, by rw [hw _ _ a2]; exact a4⟩
   ·right
    rw [mem_nextP] at h4 ⊢
    obtain ⟨v, a1, a2, a3, a4⟩ := h4
    refine ⟨v, ?_, by rw [hw _ _ a2]; exact a2, by rw [hw _ _ a2]; exact a3, by rw [hw _ _ a2]; exact a4⟩
    obtain ⟨m, hm'⟩ := ho _ hr
    rw [← hm', List.getElem?_append_left (by
     rcases Nat.lt_or_ge (nums r.2).length (keyO o r.1).length with h | h
     ·exact h
     ·rw [List.getElem?_eq_none h] at a1; cases a1)]
    exact a1
theorem who_mapId {s : Str} {i k v : Int} {f : Tx → Tx} (hf : ∀ t, (f t).ms = t.ms) : who (mapId s i f) k v = (who s k v).map fun t => if t.id = i then f t else t := by
 induction s with
 | nil => rfl
 | cons t s ih =>
  have hi : S.has (if t.id = i then f t else t) k v = S.has t k v := by unfold S.has; split <;> simp [hf]
  simp only [who, mapId, mcs, List.find?_cons, hi] at ih ⊢
  cases S.has t k v with
  | true => rfl
  | false => exact ih
theorem who_app {s : Str} {t : Tx} {k v : Int} : who (s ++ [t]) k v = (who s k v).or (if S.has t k v = true then some t else none) := by
 unfold who
 rw [List.find?_append]
 congr 1
 simp only [List.find?_cons, List.find?_nil]
 cases S.has t k v <;> simp
theorem endT_ms (st : Int) (t : Tx) : (endT st t).ms = t.ms := by unfold endT; split <;> rfl
theorem readsR_open {t : Tx} (h : t.st ≠ 1) : readsR t = [] := by simp [readsR, h]
theorem readsR_st {t : Tx} {r : Rd} (h : r ∈ readsR t) : t.st = 1 := by
 refine Classical.byContradiction fun hn => ?_
 rw [readsR_open hn] at h; simp at h
theorem endT_reads {st : Int} {t : Tx} {r : Rd} (h : r ∈ readsR t) : endT st t = t := by
 have := readsR_st h
 simp [endT, this]
theorem comT_reads {ls : List (Option (List Int))} {t : Tx} {r : Rd} (h : r ∈ readsR t) : comT ls t = t := by
 have := readsR_st h
 unfold comT
 rw [if_neg]; rw [this]; simp
theorem build_map {s : Str} {o o' : Ods} (hs : SOk s) (i : Int) {f : Tx → Tx} (hid : ∀ t, (f t).id = t.id) (hms : ∀ t, (f t).ms = t.ms) (hst : ∀ t, (f t).st = 2 ↔ t.st = 2) (hrd : ∀ t r, r ∈ readsR t → f t = t) (ho : ∀ j : Int, 0 ≤ j → keyO o j <+: keyO o' j) {x : Ek} (hx : x ∈ buildP s o) : x ∈ buildP (mapId s i f) o' := by
 refine build_mono hs (fun k v _ => ?_) (fun k v h => ?_) ho (fun t ht r hr => ?_) hx
 ·unfold wrR
  rw [who_mapId hms]
  cases who s k v with
  | none => rfl
  | some t =>
   simp only [Option.map_some]
   split
   ·rw [hid]; congr 1; exact decide_eq_decide.2 (not_congr (hst t))
   ·rfl
 ·rw [who_mapId hms, Option.isSome_map]; exact h
 ·refine ⟨t, ?_, rfl, by rw [readsR_st hr]; decide, hr⟩
  refine List.mem_map.2 ⟨t, ht, ?_⟩
  split
  ·exact hrd t r hr
  ·rfl
theorem comT_st (ls : List (Option (List Int))) (t : Tx) : (comT ls t).st = 2 ↔ t.st = 2 := by
 unfold comT; split
 ·rename_i h; simp [h.1]
 ·rfl
theorem endT3_st (t : Tx) : (endT 3 t).st = 2 ↔ t.st = 2 := by
 unfold endT; split
 ·rename_i h; simp [h]
 ·rfl
theorem build_abort {s : Str} {o : Ods} {i : Int} {t0 : Tx} (hs : s.Pairwise fun a b => a.id < b.id) (hf : find s i = some t0) (h0 : t0.st = 0) {x : Ek} : x ∈ buildP (mapId s i (endT 2)) o ↔ x ∈ buildP s o ∧ x.1 ≠ i ∧ x.2.1 ≠ i := by
 have hw : ∀ k v, ((wrR (mapId s i (endT 2)) k v).2 = true ↔ (wrR s k v).2 = true ∧ (wrR s k v).1 ≠ i) ∧ (wrR (mapId s i (endT 2)) k v).1 = (wrR s k v).1 := by
  intro k v
  unfold wrR
  rw [who_mapId (endT_ms 2)]
  cases hq : who s k v with
  | none => simp
  | some t =>
   have ht := (who_mem hq).1
   simp only [Option.map_some]
   by_cases e : t.id = i
   ·have : t = t0 := by have := find_uniq hs ht e; rw [hf] at this; exact (Option.some.inj this).symm
    subst this
    simp [e, endT, h0]
   ·simp [e]
 have hi : ∀ k v, (who (mapId s i (endT 2)) k v).isSome = (who s k v).isSome := fun k v => by rw [who_mapId (endT_ms 2), Option.isSome_map]
 have hc : ∀ r, countsR (mapId s i (endT 2)) o r = countsR s o r := fun r => by simp only [countsR, hi]
 rw [mem_buildP, mem_buildP]
 have hk : ∀ k, (x ∈ keyP (mapId s i (endT 2)) o k ↔ x ∈ keyP s o k ∧ x.1 ≠ i ∧ x.2.1 ≠ i) := by
  intro k
  rw [mem_keyP, mem_keyP]
  constructor
  ·rintro ⟨u, v, h1, h2, h3, h4, h5⟩
   rw [(hw _ _).1] at h2 h3
   rw [(hw _ _).2, (hw _ _).2] at h4 h5
   subst h5
   exact ⟨⟨u, v, h1, h2.1, h3.1, h4, rfl⟩, h2.2, h3.2⟩
  ·rintro ⟨⟨u, v, h1, h2, h3, h4, h5⟩, h6, h7⟩
   subst h5
   exact ⟨u, v, h1, (hw _ _).1.2 ⟨h2, h6⟩, (hw _ _).1.2 ⟨h3, h7⟩, by rw [(hw _ _).2, (hw _ _).2]; exact h4, by rw [(hw _ _).2, (hw _ _).2]⟩
 have hl : ∀ b r, (x ∈ lastP (mapId s i (endT 2)) b r ↔ x ∈ lastP s b r ∧ x.1 ≠ i) := by
  intro b r
  rw [mem_lastP, mem_lastP]
  constructor
  ·rintro ⟨v, h1, h2, h3, h4⟩
   rw [(hw _ _).1] at h2
   rw [(hw _ _).2] at h3 h4
   subst h4
   exact ⟨⟨v, h1, h2.1, h3, rfl⟩, h2.2⟩
  ·rintro ⟨⟨v, h1, h2, h3, h4⟩, h5⟩
   subst h4
   exact ⟨v, h1, (hw _ _).1.2 ⟨h2, h5⟩, by rw [(hw _ _).2]; exact h3, by rw [(hw _ _).2]⟩
 have hn : ∀ b r, (x ∈ nextP (mapId s i (endT 2)) o b r ↔ x ∈ nextP s o b r ∧ x.2.1 ≠ i) := by
  intro b r
  rw [mem_nextP, mem_nextP]
  constructor
  ·rintro ⟨v, h1, h2, h3, h4⟩
   rw [(hw _ _).1] at h2
   rw [(hw _ _).2] at h3 h4
   subst h4
   exact ⟨⟨v, h1, h2.1, h3, rfl⟩, h2.2⟩
  ·rintro ⟨⟨v, h1, h2, h3, h4⟩, h5⟩
   subst h4
   exact ⟨v, h1, (hw _ _).1.2 ⟨h2, h5⟩, by rw [(hw _ _).2]; exact h3, by rw [(hw _ _).2]⟩
 have hL : ∀ {b r}, x ∈ lastP s b r → x.2.1 = b := fun h => by obtain ⟨v, _, _, _, h4⟩ := mem_lastP.1 h; rw [h4]
 have hN : ∀ {b r}, x ∈ nextP s o b r → x.1 = b := fun h => by obtain ⟨v, _, _, _, h4⟩ := mem_nextP.1 h; rw [h4]
 constructor
 ·rintro (⟨k, hk8, h⟩ | ⟨t', ht', h⟩)
  ·obtain ⟨h1, h2⟩ := (hk _).1 h
   exact ⟨.inl ⟨k, hk8, h1⟩, h2⟩
  ·obtain ⟨t, ht, rfl⟩ := List.mem_map.1 ht'
   obtain ⟨h1, r, h2, h3, h4⟩ := mem_txnP.1 h
   by_cases e : t.id = i
   ·have e2 : t = t0 := by have := find_uniq hs ht e; rw [hf] at this; exact (Option.some.inj this).symm
    subst e2
    exfalso; apply h1; simp [e, endT, h0]
   ·rw [if_neg e] at h1 h2 h4
    rw [hc] at h3
    rw [hl, hn] at h4
    rcases h4 with h4 | h4
    ·exact ⟨.inr ⟨t, ht, mem_txnP.2 ⟨h1, r, h2, h3, .inl h4.1⟩⟩, h4.2, by rw [hL h4.1]; exact e⟩
    ·exact ⟨.inr ⟨t, ht, mem_txnP.2 ⟨h1, r, h2, h3, .inr h4.1⟩⟩, by rw [hN h4.1]; exact e, h4.2⟩
 ·rintro ⟨⟨k, hk8, h⟩ | ⟨t, ht, h⟩, h6, h7⟩
  ·exact .inl ⟨k, hk8, (hk _).2 ⟨h, h6, h7⟩⟩
  ·obtain ⟨h1, r, h2, h3, h4⟩ := mem_txnP.1 h
   have e : ¬ t.id = i := by
    rcases h4 with h4 | h4
    ·rw [← hL h4]; exact h7
    ·rw [← hN h4]; exact h6
   refine .inr ⟨t, List.mem_map.2 ⟨t, ht, if_neg e⟩, mem_txnP.2 ⟨h1, r, h2, by rw [hc]; exact h3, ?_⟩⟩
   rw [hl, hn]
   rcases h4 with h4 | h4
   ·exact .inl ⟨h4, h6⟩
   ·exact .inr ⟨h4, h7⟩
end Go.AL.S
namespace Go.AL.SE
open Go Go.AL Go.AL.S Go.Proofs Go.Sort
structure Ed where
 fr : Int
 to : Int
 kd : Int
 deriving DecidableEq, Inhabited
def Ed.V (e : Ed) : V := .agg [.int .u16 e.fr, .int .u16 e.to, .int .u8 e.kd]
def sgn (a b : Int) : Int := if a < b then -1 else if a > b then 1 else 0
def cmpE (a b : Ed) : Int := if sgn a.fr b.fr ≠ 0 then sgn a.fr b.fr else if sgn a.to b.to ≠ 0 then sgn a.to b.to else sgn a.kd b.kd
instance : LT Ed := ⟨fun a b => cmpE a b < 0⟩
instance (a b : Ed) : Decidable (a < b) := inferInstanceAs (Decidable (cmpE a b < 0))
def ltE (a b : Ed) : Bool := decide (a < b)
theorem sgn_neg {a b : Int} : sgn a b < 0 ↔ a < b := by unfold sgn; split <;> (try split) <;> omega
theorem sgn_zero {a b : Int} : sgn a b = 0 ↔ a = b := by unfold sgn; split <;> (try split) <;> omega
theorem lt_iff {a b : Ed} : a < b ↔ a.fr < b.fr ∨ (a.fr = b.fr ∧ (a.to < b.to ∨ (a.to = b.to ∧ a.kd < b.kd))) := by
 show cmpE a b < 0 ↔ _
 unfold cmpE
 by_cases h1 : a.fr = b.fr
 ·have e1 : sgn a.fr b.fr = 0 := sgn_zero.2 h1
  simp only [e1, ne_eq, not_true, if_false]
  by_cases h2 : a.to = b.to
  ·have e2 : sgn a.to b.to = 0 := sgn_zero.2 h2
   simp only [e2, not_true, if_false, sgn_neg]
   omega
  ·have e2 : ¬ sgn a.to b.to = 0 := fun h => h2 (sgn_zero.1 h)
   simp only [e2, not_false_iff, if_true, sgn_neg]
   omega
 ·have e1 : ¬ sgn a.fr b.fr = 0 := fun h => h1 (sgn_zero.1 h)
  simp only [e1, ne_eq, not_false_iff, if_true, sgn_neg]
  omega
theorem ed_ext {a b : Ed} (h1 : a.fr = b.fr) (h2 : a.to = b.to) (h3 : a.kd = b.kd) : a = b := by
 cases a; cases b; simp at h1 h2 h3; simp [h1, h2, h3]
theorem swo_ltE : SWO ltE where
 irrefl x := by simp only [ltE, decide_eq_false_iff_not, lt_iff]; omega
 trans x y z h1 h2 := by simp only [ltE, decide_eq_true_eq, lt_iff] at *; omega
 ntrans x y z h1 h2 := by simp only [ltE, decide_eq_false_iff_not, lt_iff] at *; omega
theorem ltE_anti {a b : Ed} (h1 : ltE a b = false) (h2 : ltE b a = false) : a = b := by
 simp only [ltE, decide_eq_false_iff_not, lt_iff] at *
 exact ed_ext (by omega) (by omega) (by omega)
def cE (e : Ed) : List V := [.int .u16 e.fr, .int .u16 e.to, .int .u8 e.kd]
def cellsL (l : List Ed) : List V := l.flatMap cE
theorem cellsL_len : ∀ l : List Ed, (cellsL l).length = l.length * 3
 | [] => rfl
 | e :: l => by
  have := cellsL_len l
  simp only [cellsL, List.flatMap_cons, lap, cE, lcs, List.length_nil] at this ⊢
  omega
def cellsE (d : Array Ed) : List V := cellsL d.toList
def pv (W : AW) (r : Nat) (d : Array Ed) : AW := W.put r (.vec 3 (cellsE d))
theorem pv_get {W : AW} {r : Nat} {d : Array Ed} : (pv W r d).get r = some (.vec 3 (cellsE d)) := by simp [pv, AW.put]
theorem pv_pv {W : AW} {r : Nat} {d d' : Array Ed} : pv (pv W r d) r d' = pv W r d' := by
 simp only [pv, AW.put, AW.mk.injEq, and_true]
 funext x
 by_cases h : x = r <;> simp [h]
theorem pv_self {W : AW} {r : Nat} {d : Array Ed} (h : W.get r = some (.vec 3 (cellsE d))) : pv W r d = W := put_same h
section
variable {E : Env}
end
theorem pcall_go {E : Env} {W : AW} {K : V → AW → Prop} {f : FuncId} {vs ws : List V} {v : V} (hw : vs.map W.frz = ws) (h : ACalls E f ws W (fun X W' => X = v ∧ W' = W)) (hk : K v W) : sem E (.pcall f) vs W K := by
 subst hw; exact ⟨v, h, hk⟩
def c_nan8 : AC := (.r [.v 2 (.bool false)] (.r [.m 3 0,.m 4 0,.b 5 (.bin .neq) 3 4,.m 2 5] .ret))
theorem ok_nan8e : compF Tryz.prog Tryz.f118 ⟨true, false, []⟩ = some (c_nan8, [.tmp 2], 6) := by kernel_rfl
def c_cmp16 : AC := (.r [.v 4 (.int .i64 0)] (.r [.m 7 0,.u 8 (.call 117) 7,.m 5 8] (.r [.m 9 1,.u 10 (.call 117) 9,.m 6 10] (.seq (.r [.m 11 5] (.cond (.t 11) (.seq (.r [.m 12 6] (.cond (.t 12) (.r [.v 4 (.int .i64 0)] .ret) .skip)) (.r [.v 4 (.int .i64 (-1))] .ret)) .skip)) (.seq (.r [.m 13 6] (.cond (.t 13) (.r [.v 4 (.int .i64 1)] .ret) .skip)) (.seq (.r [.m 14 0,.m 15 1,.b 16 (.bin .lss) 14 15] (.cond (.t 16) (.r [.v 4 (.int .i64 (-1))] .ret) .skip)) (.seq (.r [.m 17 0,.m 18 1,.b 19 (.bin .gtr) 17 18] (.cond (.t 19) (.r [.v 4 (.int .i64 1)] .ret) .skip)) (.r [.v 4 (.int .i64 0)] .ret))))))))
theorem ok_cmp16e : compF Tryz.prog Tryz.f91 ⟨true, false, []⟩ = some (c_cmp16, [.tmp 4], 20) := by kernel_rfl
def c_cmp8 : AC := (.r [.v 4 (.int .i64 0)] (.r [.m 7 0,.u 8 (.call 118) 7,.m 5 8] (.r [.m 9 1,.u 10 (.call 118) 9,.m 6 10] (.seq (.r [.m 11 5] (.cond (.t 11) (.seq (.r [.m 12 6] (.cond (.t 12) (.r [.v 4 (.int .i64 0)] .ret) .skip)) (.r [.v 4 (.int .i64 (-1))] .ret)) .skip)) (.seq (.r [.m 13 6] (.cond (.t 13) (.r [.v 4 (.int .i64 1)] .ret) .skip)) (.seq (.r [.m 14 0,.m 15 1,.b 16 (.bin .lss) 14 15] (.cond (.t 16) (.r [.v 4 (.int .i64 (-1))] .ret) .skip)) (.seq (.r [.m 17 0,.m 18 1,.b 19 (.bin .gtr) 17 18] (.cond (.t 19) (.r [.v 4 (.int .i64 1)] .ret) .skip)) (.r [.v 4 (.int .i64 0)] .ret))))))))
theorem ok_cmp8e : compF Tryz.prog Tryz.f92 ⟨true, false, []⟩ = some (c_cmp8, [.tmp 4], 20) := by kernel_rfl
def c_cmpOr : AC := (.r [.v 2 (.int .i64 0)] (.r [.v 3 (.int .i64 0)] (.seq (.r [.m 6 0,.u 7 (.len 1 0) 6,.v 8 (.int .i64 0)] (.block 0 (.loop (.r [.b 9 (.bin .lss) 8 7] (.seq (.w 9 0) (.seq (.block 1 (.r [.b 10 (.idxp 1) 6 8,.u 11 (.load false 1) 10,.m 5 11] (.r [.m 12 5,.m 13 3,.b 14 (.bin .neq) 12 13] (.cond (.t 14) (.r [.m 15 5,.m 2 15] .ret) .skip)))) (.reg [.a 16 (.bin .add) 8 1,.m 8 16]))))))) (.r [.m 17 3,.m 2 17] .ret))))
theorem ok_cmpOre : compF Tryz.prog Tryz.f59 ⟨true, false, []⟩ = some (c_cmpOr, [.tmp 2], 18) := by kernel_rfl
def c_cmpE : AC := (.r [.u 2 .box 0,.u 3 .box 1,.v 4 (.int .i64 0)] (.seq (.par (.step 0 (.u 5 (.fld 0) 2) (.step 2 (.u 7 (.fld 0) 3) (.step 5 (.u 10 (.fld 1) 2) (.step 7 (.u 12 (.fld 1) 3) (.step 10 (.u 15 (.fld 2) 2) (.step 12 (.u 17 (.fld 2) 3) (.step 1 (.u 6 (.load false 1) 5) (.step 3 (.u 8 (.load false 1) 7) (.step 4 (.b 9 (.pcall 91) 6 8) (.step 6 (.u 11 (.load false 1) 10) (.step 8 (.u 13 (.load false 1) 12) (.step 9 (.b 14 (.pcall 91) 11 13) (.step 11 (.u 16 (.load false 1) 15) (.step 13 (.u 18 (.load false 1) 17) (.step 14 (.b 19 (.pcall 92) 16 18) (.step 15 (.p 20 (.bslice 1 3 (.int .i64 0) [0, 1, 2]) [.t 9,.t 14,.t 19]) (.step 16 (.u 21 (.pcall 59) 20) (.step 17 (.m 4 21) .done))))))))))))))))))) .ret))
theorem ok_cmpEe : compF Tryz.prog Tryz.f109 ⟨true, false, []⟩ = some (c_cmpE, [.tmp 4], 22) := by kernel_rfl
variable {E : Env}
theorem nan8_c (hP : PE E) (W : AW) (a : Int) : ACalls E 118 [.int .u8 a] W fun Y W' => Y = .bool false ∧ W' = W := by
 refine ACalls.of hP Tryz.func118 ok_nan8e (by simp) fun _ _ => ?_
 simp only [c_nan8, BZ, ↓reduceIte, nE, reduceCtorEq]
 exact ⟨_, rfl, _, _, .weak weak_id, lr _, by simp, rfl⟩
theorem cmp16_c (hP : PE E) (W : AW) (a b : Int) : ACalls E 91 [.int .u16 a, .int .u16 b] W fun Y W' => Y = .int .i64 (sgn a b) ∧ W' = W := by
 refine ACalls.of hP Tryz.func91 ok_cmp16e (by simp) fun _ _ => ?_
 simp only [c_cmp16, BZ, ↓reduceIte, reduceCtorEq]
 refine pc (isNaN_c hP _ _) ?_
 simp only [BZ, ↓reduceIte, nE]
 refine pc (isNaN_c hP _ _) ?_
 by_cases h1 : a < b
 ·simp only [BX, ↓reduceIte, nE, reduceCtorEq, decide_eq_true h1]
  exact ⟨_, rfl, _, _, .weak weak_id, lr _, by simp [sgn, h1], rfl⟩
 ·by_cases h2 : a > b
  ·simp only [BX, ↓reduceIte, nE, reduceCtorEq, decide_eq_false h1, decide_eq_true h2]
   exact ⟨_, rfl, _, _, .weak weak_id, lr _, by simp [sgn, h1, h2], rfl⟩
  ·simp only [BX, ↓reduceIte, nE, reduceCtorEq, decide_eq_false h1, decide_eq_false h2]
   exact ⟨_, rfl, _, _, .weak weak_id, lr _, by simp [sgn, h1, h2], rfl⟩
theorem cmp8_c (hP : PE E) (W : AW) (a b : Int) : ACalls E 92 [.int .u8 a, .int .u8 b] W fun Y W' => Y = .int .i64 (sgn a b) ∧ W' = W := by
 refine ACalls.of hP Tryz.func92 ok_cmp8e (by simp) fun _ _ => ?_
 simp only [c_cmp8, BZ, ↓reduceIte, reduceCtorEq]
 refine pc (nan8_c hP _ _) ?_
 simp only [BZ, ↓reduceIte, nE]
 refine pc (nan8_c hP _ _) ?_
 by_cases h1 : a < b
 ·simp only [BX, ↓reduceIte, nE, reduceCtorEq, decide_eq_true h1]
  exact ⟨_, rfl, _, _, .weak weak_id, lr _, by simp [sgn, h1], rfl⟩
 ·by_cases h2 : a > b
  ·simp only [BX, ↓reduceIte, nE, reduceCtorEq, decide_eq_false h1, decide_eq_true h2]
   exact ⟨_, rfl, _, _, .weak weak_id, lr _, by simp [sgn, h1, h2], rfl⟩
  ·simp only [BX, ↓reduceIte, nE, reduceCtorEq, decide_eq_false h1, decide_eq_false h2]
   exact ⟨_, rfl, _, _, .weak weak_id, lr _, by simp [sgn, h1, h2], rfl⟩
theorem b3 {W : AW} {K : V → AW → Prop} {a b c : Int} : sem E (.bslice 1 3 (.int .i64 0) [0, 1, 2]) [.int .i64 a, .int .i64 b, .int .i64 c] W K = K (.sl 1 true [.int .i64 a, .int .i64 b, .int .i64 c]) W := by
 simp [sem, rsem, tsem, fillE, V.cells]
theorem or3_c (hP : PE E) (W : AW) (a b c : Int) : ACalls E 59 [.sl 1 true [.int .i64 a, .int .i64 b, .int .i64 c]] W fun Y W' => Y = .int .i64 (if a ≠ 0 then a else if b ≠ 0 then b else c) ∧ W' = W := by
 refine ACalls.of hP Tryz.func59 ok_cmpOre (by simp) fun _ _ => ?_
 simp only [c_cmpOr, BZ, ↓reduceIte, reduceCtorEq, BD, nA]
 rw [e_loop]
 refine alp (fun (k : Nat) A1 W1 => A1 3 = some (.int .i64 0) ∧ A1 6 = some (.sl 1 true [.int .i64 a, .int .i64 b, .int .i64 c]) ∧ A1 7 = some (.int .i64 (3 : Nat)) ∧ A1 8 = some (.int .i64 k) ∧ k ≤ 3 ∧ W1 = W ∧ (0 < k → a = 0) ∧ (1 < k → b = 0) ∧ (2 < k → c = 0)) (fun k => 3 - k) 0
  ⟨rfl, rfl, rfl, rfl, by omega, rfl, by omega, by omega, by omega⟩ ?_
 rintro k A1 W1 ⟨g3, g6, g7, g8, gk, rfl, ga, gb, gc⟩ _
 have hk : k = 0 ∨ k = 1 ∨ k = 2 ∨ k = 3 := by omega
 rcases hk with rfl | rfl | rfl | rfl
 ·by_cases h : a = 0
  ·simp (maxSteps:=9^9) (disch:=omega) only [BX, ↓reduceIte, nE, BM, BD, nT, g3, g6, g7, g8, clt, nT, dT, cmpne, h, ne_eq, not_true, dF, wadd1]
   exact ⟨1, ⟨tt, tt, tt, tt, tt, tt, by (first | omega | simp | simp [h]), by (first | omega | simp | simp [h]), by (first | omega | simp | simp [h])⟩, by omega, lr _⟩
  ·simp (maxSteps:=9^9) (disch:=omega) only [BX, ↓reduceIte, nE, BM, nT, g3, g6, g7, g8, clt, nT, dT, cmpne, ne_eq, h, not_false_iff]
   exact ⟨_, rfl, _, _, .weak weak_id, lr _, by simp [h], rfl⟩
 ·have h0 := ga (by omega)
  by_cases h : b = 0
  ·simp (maxSteps:=9^9) (disch:=omega) only [BX, ↓reduceIte, nE, BM, nA, nT, g3, g6, g7, g8, clt, nT, dT, cmpne, h, ne_eq, not_true, dF, wadd1]
   exact ⟨2, ⟨tt, tt, tt, tt, tt, tt, by (first | omega | simp | simp [h]), by (first | omega | simp | simp [h]), by (first | omega | simp | simp [h])⟩, by omega, lr _⟩
  ·simp (maxSteps:=9^9) (disch:=omega) only [BX, ↓reduceIte, nE, BM, nT, g3, g6, g7, g8, clt, nT, dT, cmpne, ne_eq, h, not_false_iff]
   exact ⟨_, rfl, _, _, .weak weak_id, lr _, by simp [h0], rfl⟩
 ·have h0 := ga (by omega)
  have h1 := gb (by omega)
  by_cases h : c = 0
  ·simp (maxSteps:=9^9) (disch:=omega) only [BX, ↓reduceIte, nE, BM, nA, nT, g3, g6, g7, g8, clt, nT, dT, cmpne, h, ne_eq, not_true, dF, wadd1]
   exact ⟨3, ⟨tt, tt, tt, tt, tt, tt, by (first | omega | simp | simp [h]), by (first | omega | simp | simp [h]), by (first | omega | simp | simp [h])⟩, by omega, lr _⟩
  ·simp (maxSteps:=9^9) (disch:=omega) only [BX, ↓reduceIte, nE, BM, nT, g3, g6, g7, g8, clt, nT, dT, cmpne, ne_eq, h, not_false_iff]
   exact ⟨_, rfl, _, _, .weak weak_id, lr _, by simp [h0, h1], rfl⟩
 ·have h0 := ga (by omega)
  have h1 := gb (by omega)
  have h2 := gc (by omega)
  simp (maxSteps:=9^9) (disch:=omega) only [BX, ↓reduceIte, nE, g3, g7, g8, clt, Nat.lt_irrefl, dF]
  exact ⟨_, rfl, _, _, .weak weak_id, lr _, by simp [h0, h1, h2], rfl⟩
theorem less_c (hP : PE E) (W : AW) (a b : Ed) : ACalls E 109 [a.V, b.V] W fun Y W' => Y = .int .i64 (cmpE a b) ∧ W' = W := by
 refine ACalls.of hP Tryz.func109 ok_cmpEe (by simp) fun _ hok => ?_
 refine awp_start hok ?_
 simp (maxSteps:=9^9) (disch:=omega) only [c_cmpE, BZ, ↓reduceIte, nE, BM, BD, Ed.V]
 refine pcall_go rfl (cmp16_c hP _ _ _) ?_
 simp (maxSteps:=9^9) (disch:=omega) only [BS, BC, ↓reduceIte, nE, BM]
 refine pcall_go rfl (cmp16_c hP _ _ _) ?_
 simp (maxSteps:=9^9) (disch:=omega) only [BS, BC, ↓reduceIte, nE, BM]
 refine pcall_go rfl (cmp8_c hP _ _ _) ?_
 simp (maxSteps:=9^9) (disch:=omega) only [BS, ↓reduceIte, nE, b3]
 refine pcall_go rfl (or3_c hP _ _ _ _) ?_
 simp (maxSteps:=9^9) (disch:=omega) only [BS, BC, ↓reduceIte]
 exact ⟨_, rfl, _, W, backX hok rfl, lr _, rfl, rfl⟩
end Go.AL.SE
namespace Go.AL.S
open Go Go.AL Go.RowKit
inductive Sh where
 | bool
 | int (k : IntKind)
 | sl (e : Sh)
 | st (l : List Sh)
mutual
def Sh.n : Sh → Nat
 | .st l => Sh.nL l
 | _ => 1
def Sh.nL : List Sh → Nat
 | [] => 0
 | s :: l => s.n + Sh.nL l
end
def Sh.agg : Sh → Bool
 | .st _ => true
 | _ => false
def Sh.val (s : Sh) (ws : List V) : V := if s.agg = true then .agg ws else ws.headD default
mutual
def Sh.Is : Sh → List V → Prop
 | .bool, vs => ∃ b, vs = [.bool b]
 | .int k, vs => ∃ n, vs = [.int k n] ∧ (Lit.int k n).wf = true
 | .sl e, vs => ∃ v xs, vs = [v] ∧ isS e.n v xs ∧ xs.length < 2 ^ 48 ∧ ∀ x ∈ xs, ∃ ws, e.Is ws ∧ x = e.val ws
 | .st l, vs => Sh.IsL l vs
def Sh.IsL : List Sh → List V → Prop
 | [], vs => vs = []
 | s :: l, vs => ∃ a b, vs = a ++ b ∧ s.Is a ∧ Sh.IsL l b
end
mutual
def Sh.Ty (P : Program) : Sh → TypeId → Prop
 | .bool, t => P.underlying t = some .bool ∧ P.cellsOf t = 1
 | .int k, t => P.underlying t = some (.int k) ∧ P.cellsOf t = 1
 | .sl e, t => ∃ te, P.underlying t = some (.slice te) ∧ e.Ty P te ∧ 0 < e.n ∧ P.cellsOf t = 1 ∧ 0 < P.bytesOf te
 | .st l, t => (∃ fs, P.underlying t = some (.struct fs) ∧ P.cellsOf t = Sh.nL l ∧ Sh.TyL P l 0 fs.toList) ∨
   (∃ n e te, l = List.replicate n e ∧ P.underlying t = some (.array n te) ∧ P.cellsOf t = Sh.nL l ∧ Sh.TyR P l te)
def Sh.TyL (P : Program) : List Sh → Nat → List Field → Prop
 | [], _, fs => fs = []
 | s :: l, off, fs => ∃ f r, fs = f :: r ∧ f.offset = off ∧ s.Ty P f.type ∧ Sh.TyL P l (off + s.n) r
def Sh.TyR (P : Program) : List Sh → TypeId → Prop
 | [], _ => True
 | s :: l, t => s.Ty P t ∧ Sh.TyR P l t
end
theorem Sh.Ty.cells {P : Program} : ∀ {s : Sh} {t : TypeId}, s.Ty P t → P.cellsOf t = s.n
 | .bool, _, h => h.2
 | .int _, _, h => h.2
 | .sl _, _, ⟨_, _, _, _, h, _⟩ => h
 | .st _, _, .inl ⟨_, _, h, _⟩ => h
 | .st _, _, .inr ⟨_, _, _, _, _, h, _⟩ => h
mutual
theorem Sh.Is.len : ∀ {s : Sh} {vs : List V}, s.Is vs → vs.length = s.n
 | .bool, _, ⟨_, h⟩ => by rw [h]; rfl
 | .int _, _, ⟨_, h, _⟩ => by rw [h]; rfl
 | .sl _, _, ⟨_, _, h, _⟩ => by rw [h]; rfl
 | .st l, _, h => Sh.IsL.len (l := l) h
theorem Sh.IsL.len : ∀ {l : List Sh} {vs : List V}, Sh.IsL l vs → vs.length = Sh.nL l
 | [], _, h => by rw [show _ = ([] : List V) from h]; rfl
 | s :: l, _, ⟨a, b, h, h1, h2⟩ => by rw [h, lap, Sh.Is.len h1, Sh.IsL.len h2]; rfl
end
theorem belL_app {n : Nat} : ∀ {a b : List V}, V.belL n a = true → V.belL n b = true → V.belL n (a ++ b) = true
 | [], _, _, h => h
 | x :: a, b, h, h' => by
  simp only [V.belL, List.cons_append, Bool.and_eq_true] at h ⊢
  exact ⟨h.1, belL_app h.2 h'⟩
theorem belL_all {n : Nat} : ∀ {a : List V}, (∀ x ∈ a, x.bel n = true) → V.belL n a = true
 | [], _ => rfl
 | x :: a, h => by
  simp only [V.belL, Bool.and_eq_true]
  exact ⟨h x (by simp), belL_all fun y hy => h y (by simp [hy])⟩
theorem Sh.val_bel {s : Sh} {ws : List V} {n : Nat} (h : V.belL n ws = true) (hl : s.agg = false → ws ≠ []) : (s.val ws).bel n = true := by
 unfold Sh.val
 split
 ·exact h
 ·rename_i hs
  cases ws with
  | nil => exact absurd rfl (hl (by simpa using hs))
  | cons w ws =>
   simp only [V.belL, Bool.and_eq_true] at h
   exact h.1
mutual
theorem Sh.Is.bel {n : Nat} : ∀ {s : Sh} {vs : List V}, s.Is vs → V.belL n vs = true
 | .bool, _, ⟨_, h⟩ => by rw [h]; rfl
 | .int _, _, ⟨_, h, _⟩ => by rw [h]; rfl
 | .sl e, _, ⟨v, xs, h, hs, _, hx⟩ => by
  rw [h]
  simp only [V.belL, Bool.and_true]
  refine hs.lens (belL_all fun x hxm => ?_)
  obtain ⟨ws, h1, rfl⟩ := hx x hxm
  refine Sh.val_bel (Sh.Is.bel h1) fun he hw => ?_
  have := Sh.Is.len h1
  rw [hw] at this
  cases e <;> simp [Sh.agg, Sh.n] at he this
 | .st l, _, h => Sh.IsL.bel (l := l) h
theorem Sh.IsL.bel {n : Nat} : ∀ {l : List Sh} {vs : List V}, Sh.IsL l vs → V.belL n vs = true
 | [], _, h => by rw [show _ = ([] : List V) from h]; rfl
 | s :: l, _, ⟨a, b, h, h1, h2⟩ => by rw [h]; exact belL_app (Sh.Is.bel h1) (Sh.IsL.bel h2)
end
def gIn (W : World) : G := ⟨fun _ => none, fun _ => none, fun b => match W.heap[b]? with
 | some (.cells a _ _) => some (a.toList, a.size)
 | _ => none, fun _ => false, fun _ => false, fun _ => (0, 0), fun _ => default⟩
def Env.inp (P : Program) (W : World) : Env where
 P := P
 B := W.heap.size
 w0 := W
 glob := fun _ => none
 globOk := fun _ _ _ h => by cases h
 γ0 := gIn W
 n0 := 0
 yield := fun _ _ _ _ => False
 yieldMono := fun _ _ _ _ _ _ h => h
theorem Env.inp_sound (P : Program) (W : World) : (Env.inp P W).Sound := fun _ _ _ _ _ _ _ _ _ h => h.elim
theorem Env.inp_rel (P : Program) (W : World) : RelW (Env.inp P W) (gIn W) W AW.empty where
 below := Below.refl _ _
 base := lr _
 con b c sz h := by
  simp only [gIn] at h
  cases hb : W.heap[b]? with
  | none => rw [hb] at h; cases h
  | some o =>
   rw [hb] at h
   cases o <;> try (cases h; done)
   case cells a t fz =>
    cases h
    exact ⟨[], t, fz, by simp, by simp⟩
 own _ _ h := by cases h
 obj _ _ h := by cases h
 bd := ⟨fun _ _ h => (by cases h), fun _ _ h => (by cases h), fun _ h => (by cases h)⟩
 lt _ _ h := by cases h
 inj _ _ _ _ _ h := by cases h
 apart _ _ _ h := by cases h
 glob _ _ h := by cases h
 dfr _ h := by cases h
 dfrB _ h := by cases h
 ext := G.le.refl _ _
 n0 := lr _
theorem gIn_con {W : World} {a : Addr} {v : Value} (h : W.cell? a = some v) : ∃ c : List Value, (gIn W).con a.block = some (c, c.length) ∧ a.spot = none ∧ a.off < c.length ∧ (∀ i, W.cell? ⟨a.block, i, none⟩ = c[i]?) := by
 unfold World.cell? at h
 cases hb : W.heap[a.block]? with
 | none => rw [hb] at h; cases h
 | some o =>
  rw [hb] at h
  cases o <;> try (cases h; done)
  case cells c t fz =>
   simp only at h
   split at h
   ·cases h
   ·rename_i hs
    refine ⟨c.toList, by simp only [gIn, hb]; rfl, by simpa using hs, ?_, fun i => ?_⟩
    ·have := Array.getElem?_eq_some_iff.1 h
     simpa using this.1
    ·simp [World.cell?, hb]
end Go.AL.S
set_option maxHeartbeats 8000000
namespace Go.AL.SE
open Go Go.AL Go.AL.S Go.Proofs Go.Sort Go.Shelf Go.RowKit
def laysEd_ren : Go.Shelf.Ren := ⟨fun | 6 => 131 | 15 => 141 | 14 => 169 | 28 => 187 | 29 => 171 | 20 => 218 | 21 => 219 | 22 => 220 | 23 => 221 | 24 => 222 | 25 => 223 | 26 => 224 | 27 => 225 | 46 => 253 | 47 => 232 | 48 => 233 | 49 => 254 | 50 => 255 | 57 => 259 | n => n, fun | 22 => 175 | 24 => 89 | 25 => 220 | 3 => 3 | 39 => 227 | 0 => 0 | 53 => 267 | 55 => 243 | 4 => 4 | 46 => 273 | 45 => 272 | 50 => 101 | 5 => 5 | 9 => 9 | 66 => 316 | 70 => 320 | 76 => 354 | 77 => 355 | n => n, fun | n => n⟩
theorem laysEd : Go.Proofs.SlLaysF0.n6 Tryz.prog laysEd_ren := {
 mixed := by kernel_rfl
 f6 := ⟨Tryz.f131.name, by decide, Tryz.func131.trans (congrArg some (by kernel_rfl))⟩
 f14 := ⟨Tryz.f169.name, by decide, Tryz.func169.trans (congrArg some (by kernel_rfl))⟩
 f15 := Tryz.func141.trans (congrArg some (by kernel_rfl))
 f20 := ⟨Tryz.f218.name, by decide, Tryz.func218.trans (congrArg some (by kernel_rfl))⟩
 f21 := ⟨Tryz.f219.name, by decide, Tryz.func219.trans (congrArg some (by kernel_rfl))⟩
 f22 := ⟨Tryz.f220.name, by decide, Tryz.func220.trans (congrArg some (by kernel_rfl))⟩
 f23 := ⟨Tryz.f221.name, by decide, Tryz.func221.trans (congrArg some (by kernel_rfl))⟩
 f24 := ⟨Tryz.f222.name, by decide, Tryz.func222.trans (congrArg some (by kernel_rfl))⟩
 f25 := ⟨Tryz.f223.name, by decide, Tryz.func223.trans (congrArg some (by kernel_rfl))⟩
 f26 := ⟨Tryz.f224.name, by decide, Tryz.func224.trans (congrArg some (by kernel_rfl))⟩
 f27 := ⟨Tryz.f225.name, by decide, Tryz.func225.trans (congrArg some (by kernel_rfl))⟩
 f28 := Tryz.func187.trans (congrArg some (by kernel_rfl))
 f29 := Tryz.func171.trans (congrArg some (by kernel_rfl))
 f46 := ⟨Tryz.f253.name, by decide, Tryz.func253.trans (congrArg some (by kernel_rfl))⟩
 f47 := Tryz.func232.trans (congrArg some (by kernel_rfl))
 f48 := Tryz.func233.trans (congrArg some (by kernel_rfl))
 f49 := ⟨Tryz.f254.name, by decide, Tryz.func254.trans (congrArg some (by kernel_rfl))⟩
 f50 := ⟨Tryz.f255.name, by decide, Tryz.func255.trans (congrArg some (by kernel_rfl))⟩
 f57 := ⟨Tryz.f259.name, by decide, Tryz.func259.trans (congrArg some (by kernel_rfl))⟩
 t0 := Tryz.underlying0
 a0 := Tryz.isAgg0
 z0 := Tryz.sizeOf0
 v0 := Tryz.zeroValue0
 t3 := Tryz.underlying3
 a3 := Tryz.isAgg3
 z3 := Tryz.sizeOf3
 v3 := Tryz.zeroValue3
 t4 := Tryz.underlying4
 a4 := Tryz.isAgg4
 z4 := Tryz.sizeOf4
 v4 := Tryz.zeroValue4
 t5 := Tryz.underlying5
 a5 := Tryz.isAgg5
 z5 := Tryz.sizeOf5
 v5 := Tryz.zeroValue5
 t9 := Tryz.underlying9
 a9 := Tryz.isAgg9
 z9 := Tryz.sizeOf9
 v9 := Tryz.zeroValue9
 t22 := Tryz.underlying175
 a22 := Tryz.isAgg175
 z22 := Tryz.sizeOf175
 v22 := Tryz.zeroValue175
 t25 := Tryz.underlying220
 a25 := Tryz.isAgg220
 z25 := Tryz.sizeOf220
 v25 := Tryz.zeroValue220
 t39 := Tryz.underlying227
 a39 := Tryz.isAgg227
 z39 := Tryz.sizeOf227
 v39 := Tryz.zeroValue227
 t45 := Tryz.underlying272
 a45 := Tryz.isAgg272
 z45 := Tryz.sizeOf272
 v45 := Tryz.zeroValue272
 t46 := Tryz.underlying273
 a46 := Tryz.isAgg273
 z46 := Tryz.sizeOf273
 v46 := Tryz.zeroValue273
 t50 := Tryz.underlying101
 a50 := Tryz.isAgg101
 z50 := Tryz.sizeOf101
 v50 := Tryz.zeroValue101
 t53 := Tryz.underlying267
 a53 := Tryz.isAgg267
 z53 := Tryz.sizeOf267
 v53 := Tryz.zeroValue267
 t55 := Tryz.underlying243
 a55 := Tryz.isAgg243
 z55 := Tryz.sizeOf243
 v55 := Tryz.zeroValue243
 t66 := Tryz.underlying316
 a66 := Tryz.isAgg316
 z66 := Tryz.sizeOf316
 v66 := Tryz.zeroValue316
 t70 := Tryz.underlying320
 a70 := Tryz.isAgg320
 z70 := Tryz.sizeOf320
 v70 := Tryz.zeroValue320
 t76 := Tryz.underlying354
 a76 := Tryz.isAgg354
 z76 := Tryz.sizeOf354
 v76 := Tryz.zeroValue354
 t77 := Tryz.underlying355
 a77 := Tryz.isAgg355
 z77 := Tryz.sizeOf355
 v77 := Tryz.zeroValue355 }
variable {E : Env}
theorem calls_int {P : Program} {f : FuncId} {W : World} {vs : List V} {ws : List Value} {n : Int} (hr : RelL (gIn W) vs ws) (h : ACalls (Env.inp P W) f vs AW.empty fun Y _ => Y = .int .i64 n) :
  Calls P f ws.toArray W fun e w' => e = .returned (.int .i64 n) ∧ ∃ q os, w' = Sort.grow (W.drewN q) os := by
 refine (h.2 (Env.inp_sound P W) _ _ ws (Env.inp_rel P W) hr).mono ?_
 rintro e w' ⟨v, γ', Y, W', rfl, _, _, h4, h5, rfl⟩
 cases h5
 obtain ⟨⟨h1, h2, h3, h6, h7⟩, h8⟩ := h4.below
 refine ⟨rfl, w'.drawn - W.drawn, w'.heap.extract W.heap.size w'.heap.size, ?_⟩
 have hh : w'.heap = W.heap ++ w'.heap.extract W.heap.size w'.heap.size := by
  refine Array.ext_getElem? fun k => ?_
  rw [Array.getElem?_append]
  split
  ·rename_i hk; exact h7 k hk
  ·rename_i hk
   rw [Array.getElem?_extract]
   split
   ·congr 1; omega
   ·exact Array.getElem?_eq_none (by omega)
 have hd : W.drawn + (w'.drawn - W.drawn) = w'.drawn := by have : W.drawn ≤ w'.drawn := h8; omega
 have e1 : (Env.inp P W).w0 = W := rfl
 rw [e1] at h1 h2 h3
 cases w'
 simp only at h1 h2 h3 hh hd
 subst h1 h2 h3
 simp only [Sort.grow, World.drewN, hd]
 congr 1
def encE (e : Ed) : List Value := [.int .u16 e.fr, .int .u16 e.to, .int .u8 e.kd]
theorem rel_cellsL {γ : G} : ∀ {l : List Ed} {c : List Value}, RelL γ (cellsL l) c → c = l.flatMap encE
 | [], _, h => h
 | e :: l, _, ⟨_, _, rfl, h1, _, _, rfl, h2, _, _, rfl, h3, h⟩ => by
  cases h1; cases h2; cases h3
  rw [List.flatMap_cons, ← rel_cellsL (l := l) h]; rfl
theorem cellsL_rel {γ : G} : ∀ {l : List Ed}, RelL γ (cellsL l) (l.flatMap encE)
 | [] => rfl
 | _ :: l => ⟨_, _, rfl, rfl, _, _, rfl, rfl, _, _, rfl, rfl, cellsL_rel (l := l)⟩
theorem flat_at : ∀ (l : List Ed) (t : Nat), t < l.length * 3 → (l.flatMap encE)[t]? = some ((encE l[t / 3]!)[t % 3]!)
 | e :: l, t, h => by
  rw [List.flatMap_cons]
  by_cases h3 : t < 3
  ·rw [List.getElem?_append_left (by simpa [encE] using h3), Nat.div_eq_of_lt h3, Nat.mod_eq_of_lt h3]
   have : t = 0 ∨ t = 1 ∨ t = 2 := by omega
   rcases this with rfl | rfl | rfl <;> rfl
  ·obtain ⟨s, rfl⟩ : ∃ s, t = s + 3 := ⟨t - 3, by omega⟩
   rw [List.getElem?_append_right (by simp [encE]), show s + 3 - (encE e).length = s by simp [encE], flat_at l s (by simp only [lcs] at h; omega), show (s + 3) / 3 = s / 3 + 1 by omega, show (s + 3) % 3 = s % 3 by omega]
   rfl
theorem flat_len (l : List Ed) : (l.flatMap encE).length = l.length * 3 := by
 induction l with
 | nil => rfl
 | cons e l ih => rw [List.flatMap_cons, lap, ih, lcs]; simp [encE]; omega
theorem flat_eq (d : Array Ed) : (flatK encE 3 d).toList = d.toList.flatMap encE := by
 refine List.ext_getElem? fun t => ?_
 by_cases h : t < d.size * 3
 ·rw [flat_at _ _ (by simpa using h), Array.getElem?_toList, Array.getElem?_eq_getElem (by simpa using h), ← getElem!_pos _ t (by simpa using h), get_flatK _ _ _ _ h]
  have h3 : t / 3 < d.size := by omega
  simp [h3]
 ·rw [List.getElem?_eq_none (by simpa using h), List.getElem?_eq_none (by rw [flat_len]; simpa using h)]
theorem sort_c (hP : PE E) (W : AW) (r n : Nat) (d : Array Ed) (hn : d.size = n) (hpos : 0 < n) (hsm : n < 4294967296) :
  ACalls E 131 [.slr r 0 n 3, (.fn (.func 109) [] [])] (pv W r d) fun X W' => X = .tuple [] ∧ W' = pv W r (sort ltE d) := by
 refine ⟨⟨_, _, by rw [hP]; exact Tryz.func131, rfl, by decide⟩, fun _ γ w ws hW hr => ?_⟩
 obtain ⟨v, _, rfl, ⟨b, a, hb, rfl, hcap, ha, _⟩, v2, _, rfl, ⟨fs, cs2, rfl, hf1, hf2⟩, rfl⟩ := hr
 cases hf1; cases hf2
 have hg : (pv W r d).get r = some (.vec 3 (cellsE d)) := pv_get
 obtain ⟨b', pre, c, t, e, hb', hheap, hp, hcl, hz⟩ := hW.obj r _ hg
 rw [hb] at hb'; cases hb'
 obtain rfl := ha (by omega)
 have hc : c = (flatK encE 3 d).toList := by rw [flat_eq]; exact rel_cellsL hcl
 have hbl := (hW.apart r _ b hg hb).2.1
 have hcs : c.length = d.size * 3 := by rw [hc]; simp
 have eg : ∀ args w, (callFunc 109 args).run Tryz.prog w = .ok (.enter 109 args) w := enters_of Tryz.func109 (by kernel_rfl) rfl
 have hcmp : CmpLays Tryz.prog 109 #[] encE 3 cmpE b pre.length d.size w := fun m os dk hs x y =>
  calls_int (P := Tryz.prog) (vs := [x.V, y.V]) (ws := [.agg (encE x).toArray, .agg (encE y).toArray]) ⟨_, _, rfl, ⟨encE x, rfl, ⟨_, _, rfl, rfl, _, _, rfl, rfl, _, _, rfl, rfl, rfl⟩⟩, _, _, rfl, ⟨encE y, rfl, ⟨_, _, rfl, rfl, _, _, rfl, rfl, _, _, rfl, rfl, rfl⟩⟩, rfl⟩ ((less_c rfl AW.empty x y).mono fun _ _ h => h.1)
 have hk := AnyQ.slices_SortFunc laysEd 3 Tryz.isAgg89 Tryz.sizeOf89 encE (fun _ => rfl) (fun x v hv => by
  simp only [encE, List.mem_cons, List.not_mem_nil, or_false] at hv
  rcases hv with rfl | rfl | rfl <;> rfl) cmpE swo_ltE 109 #[] b pre.length ((γ.vb r).2 - 0) d w eg hcmp (holds_at id (flatK encE 3 d) hheap (by rw [hc]; simp)) hbl (by omega)
 rw [hP]
 rw [hn] at hk
 rw [show (γ.vb r).1 + 0 * 3 = pre.length by omega]
 refine Calls.mono hk ?_
 rintro en w' ⟨rfl, d', m, os, hpm, hso, rfl⟩
 have huq : ∀ {x : Array Ed}, PermIn 0 d.size d x → SortedIn ltE 0 d.size x → _ := fun {x} h1 h2 => sorted_unique_holds swo_ltE (fun _ _ => ltE_anti) d x h1 h2
 have hd' : d' = sort ltE d := by
  exact Array.toList_inj.1 ((huq (by rw [hn]; exact hpm) (by rw [hn]; exact hso)).trans (huq (sort_sorts ltE swo_ltE d).1 (sort_sorts ltE swo_ltE d).2).symm)
 have hds : d'.size = d.size := hpm.1
 refine ⟨_, γ, .tuple [], pv (pv W r d) r d', rfl, G.le.refl _ _, lr _, hW.laid hg hb hheap hp hz id (flatK encE 3 d') (by rw [size_flatK, hcs, hds]) ?_ m os, ⟨[], rfl, rfl⟩, rfl, by rw [pv_pv, hd']⟩
 rw [List.map_id, flat_eq]
 exact cellsL_rel
theorem sort_nil (hP : PE E) (W : AW) : ACalls E 131 [.nilsl, (.fn (.func 109) [] [])] W fun X W' => X = .tuple [] ∧ W' = W := by
 refine ⟨⟨_, _, by rw [hP]; exact Tryz.func131, rfl, by decide⟩, fun _ γ w ws hW hr => ?_⟩
 obtain ⟨v, _, rfl, rfl, v2, _, rfl, _, rfl⟩ := hr
 rw [hP]
 refine Calls.mono (AnyF.slices_SortFunc_none laysEd none 0 v2 w) ?_
 rintro en w' ⟨rfl, rfl⟩
 exact ⟨_, γ, .tuple [], W, rfl, G.le.refl _ _, lr _, hW, ⟨[], rfl, rfl⟩, rfl, rfl⟩
end Go.AL.SE
namespace Go.AL.SE
open Go Go.AL Go.AL.S Go.Proofs Go.Sort
def c_e46 : AC := (.r [.u 4 (.load false 1) 1,.u 5 .rangem 4] (.block 0 (.loop (.r [.u 6 .nextm 5,.u 7 (.ext 0) 6] (.seq (.w 7 0) (.block 1 (.r [.u 8 .entry 5,.u 9 (.ext 0) 8,.p 3 (.alloc [.int .u16 0,.int .u16 0,.int .u8 0]) [],⟨none,.store 3, [.t 3,.t 9], none⟩] (.r [.m 10 0,.u 11 (.load true 3) 3,.b 12 .callv 10 11,.u 13 (.un .not) 12] (.cond (.t 13) .ret .skip)))))))))
theorem ok_e46e : compF Tryz.prog Tryz.f132 ⟨true, false, []⟩ = some (c_e46, [], 14) := by kernel_rfl
def c_e53 : AC := (.r [.u 2 .box 0,.v 4 (.nilsl)] (.seq (.r [.m 6 1] (.block 0 (.rangef (.t 6) [7] (.reg [.p 5 (.alloc [.int .u16 0,.int .u16 0,.int .u8 0]) [],⟨none,.store 3, [.t 5,.t 7], none⟩]) (.block 1 (.reg [.u 8 (.load false 1) 2,.u 9 (.load true 3) 5,.u 10 (.bslice 3 1 (.agg [.int .u16 0,.int .u16 0,.int .u8 0]) [0]) 9,.b 11 (.appendx 3 6 [.int .u16 0,.int .u16 0,.int .u8 0]) 8 10,⟨none,.store 1, [.t 2,.t 11], none⟩]))))) (.r [.u 12 (.load false 1) 2,.m 4 12] .ret)))
theorem ok_e53e : compF Tryz.prog Tryz.f168 ⟨true, false, []⟩ = some (c_e53, [.tmp 4], 13) := by kernel_rfl
def c_e44 : AC := (.r [.v 2 (.nilsl)] (.r [.m 3 0,.p 4 (.call 168) [.c (.nilsl),.t 3],.m 2 4] .ret))
theorem ok_e44e : compF Tryz.prog Tryz.f130 ⟨true, false, []⟩ = some (c_e44, [.tmp 2], 5) := by kernel_rfl
def c_e34 : AC := (.r [.v 4 (.nilsl)] (.r [.m 6 0,.u 7 (.call 130) 6,.m 5 7] (.r [.m 8 5,.m 9 1,.b 10 (.call 131) 8 9] (.r [.m 11 5,.m 4 11] .ret))))
theorem ok_e34e : compF Tryz.prog Tryz.f107 ⟨true, false, []⟩ = some (c_e34, [.tmp 4], 12) := by kernel_rfl
def c_e35 : AC := (.r [.u 1 .box 0,.v 2 (.nilfn)] (.r [.u 3 (.mkfn (.func 132) 0) 1,.m 2 3] .ret))
theorem ok_e35e : compF Tryz.prog Tryz.f108 ⟨true, false, []⟩ = some (c_e35, [.tmp 2], 4) := by kernel_rfl
variable {E : Env}
def edOf (e : En) : Ed := match e.1 with
 | .agg [.int _ a, .int _ b, .int _ c] => ⟨a, b, c⟩
 | _ => ⟨0, 0, 0⟩
theorem keysE_iter (hP : PE E) {W : AW} {y pb m clock : Nat} {es : List En} (hb : W.get pb = some (.row [.map m])) (hm : W.get m = some (.map es clock)) (hf : Fresh es clock) (hlt : m < W.nx) (_ : pb < W.nx)
  (hk : ∀ e ∈ es, e.1 = (edOf e).V) (J : List En → AW → Prop) (h0 : J [] (W.alloc (.iter (some m) clock [] clock)))
  (hJ : ∀ done W1, J done W1 → Cl W1 ∧ W.nx < W1.nx ∧ W1.get W.nx = some (.iter (some m) clock (stamps done) clock) ∧ W1.get m = some (.map es clock))
  (hmono : ∀ (vs : List V) (W1 : AW) (K K' : V → AW → Prop), (∀ v W', K v W' → K' v W') → E.yield y vs W1 K → E.yield y vs W1 K')
  (hy : ∀ done e W1, J done W1 → e ∈ es → e.2.2 ∉ stamps done → done.length < es.length → E.yield y [(edOf e).V] (X (W1.put W.nx (.iter (some m) clock (stamps done ++ [e.2.2]) clock)) W1.nx [.row (cE (edOf e))]) (fun Y W2 => Y = .bool true ∧ J (done ++ [e]) W2)) :
  ACalls E 132 [.yld y, .ptr pb 0] W fun Y W' => Y = .tuple [] ∧ ∃ done : List En, done.Perm es ∧ J done W' := by
 refine ACalls.of hP Tryz.func132 ok_e46e (by simp) fun _ hok => ?_
 have hl : partV [V.map m] 0 1 false = some (.map m) := rfl
 simp only [c_e46, BZ, ↓reduceIte, sem_load_row hb hl, sem_rangem hm, e_loop]
 refine alp (fun (done : List En) A1 W1 => A1 0 = some (.yld y) ∧ A1 5 = some (.ptr W.nx 0) ∧ J done W1 ∧ (stamps done).Nodup ∧ ∀ e ∈ done, e ∈ es) (fun done => es.length - done.length) []
  ⟨rfl, rfl, h0, List.nodup_nil, by simp⟩ ?_
 rintro done A1 W1 ⟨g0, g5, gJ, gn, gs⟩ _
 obtain ⟨k0, k1, k2, k3⟩ := hJ _ _ gJ
 simp only [BX, ↓reduceIte, nE, g5, sem_nextm k2 k3]
 refine ⟨?_, ?_, ?_⟩
 ·cases es with
  | nil => exact .inr (.inl rfl)
  | cons e es => exact .inr (.inr ⟨e, by simp, hf.lt e (by simp)⟩)
 ·intro hall
  refine ⟨_, rfl, _, _, .weak weak_id, Nat.le_of_lt k1, rfl, done, ?_, gJ⟩
  refine perm_of_mem (nodup_of_stamps gn) (nodup_of_stamps hf.nodup) fun x => ⟨gs x, fun hx => ?_⟩
  by_cases hm' : x.2.2 ∈ stamps done
  ·obtain ⟨x', h1, h2⟩ := List.mem_map.1 hm'
   rwa [← same_stamp hf.nodup (gs x' h1) hx h2]
  ·have := hall x hx hm'
   have := hf.lt x hx
   omega
 ·intro e he hne
  have hlen : done.length < es.length := by
   have h1 := length_le_of_sub (l := done ++ [e]) (m := es) (nodup_of_stamps (by
     simp only [stamps, mpp, mcs, List.map_nil]
     exact List.nodup_append.2 ⟨gn, by simp, fun a ha b hb => by
      rw [List.mem_singleton.1 hb]
      exact fun e' => hne (e' ▸ ha)⟩)) (fun x hx => by
      rcases List.mem_append.1 hx with hx | hx
      ·exact gs x hx
      ·rw [List.mem_singleton.1 hx]; exact he)
   simp at h1; omega
  obtain ⟨W2, hW2⟩ : ∃ W2, W2 = W1.put W.nx (.iter (some m) clock (stamps done ++ [e.2.2]) clock) := ⟨_, rfl⟩
  have hyv := hy done e W1 gJ he hne hlen
  rw [← hW2] at hyv ⊢
  have hn2 : W2.nx = W1.nx := by rw [hW2]; rfl
  have hC2 : Cl W2 := by rw [hW2]; exact k0.put k1
  have hne' : m ≠ W.nx := by omega
  have j1 : W2.get W.nx = some (.iter (some m) clock (stamps done ++ [e.2.2]) clock) := by rw [hW2, S.put_at]
  have j2 : W2.get m = some (.map es clock) := by rw [hW2, S.put_ne hne']; exact k3
  have j3 : (stamps done ++ [e.2.2]).getLast? = some e.2.2 := by simp
  rw [sem_entry j1 j2 j3 (Fresh.find hf.nodup he), hk e he]
  rw [← hn2] at hyv
  rw [hC2.start]
  simp (maxSteps:=9^9) (disch:=omega) only [BZ, ↓reduceIte, nE, reduceCtorEq, BM, BD, nA, nL, nT, Ed.V, g0, sem_yield]
  refine hmono _ _ _ _ ?_ hyv
  rintro Y W3 ⟨rfl, gJ2⟩
  obtain ⟨l0, l1, l2, l3⟩ := hJ _ _ gJ2
  simp only [BS, BC, cond_if, ↓reduceIte, nE, reduceCtorEq, BD, g0, g5]
  refine ⟨done ++ [e], ⟨tt, tt, gJ2, ?_, ?_⟩, ?_, ?_⟩
  ·simp only [stamps, mpp, mcs, List.map_nil]
   exact List.nodup_append.2 ⟨gn, by simp, fun a ha b hb => by
    rw [List.mem_singleton.1 hb]
    exact fun e' => hne (e' ▸ ha)⟩
  ·intro x hx
   rcases List.mem_append.1 hx with hx | hx
   ·exact gs x hx
   ·rw [List.mem_singleton.1 hx]; exact he
  ·simp; omega
  ·rw [alloc_nx]; omega
theorem bs3 {W : AW} {K : V → AW → Prop} {a b c : V} (_ : a.cells = [a]) (_ : b.cells = [b]) (_ : c.cells = [c]) : sem E (.bslice 3 1 (.agg [.int .u16 0, .int .u16 0, .int .u8 0]) [0]) [.agg [a, b, c]] W K = K (.sl 3 true [.agg [a, b, c]]) W := by
 simp [sem, rsem, tsem, fillE, V.cells]
theorem appxE_nil {W : AW} {K : V → AW → Prop} {by' : Nat} {z : List V} {v : V} (h : by' ≤ 2 ^ 46) : sem E (.appendx 3 by' z) [.nilsl, .sl 3 true [v]] W K = K (.slr W.nx 0 1 3) (W.alloc (.vec 3 v.cells)) := by
 simp [sem, elemsV, h]
theorem appxE_slr {W : AW} {K : V → AW → Prop} {by' r len : Nat} {z cells : List V} {v : V} (hg : W.get r = some (.vec 3 cells)) (hl : cells.length = len * 3) (hv : v.cells.all V.one = true) (h : (len + 1) * by' ≤ 2 ^ 46) :
  sem E (.appendx 3 by' z) [.slr r 0 len 3, .sl 3 true [v]] W K = K (.slr W.nx 0 (len + 1) 3) (W.move r (.vec 3 (cells ++ v.cells))) := by
 have ht : cells.take (len * 3) = cells := List.take_of_length_le (by omega)
 simp only [sem, elemsV, hg]
 simp [hl, hv, h, ht]
theorem X_move {W : AW} {n r : Nat} {l : List AObj} {o : AObj} (h : r < n) : (X W n l).move r o = X (W.drop r) n (l ++ [o]) := by
 refine aw_ext (fun x => ?_) (by simp [AW.move, X, Nat.add_assoc])
 rw [X_gets]
 simp only [AW.move, X_nx, rf, X_gets, AW.drop]
 by_cases h1 : x = n + l.length
 ·subst h1
  rw [if_pos rfl, if_neg (by omega)]
  simp
 ·rw [if_neg h1]
  by_cases h2 : x = r
  ·subst h2
   rw [if_pos rfl, if_pos h, if_pos rfl]
  ·rw [if_neg h2]
   by_cases h3 : x < n
   ·rw [if_pos h3, if_pos h3, if_neg h2]
   ·rw [if_neg h3, if_neg h3, List.getElem?_append]
    split
    ·rfl
    ·rw [List.getElem?_eq_none (by omega), List.getElem?_eq_none (by simp; omega)]
theorem drop_ne {W : AW} {r x : Nat} (h : x ≠ r) : (W.drop r).get x = W.get x := by simp [AW.drop, h]
theorem cells_slr {r k l s : Nat} : (V.slr r k l s).cells = [.slr r k l s] := id rfl
theorem one_slr {r k l s : Nat} : (V.slr r k l s).one = true := id rfl
theorem collectE_c (hP : PE E) {W : AW} {pb m clock : Nat} {es : List En} (hb : W.get pb = some (.row [.map m])) (hm : W.get m = some (.map es clock)) (hf : Fresh es clock) (hpb : pb < W.nx) (hmlt : m < W.nx)
  (hk : ∀ e ∈ es, e.1 = (edOf e).V) (hsz : es.length < 2 ^ 40) :
  ACalls E 168 [.nilsl, .fn (.func 132) [] [.ptr pb 0]] W fun Y W' => ∃ done : List En, done.Perm es ∧ Ex W W' ∧
   ((done = [] ∧ Y = .nilsl) ∨ ∃ r, (W.nx ≤ r ∧ done ≠ []) ∧ r < W'.nx ∧ Y = .slr r 0 done.length 3 ∧ W'.get r = some (.vec 3 (cellsL (done.map edOf)))) := by
 refine ACalls.of hP Tryz.func168 ok_e53e (by simp) fun _ hok => ?_
 refine awp_start hok ?_
 simp only [c_e53, BZ, ↓reduceIte, nE, BM, BD, awp_rangef']
 intro E' eP eG ey _
 have hP' : E'.P = Tryz.prog := eP.trans hP
 obtain ⟨W0, hW0⟩ : ∃ W0, W0 = X W W.nx [.row [.nilsl], .loop .ready none] := ⟨_, rfl⟩
 rw [← hW0]
 have hn0 : W0.nx = W.nx + 2 := by rw [hW0]; rfl
 have hE0 : Ex W W0 := by rw [hW0]; exact .x0
 have hq0 : W0.get (W.nx + 0) = some (.row [.nilsl]) := by rw [hW0]; exact X_get (k := 0)
 have hr0 : W0.get (W.nx + 1) = some (.loop .ready none) := by rw [hW0]; exact X_get (k := 1)
 have r0 : rf W.nx 0 = W.nx + 0 := rfl
 have r1 : rf W.nx 1 = W.nx + 1 := rfl
 refine (keysE_iter (E := E') hP' (W := W0) (y := rf W.nx 1) (pb := pb) (m := m) (clock := clock) (es := es) (by rw [hE0.get _ hpb]; exact hb) (by rw [hE0.get _ hmlt]; exact hm) hf (by omega) (by omega) hk
  (fun done W1 => Cl W1 ∧ W0.nx < W1.nx ∧ W1.get W0.nx = some (.iter (some m) clock (stamps done) clock) ∧ (∀ x, x < W.nx → W1.get x = W.get x) ∧ W1.get (W.nx + 1) = some (.loop .ready none) ∧
   ((done = [] ∧ W1.get (W.nx + 0) = some (.row [.nilsl])) ∨ ∃ r, (W0.nx < r ∧ done ≠ []) ∧ r < W1.nx ∧ W1.get (W.nx + 0) = some (.row [.slr r 0 done.length 3]) ∧ W1.get r = some (.vec 3 (cellsL (done.map edOf))))) ?_ ?_ (fun vs W1 K K' hh hy => E'.yieldMono _ _ _ _ _ hh hy) ?_).mono ?_
 ·refine ⟨fun x hx => ?_, by rw [alloc_nx]; omega, by rw [alloc_at]; rfl, fun x hx => by rw [alloc_lt (by omega), hE0.get x hx], by rw [alloc_lt (by omega)]; exact hr0, .inl ⟨rfl, by rw [alloc_lt (by omega)]; exact hq0⟩⟩
  rw [alloc_nx] at hx
  rw [al_gets, if_neg (by omega)]
  exact hE0.cl x (by omega)
 ·rintro done W1 ⟨j0, j1, j2, j3, j4, j5⟩
  exact ⟨j0, j1, j2, by rw [j3 m hmlt]; exact hm⟩
 ·rintro done e W1 ⟨j0, j1, j2, j3, j4, j5⟩ he hne hlen
  apply ey
  have hst : ∀ (l : List En), stamps (l ++ [e]) = stamps l ++ [e.2.2] := fun l => by simp [stamps]
  refine ⟨by rw [X_old (by omega), put_ne (by omega)]; exact j4, rfl, ?_⟩
  rw [← r0] at j5
  rw [← r1] at j4
  have hcl : cellsL ([e].map edOf) = cE (edOf e) := by simp [cellsL]
  rcases j5 with ⟨rfl, j5⟩ | ⟨r, ⟨q1, q2⟩, q3, j5, q4⟩
  ·simp (maxSteps:=9^9) (disch:=omega) only [BS, BC, ↓reduceIte, nE, reduceCtorEq, BM, BD, nA, nL, nT, e_puts1, e_endQ, Ed.V, cE, S.put_ne, S.put_at, j4, j5, bs3 cells_int cells_int cells_int, appxE_nil (by' := 6) (by decide), cells_slr, one_slr]
   refine ⟨tt, tt, tt, Cl.X, (by first | omega | (simp only [rf]; omega) | (simp only [rf, X, lcs, List.length_nil, Nat.zero_add]; omega) | (simp [rf, X]; omega)), ?_, fun x hx => ?_, ?_, .inr ⟨rf W1.nx 2, ⟨(by first | omega | (simp only [rf]; omega) | (simp only [rf, X, lcs, List.length_nil, Nat.zero_add]; omega) | (simp [rf, X]; omega)), by simp⟩, by simp [rf], ?_, ?_⟩⟩
   ·(try simp (maxSteps:=9^9) (disch:=omega) only [X_old, S.put_ne, S.put_at]); rfl
   ·(try simp (maxSteps:=9^9) (disch:=omega) only [X_old, S.put_ne]); exact j3 x hx
   ·rw [← r1]; simp (maxSteps:=9^9) (disch:=omega) only [S.put_at]
   ·show AW.get _ (rf W.nx 0) = _; (try simp (maxSteps:=9^9) (disch:=omega) only [S.put_at]); (try rfl)
   ·(try rw [X_get]); (try simp only [List.nil_append, hcl]); (try rfl)
  ·have hcn : (cellsL (done.map edOf)).length = done.length * 3 := by rw [cellsL_len]; simp
   have happ : ∀ (o : List AObj) o1 o2 K (a b c : Int), sem E (.appendx 3 6 [.int .u16 0, .int .u16 0, .int .u8 0]) [.slr r 0 done.length 3, .sl 3 true [.agg [.int .u16 a, .int .u16 b, .int .u8 c]]] (X ((W1.put W0.nx o1).put (rf W.nx 1) o2) W1.nx o) K = K (.slr (rf W1.nx o.length) 0 (done.length + 1) 3) (X (((W1.put W0.nx o1).put (rf W.nx 1) o2).drop r) W1.nx (o ++ [.vec 3 (cellsL (done.map edOf) ++ [.int .u16 a, .int .u16 b, .int .u8 c])])) := fun o o1 o2 K a b c => by
    rw [appxE_slr (v := .agg [.int .u16 a, .int .u16 b, .int .u8 c]) (len := done.length) (cells := cellsL (done.map edOf)) (by rw [X_old q3, S.put_ne (by omega), S.put_ne (by omega)]; exact q4) hcn rfl (by omega), X_move q3]
    rfl
   have hdrop : ∀ (B : AW) x, x ≠ r → (B.drop r).get x = B.get x := fun B x hx => drop_ne hx
   simp (maxSteps:=9^9) (disch:=omega) only [BS, BC, ↓reduceIte, nE, BM, BD, nA, nL, nT, e_puts1, e_endQ, Ed.V, cE, S.put_ne, S.put_at, j4, j5, bs3 cells_int cells_int cells_int, happ, hdrop, cells_slr, one_slr]
   refine ⟨tt, tt, tt, Cl.X, (by first | omega | (simp only [rf]; omega) | (simp only [rf, X, lcs, List.length_nil, Nat.zero_add]; omega) | (simp [rf, X]; omega)), ?_, fun x hx => ?_, ?_, .inr ⟨rf W1.nx 2, ⟨(by first | omega | (simp only [rf]; omega) | (simp only [rf, X, lcs, List.length_nil, Nat.zero_add]; omega) | (simp [rf, X]; omega)), by simp⟩, by simp [rf], ?_, ?_⟩⟩
   ·(try simp (maxSteps:=9^9) (disch:=omega) only [X_old, S.put_ne, S.put_at, hdrop]); rw [hst]
   ·(try simp (maxSteps:=9^9) (disch:=omega) only [X_old, S.put_ne, hdrop]); exact j3 x hx
   ·rw [← r1]; simp (maxSteps:=9^9) (disch:=omega) only [S.put_at]
   ·show AW.get _ (rf W.nx 0) = _; simp (maxSteps:=9^9) (disch:=omega) only [S.put_at]
   ·(try rw [X_get]); simp only [mpp, cellsL, List.flatMap_append]; simp [cE]
 ·rintro Y W1 ⟨rfl, done, hperm, j0, j1, j2, j3, j4, j5⟩
  rw [← r0] at j5
  rw [← r1] at j4
  simp only [doneQ, j4]
  have hC : Cl (W1.put (rf W.nx 1) (.loop .exhausted none)) := j0.put (by omega)
  have hx : ∀ x, x < W.nx → (W1.put (rf W.nx 1) (.loop .exhausted none)).get x = W.get x := fun x hx => by rw [S.put_ne (by omega)]; exact j3 x hx
  rcases j5 with ⟨rfl, j5⟩ | ⟨r, ⟨q1, q2⟩, q3, j5, q4⟩
  ·simp (maxSteps:=9^9) (disch:=omega) only [BZ, ↓reduceIte, nE, BM, S.put_ne, j5]
   exact ⟨_, rfl, _, _, .weak weak_id, by rw [put_nx]; omega, [], hperm, ⟨hC, by rw [put_nx]; omega, hx⟩, .inl ⟨rfl, rfl⟩⟩
  ·simp (maxSteps:=9^9) (disch:=omega) only [BZ, ↓reduceIte, nE, BM, S.put_ne, j5]
   exact ⟨_, rfl, _, _, .weak weak_id, by rw [put_nx]; omega, done, hperm, ⟨hC, by rw [put_nx]; omega, hx⟩, .inr ⟨r, ⟨by omega, q2⟩, by rw [put_nx]; exact q3, rfl, by rw [S.put_ne (by omega)]; exact q4⟩⟩
theorem collect44_c (hP : PE E) {W : AW} {pb m clock : Nat} {es : List En} (hb : W.get pb = some (.row [.map m])) (hm : W.get m = some (.map es clock)) (hf : Fresh es clock) (hpb : pb < W.nx) (hmlt : m < W.nx)
  (hk : ∀ e ∈ es, e.1 = (edOf e).V) (hsz : es.length < 2 ^ 40) :
  ACalls E 130 [.fn (.func 132) [] [.ptr pb 0]] W fun Y W' => ∃ done : List En, done.Perm es ∧ Ex W W' ∧
   ((done = [] ∧ Y = .nilsl) ∨ ∃ r, (W.nx ≤ r ∧ done ≠ []) ∧ r < W'.nx ∧ Y = .slr r 0 done.length 3 ∧ W'.get r = some (.vec 3 (cellsL (done.map edOf)))) := by
 refine ACalls.of hP Tryz.func130 ok_e44e (by simp) fun _ hok => ?_
 simp only [c_e44, BZ, ↓reduceIte, reduceCtorEq]
 refine (collectE_c hP hb hm hf hpb hmlt hk hsz).mono ?_
 rintro Y W' ⟨done, h1, h2, h3⟩
 have hfr : W'.frz Y = Y := by rcases h3 with ⟨_, rfl⟩ | ⟨r, _, _, rfl, _⟩ <;> rfl
 simp only [BS, BC, ↓reduceIte, hfr]
 exact ⟨_, rfl, _, _, .weak weak_id, h2.nx, done, h1, h2, h3⟩
theorem sortE_perm (d : Array Ed) : (sort ltE d).toList.Perm d.toList := by
 have := (sort_sorts ltE swo_ltE d).1
 have h := this.2.2
 rw [show (sort ltE d).extract 0 d.size = (sort ltE d) from by rw [← this.1]; simp, show d.extract 0 d.size = d from by simp] at h
 exact h
theorem sortE_pw (d : Array Ed) : (sort ltE d).toList.Pairwise fun a b => ltE b a = false := by
 have hp := sortE_perm d
 have := (sort_sorts ltE swo_ltE d).2
 rw [List.pairwise_iff_getElem]
 intro i j hi hj hij
 have hs : (sort ltE d).size = d.size := by simpa using hp.length_eq
 have h1 := this i j (Nat.zero_le _) hij (by simpa [hs] using hj)
 have hi' : i < (sort ltE d).size := by simpa using hi
 have hj' : j < (sort ltE d).size := by simpa using hj
 simpa [hi', hj'] using h1
def sortL (l : List Ed) : List Ed := (sort ltE l.toArray).toList
theorem sortL_perm (l : List Ed) : (sortL l).Perm l := sortE_perm l.toArray
theorem sortL_pw (l : List Ed) : (sortL l).Pairwise fun a b => ltE b a = false := sortE_pw _
theorem sortL_unique {l m : List Ed} (h : l.Perm m) (hm : m.Pairwise fun a b => ltE b a = false) : sortL l = m := by
 refine ((sortL_perm l).trans h).eq_of_pairwise ?_ (sortL_pw l) hm
 intro x y _ _ h1 h2
 exact ltE_anti h2 h1
theorem sortL_eq {l l' : List Ed} (h : l.Perm l') : sortL l = sortL l' := sortL_unique (h.trans (sortL_perm l').symm) (sortL_pw l')
def sortedEV (l : List Ed) : V := if l = [] then .nilsl else .sl 3 false ((sortL l).map Ed.V)
theorem chunks3 : ∀ (l : List Ed), chunks 3 l.length (cellsL l) = l.map Ed.V
 | [] => rfl
 | e :: l => by
  have := chunks3 l
  show (if 3 = 1 then _ else V.agg ((cellsL (e :: l)).take 3)) :: chunks 3 l.length ((cellsL (e :: l)).drop 3) = _
  rw [if_neg (by decide), show cellsL (e :: l) = cE e ++ cellsL l from rfl, show (cE e ++ cellsL l).drop 3 = cellsL l from rfl, this]
  rfl
theorem one_cellsL : ∀ (l : List Ed), (cellsL l).all V.one = true
 | [] => rfl
 | e :: l => by
  rw [show cellsL (e :: l) = cE e ++ cellsL l from rfl, List.all_append, one_cellsL l]; rfl
theorem bel_edV (n : Nat) : ∀ (l : List Ed), V.belL n (l.map Ed.V) = true
 | [] => rfl
 | e :: l => by
  simp only [mcs, V.belL, Bool.and_eq_true]
  exact ⟨rfl, bel_edV n l⟩
theorem sortedE_c (hP : PE E) {W : AW} {pb m clock : Nat} {es : List En} (hb : W.get pb = some (.row [.map m])) (hm : W.get m = some (.map es clock)) (hf : Fresh es clock) (hpb : pb < W.nx) (hmlt : m < W.nx)
  (hk : ∀ e ∈ es, e.1 = (edOf e).V) (hsz : es.length < 4294967296) :
  ACalls E 107 [.fn (.func 132) [] [.ptr pb 0], (.fn (.func 109) [] [])] W fun Y W' => Y = sortedEV (es.map edOf) ∧ W' = W := by
 refine ACalls.of hP Tryz.func107 ok_e34e (by simp) fun _ hok => ?_
 simp only [c_e34, BZ, ↓reduceIte, reduceCtorEq]
 refine (collect44_c hP hb hm hf hpb hmlt hk (by omega)).mono ?_
 rintro Y W' ⟨done, h1, h2, h4⟩
 rcases h4 with ⟨rfl, rfl⟩ | ⟨r, ⟨hr, hne⟩, hrn, rfl, hg⟩
 ·obtain rfl : es = [] := h1.symm.eq_nil
  simp only [BZ, ↓reduceIte, nE]
  refine pc (sort_nil hP _) ?_
  simp only [BZ, ↓reduceIte, nE]
  exact ⟨_, rfl, _, W, h2.back hok rfl, lr _, rfl, rfl⟩
 ·have hlen : done.length = es.length := h1.length_eq
  have hsd : (done.map edOf).toArray.size = done.length := by simp
  have hce : cellsL (done.map edOf) = cellsE (done.map edOf).toArray := by simp [cellsE]
  rw [hce] at hg
  have hpv := pv_self hg
  simp only [BZ, ↓reduceIte, nE]
  rw [← hpv]
  refine (sort_c hP W' r done.length (done.map edOf).toArray hsd (List.length_pos_iff.2 hne) (by omega)).mono ?_
  rintro Y W'' ⟨rfl, rfl⟩
  simp only [BZ, ↓reduceIte, nE]
  have hzl : (sortL (done.map edOf)).length = done.length := by rw [(sortL_perm _).length_eq]; simp
  have hzs : cellsE (sort ltE (done.map edOf).toArray) = cellsL (sortL (done.map edOf)) := rfl
  have hpos : 0 < done.length := List.length_pos_iff.2 hne
  have hX : V.sl 3 false ((sortL (done.map edOf)).map Ed.V) = sortedEV (es.map edOf) := by
   have : es.map edOf ≠ [] := by
    intro e
    have := congrArg List.length e
    simp at this
    subst this
    simp at hlen
    exact hne hlen
   rw [sortedEV, if_neg this, sortL_eq (h1.map edOf)]
  have hch : chunks 3 done.length (cellsL (sortL (done.map edOf))) = (sortL (done.map edOf)).map Ed.V := by rw [← hzl]; exact chunks3 _
  refine ⟨_, rfl, .sl 3 false ((sortL (done.map edOf)).map Ed.V), W, ?_, lr _, hX, rfl⟩
  rw [← hch]
  refine .frz (by rw [pv_get, hzs]) (by rw [cellsL_len, hzl]) hpos (by decide) (one_cellsL _) ?_
  refine weak_back hok (by rw [hch]; exact bel_edV _ _) ?_
  intro x hx
  have : x ≠ r := by omega
  simp only [AW.drop, pv, AW.put, this, ↓reduceIte]
  exact h2.get x hx
end Go.AL.SE
namespace Go.AL.S
open Go Go.AL Go.AL.SE Go.Proofs
def toEd (e : Ek) : Ed := ⟨e.1, e.2.1, e.2.2⟩
def ofEd (e : Ed) : Ek := (e.fr, e.to, e.kd)
theorem of_to (e : Ek) : ofEd (toEd e) = e := rfl
theorem to_of (e : Ed) : toEd (ofEd e) = e := rfl
def edL (P : List Ek) : List Ed := sortL ((keysE (tally P)).map toEd)
theorem edL_perm (P : List Ek) : (edL P).Perm ((keysE (tally P)).map toEd) := sortL_perm _
theorem edL_mem {P : List Ek} {e : Ed} : e ∈ edL P ↔ ofEd e ∈ P := by
 rw [(edL_perm P).mem_iff, mmp]
 constructor
 ·rintro ⟨x, hx, rfl⟩; rw [of_to]; exact (tally_mem P x).1 hx
 ·intro h; exact ⟨ofEd e, (tally_mem P _).2 h, to_of e⟩
theorem edL_len (P : List Ek) : (edL P).length = (keysE (tally P)).length := by
 rw [(edL_perm P).length_eq, lmp]
theorem edL_le (P : List Ek) : (edL P).length ≤ P.length := by
 rw [edL_len]; simp only [keysE, lmp]; exact tally_len P
theorem endR_ok {s : Str} {i st : Int} : (endR s i st).2 = 0 ↔ ∃ t, find s i = some t ∧ t.st = 0 := by
 unfold endR
 cases hf : find s i with
 | none => simp
 | some t =>
  by_cases h : t.st = 0
  ·simp [h]
  ·simp [h]
theorem endR_err {s : Str} {i st : Int} (h : (endR s i st).2 ≠ 0) : (endR s i st).1 = s := by
 unfold endR at h ⊢
 cases hf : find s i with
 | none => rfl
 | some t =>
  rw [hf] at h
  by_cases h0 : t.st = 0
  ·simp [h0] at h
  ·simp [h0]
theorem beginR_cases (s : Str) (c i : Int) (l : List Mi) : (beginR s c i l).2 ≠ 0 ∧ (beginR s c i l).1 = s ∨ (beginR s c i l).2 = 0 ∧ (beginR s c i l).1 = s ++ [⟨i, c, l, [], 0⟩] := by
 unfold beginR
 by_cases h1 : okB c l = true
 ·by_cases h2 : i ≤ lastId s
  ·simp [h1, h2]
  ·by_cases h3 : freshB s l = true
   ·simp [h1, h2, h3]
   ·simp [h1, h2, h3]
 ·simp [h1]
end Go.AL.S
namespace Go.AL.S
open Go Go.AL Go.Proofs
variable {E : Env}
def gmap (P : List Ek) : AObj := .map (gFrom 0 (tally P)) (tally P).length
structure ekOk (e : Ek) : Prop where
 a : 0 ≤ e.1 ∧ e.1 < 65536
 b : 0 ≤ e.2.1 ∧ e.2.1 < 65536
 c : 0 ≤ e.2.2 ∧ e.2.2 < 256
abbrev shE : Bool × List SK := (true, [.i .u16, .i .u16, .i .u8])
theorem ekV_has {e : Ek} (h : ekOk e) : (ekV e).has shE = true := by
 obtain ⟨⟨h1, h2⟩, ⟨h3, h4⟩, h5, h6⟩ := h
 simp [ekV, V.has, V.isAgg, V.cells, V.hasKs, V.hasK, Lit.wf, IntKind.min, IntKind.max, IntKind.signed, IntKind.bits]
 omega
theorem g_keys {l : List (Ek × Int)} (h : ∀ x ∈ l, ekOk x.1) {e : Ek} (he : ekOk e) : ∀ n, keysOk shE (ekV e) (gFrom n l) := by
 intro n
 refine ⟨ekV_has he, ?_⟩
 induction l generalizing n with
 | nil => intro e he; simp [gFrom] at he
 | cons x l ih =>
  intro e he
  rcases List.mem_cons.1 he with rfl | he
  ·exact ekV_has (h x (by simp))
  ·exact ih (fun x hx => h x (by simp [hx])) _ e he
theorem tally_ok {P : List Ek} (h : ∀ x ∈ P, ekOk x) : ∀ x ∈ tally P, ekOk x.1 := fun x hx => h _ ((tally_mem P _).1 (List.mem_map.2 ⟨x, hx, rfl⟩))
theorem lookK_g {sh : Bool × List SK} {l : List (Ek × Int)} {e : Ek} {n : Nat} {k : V → Prop} : lookK sh (.int .i64 0) false (ekV e) (gFrom n l) k = k (.int .i64 ((getE l e).getD 0)) := by
 have := findK_g e l n
 unfold lookK
 cases hg : getE l e with
 | none => rw [hg] at this; simp only at this; rw [this]; rfl
 | some c => rw [hg] at this; obtain ⟨i, h1, _⟩ := this; rw [h1]; rfl
theorem setS_snoc (l : List (Ek × Int)) (e : Ek) (c c' : Int) : ∀ n, setS (n + l.length) (.int .i64 c') (gFrom n (l ++ [(e, c)])) = some (gFrom n (l ++ [(e, c')])) := by
 induction l with
 | nil => intro n; simp [gFrom, setS]
 | cons x l ih =>
  intro n
  have := ih (n + 1)
  simp only [List.cons_append, gFrom, setS, lcs]
  rw [if_neg (by omega), show n + (l.length + 1) = n + 1 + l.length by omega, this]; rfl
theorem put_put {W : AW} {r : Nat} {a b : AObj} : (W.put r a).put r b = W.put r b := by
 simp only [AW.put, AW.mk.injEq, and_true]
 funext x
 by_cases h : x = r <;> simp [h]
theorem wrapn {c : Int} (h0 : 0 ≤ c) (h : c < 2 ^ 41) : IntKind.i64.wrap c = c := by
 simp only [IntKind.wrap, IntKind.signed, IntKind.bits]
 simp
 omega
theorem g_bel (l : List (Ek × Int)) (m : Nat) : ∀ n, ((gFrom n l).all fun e => e.1.bel m && e.2.1.bel m) = true := by
 induction l with
 | nil => intro n; rfl
 | cons t s ih => intro n; simp only [gFrom, List.all_cons, ih, Bool.and_true]; rfl
theorem gmap_bel (P : List Ek) (m : Nat) : (gmap P).bel m = true := g_bel _ _ _
theorem tally_hit {P : List Ek} {e : Ek} {c : Int} (h : getE (tally P) e = some c) : gmap (P ++ [e]) = .map (gFrom 0 (setE (tally P) e (c + 1))) (tally P).length := by
 have hk := congrArg List.length (keys_set (tally P) e (c + 1))
 simp only [keysE, lmp] at hk
 have : tally (P ++ [e]) = setE (tally P) e (c + 1) := by rw [tally_snoc, bumpL, h]
 simp only [gmap, this, hk]
theorem tally_new {P : List Ek} {e : Ek} (h : getE (tally P) e = none) : gmap (P ++ [e]) = .map (gFrom 0 (tally P ++ [(e, 1)])) ((tally P).length + 1) := by
 have : tally (P ++ [e]) = tally P ++ [(e, 1)] := by rw [tally_snoc, bumpL, h]
 simp only [gmap, this, lap, lcs, List.length_nil]
theorem get_cnt {P : List Ek} {e : Ek} {c : Int} (h : getE (tally P) e = some c) : 0 < c ∧ c ≤ P.length := by
 rw [tally_get] at h
 split at h
 ·rename_i hm
  have := List.count_pos_iff.2 hm
  have := List.count_le_length (a := e) (l := P)
  cases h; omega
 ·cases h
theorem edge_c (hP : PE E) (W : AW) {p o g m : Nat} {hn : V} {P : List Ek} (hg : W.get g = some (.row [hn, .map m])) (hm : W.get m = some (gmap P)) (hgl : g < W.nx) (hml : m < W.nx) (hPk : ∀ x ∈ P, ekOk x) (hPl : P.length < 2 ^ 40) (f t k : Int) (he : ekOk (f, t, k)) :
  ACalls E 100 [bV p o g, .int .u16 f, .int .u16 t, .int .u8 k] W fun Y W' => Y = .tuple [] ∧ W' = W.put m (gmap (P ++ edgeP f t k)) := by
 refine ACalls.of hP Tryz.func100 ok_edgee (by simp [bV]) fun _ hok => ?_
 refine awp_start hok ?_
 by_cases hft : f = t
 ·have hW : W.put m (gmap (P ++ edgeP f t k)) = W := by rw [edgeP, if_pos hft, apn]; exact put_same hm
  rw [hW]
  simp (maxSteps:=9^9) (disch:=omega) only [c_edge, BX, ↓reduceIte, nE, BM, BD, bV, cmpne, show decide (f ≠ t) = false by simp [hft]]
  exact ⟨_, rfl, _, W, backX hok rfl, lr _, rfl, rfl⟩
 ·have hpe : edgeP f t k = [(f, t, k)] := by rw [edgeP, if_neg hft]
  rw [hpe]
  have hgr : ∀ l, (X W W.nx l).get g = some (.row [hn, .map m]) := fun l => by rw [X_old hgl]; exact hg
  have hmr : ∀ l, (X W W.nx l).get m = some (gmap P) := fun l => by rw [X_old hml]; exact hm
  have hks := g_keys (tally_ok hPk) he 0
  have hlk : ∀ l K, sem E (.lookup shE (.int .i64 0) false) [.map m, .agg [.int .u16 f, .int .u16 t, .int .u8 k]] (X W W.nx l) K = K (.int .i64 ((getE (tally P) (f, t, k)).getD 0)) (X W W.nx l) := fun l K => by
   rw [show V.agg [.int .u16 f, .int .u16 t, .int .u8 k] = ekV (f, t, k) from rfl, m_lookup (hmr l) hks, lookK_g]
  cases hge : getE (tally P) (f, t, k) with
  | some c =>
   obtain ⟨c1, c2⟩ := get_cnt hge
   have hf := findK_g (f, t, k) (tally P) 0
   rw [hge] at hf
   obtain ⟨i, hf1, hf2⟩ := hf
   have hmo : ∀ l K, sem E (.ment shE (.int .i64 0)) [.map m, .agg [.int .u16 f, .int .u16 t, .int .u8 k]] (X W W.nx l) K = K (.tuple [.int .i64 c, .int .i64 i]) (X W W.nx l) := fun l K => m_ment_old (hmr l) hks hf1
   have hms : ∀ l K, sem E .mest [.map m, .int .i64 (i : Int), .int .i64 (c + 1)] (X W W.nx l) K = K .undef (X (W.put m (gmap (P ++ [(f, t, k)]))) W.nx l) := fun l K => by
    rw [m_mest (hmr l) (hf2 (c + 1)), ← tally_hit hge, X_putold hml]
   simp (maxSteps:=9^9) (disch:=omega) only [c_edge, BX, ↓reduceIte, nE, BM, BD, nA, nL, bV, cmpne, show decide (f ≠ t) = true by simp [hft], hg, hlk, hge, Option.getD_some, hmo, wrapn, hms]
   exact ⟨⟨_, rfl, _, W.put m (gmap (P ++ [(f, t, k)])), backX' rfl (ok_put hok hml (gmap_bel _ _)) rfl, lr _, rfl, rfl⟩, ⟨_, rfl, _, W.put m (gmap (P ++ [(f, t, k)])), backX' rfl (ok_put hok hml (gmap_bel _ _)) rfl, lr _, rfl, rfl⟩⟩
  | none =>
   have hf := findK_g (f, t, k) (tally P) 0
   rw [hge] at hf
   simp only at hf
   have hks' : keysOk shE (ekV (f, t, k)) (gFrom 0 (tally P ++ [((f, t, k), 0)])) := g_keys (fun x hx => by
    rcases List.mem_append.1 hx with hx | hx
    ·exact tally_ok hPk x hx
    ·rw [List.mem_singleton.1 hx]; exact he) he 0
   obtain ⟨A, hA⟩ : ∃ A, A = AObj.map (gFrom 0 (tally P ++ [((f, t, k), (0 : Int))])) ((tally P).length + 1) := ⟨_, rfl⟩
   have hmo : ∀ l K, sem E (.ment shE (.int .i64 0)) [.map m, .agg [.int .u16 f, .int .u16 t, .int .u8 k]] (X W W.nx l) K = K (.tuple [.int .i64 0, .int .i64 (tally P).length]) (X (W.put m A) W.nx l) := fun l K => by
    have := m_ment_new (E := E) (K := K) (z := .int .i64 0) (hmr l) hks hf
    rw [show V.agg [.int .u16 f, .int .u16 t, .int .u8 k] = ekV (f, t, k) from rfl, this, X_putold hml, hA, gFrom_snoc, Nat.zero_add]
   have hmr' : ∀ l, (X (W.put m A) W.nx l).get m = some A := fun l => by rw [X_old hml, put_at]
   have hlk' : ∀ l K, sem E (.lookup shE (.int .i64 0) false) [.map m, .agg [.int .u16 f, .int .u16 t, .int .u8 k]] (X (W.put m A) W.nx l) K = K (.int .i64 0) (X (W.put m A) W.nx l) := fun l K => by
    rw [show V.agg [.int .u16 f, .int .u16 t, .int .u8 k] = ekV (f, t, k) from rfl, m_lookup (by rw [hmr' l, hA]) hks', lookK_g, getE_app hge]
    simp
   have hms : ∀ l K, sem E .mest [.map m, .int .i64 ((tally P).length : Int), .int .i64 (0 + 1)] (X (W.put m A) W.nx l) K = K .undef (X (W.put m (gmap (P ++ [(f, t, k)]))) W.nx l) := fun l K => by
    have hs := setS_snoc (tally P) (f, t, k) 0 (0 + 1) 0
    rw [Nat.zero_add] at hs
    rw [m_mest (by rw [hmr' l, hA]) hs, X_putold hml, put_put, tally_new hge]; rfl
   simp (maxSteps:=9^9) (disch:=omega) only [c_edge, BX, ↓reduceIte, nE, BM, BD, nA, nL, bV, cmpne, show decide (f ≠ t) = true by simp [hft], hg, hlk, hge, Option.getD_none, hmo, wrapn, hlk', hms]
   exact ⟨⟨_, rfl, _, W.put m (gmap (P ++ [(f, t, k)])), backX' rfl (ok_put hok hml (gmap_bel _ _)) rfl, lr _, rfl, rfl⟩, ⟨_, rfl, _, W.put m (gmap (P ++ [(f, t, k)])), backX' rfl (ok_put hok hml (gmap_bel _ _)) rfl, lr _, rfl, rfl⟩⟩
def c_pairs : AC := (.r [.u 2 .box 0,.u 3 .box 1,.v 4 (.nilfn)] (.r [.b 5 (.mkfn (.func 125) 0) 2 3,.m 4 5] .ret))
theorem ok_pairse : compF Tryz.prog Tryz.f98 ⟨false, false, []⟩ = some (c_pairs, [.tmp 4], 6) := by kernel_rfl
def c_pairs1_0 : AC := (.r [.b 13 (.bin .lss) 12 11] (.seq (.w 13 0) (.seq (.block 1 (.r [.m 14 12,.m 5 14] (.seq (.par (.step 0 (.m 15 0) (.step 1 (.m 16 4) (.step 2 (.m 17 5) (.step 5 (.m 20 4) (.step 6 (.m 21 5) (.step 7 (.a 22 (.bin .add) 21 1) (.step 3 (.b 18 (.idxp 1) 16 17) (.step 4 (.u 19 (.load false 1) 18) (.step 8 (.b 23 (.idxp 1) 20 22) (.step 9 (.u 24 (.load false 1) 23) (.step 10 (.p 25 .callv [.t 15,.t 19,.t 24]) (.step 11 (.u 26 (.un .not) 25) .done))))))))))))) (.cond (.t 26) .ret .skip)))) (.reg [.a 27 (.bin .add) 12 1,.m 12 27]))))
def c_pairs1 : AC := (.r [.u 6 (.load false 1) 1,.u 7 (.load false 1) 2,.b 8 (.call 126) 6 7,.m 4 8] (.r [.m 9 4,.u 10 (.len 1 0) 9,.a 11 (.bin .sub) 10 1,.v 12 (.int .i64 0)] (.block 0 (.loop c_pairs1_0))))
theorem ok_pairs1e : compF Tryz.prog Tryz.f125 ⟨false, false, []⟩ = some (c_pairs1, [], 28) := by kernel_rfl
def c_key : AC := (.r [.u 2 .box 0,.u 3 .box 1] (.r [.u 10 (.fld 1) 2,.u 11 (.load false 1) 10,.u 12 (.load false 1) 3,.b 13 (.call 98) 11 12] (.block 0 (.rangef (.t 13) [14, 15] (.r [.m 4 14] (.reg [.m 5 15])) (.block 1 (.r [.u 17 (.load true 3) 2,.u 18 (.load false 1) 3,.m 19 4,.p 20 (.call 99) [.t 17,.t 18,.t 19],.m 16 20,.u 21 (.ext 0) 16,.u 22 (.ext 1) 16,.m 6 21,.m 7 22] (.r [.u 24 (.load true 3) 2,.u 25 (.load false 1) 3,.m 26 5,.p 27 (.call 99) [.t 24,.t 25,.t 26],.m 23 27,.u 28 (.ext 0) 23,.u 29 (.ext 1) 23,.m 8 28,.m 9 29] (.r [.m 30 7,.m 31 30,.M 32 9 31 true,.p 33 .pick [.t 31,.t 32,.F]] (.cond (.t 33) (.reg [.u 34 (.load true 3) 2,.m 35 6,.m 36 8,.p 37 (.call 100) [.t 34,.t 35,.t 36,.c (.int .u8 0)]]) .skip)))))))))
theorem ok_keye : compF Tryz.prog Tryz.f75 ⟨false, false, []⟩ = some (c_key, [], 38) := by kernel_rfl
theorem pairs_c (hP : PE E) (W : AW) (o : Nat) (k : Int) : ACalls E 98 [.ptr o 0, .int .u8 k] W fun Y W' => ∃ q1 q2, Y = .fn (.func 125) [] [.ptr q1 0, .ptr q2 0] ∧ W'.get q1 = some (.row [.ptr o 0]) ∧ W'.get q2 = some (.row [.int .u8 k]) ∧ q1 < W'.nx ∧ q2 < W'.nx ∧ Ex W W' := by
 refine ACalls.of hP Tryz.func98 ok_pairse (by simp) fun _ hok => ?_
 refine awp_start hok ?_
 simp only [c_pairs, BZ, ↓reduceIte, nE, BM, BD]
 exact ⟨_, rfl, _, _, .weak weak_id, by simp [X], rf W.nx 0, rf W.nx 1, rfl, by rw [X_get]; rfl, by rw [X_get]; rfl, by simp [X, rf], by simp [X, rf], .x0⟩
theorem pairs_iter (hP : PE E) {W : AW} {y q1 q2 q : Nat} {os : Ods} {k : Int} (k0 : 0 ≤ k) (k1 : k < 256) (h1 : W.get q1 = some (.row [.ptr q 0])) (h2 : W.get q2 = some (.row [.int .u8 k])) (h : Od W q os) (J : Nat → AW → Prop)
  (h0 : J 0 W) (hJ : ∀ i W1, J i W1 → W.nx ≤ W1.nx) (hmono : ∀ (vs : List V) (W1 : AW) (K K' : V → AW → Prop), (∀ v W', K v W' → K' v W') → E.yield y vs W1 K → E.yield y vs W1 K')
  (hy : ∀ i (hi : i + 1 < (keyO os k).length) W1, J i W1 → E.yield y [.int .u16 (keyO os k)[i], .int .u16 (keyO os k)[i + 1]] W1 (fun Y W2 => Y = .bool true ∧ J (i + 1) W2)) :
  ACalls E 125 [.yld y, .ptr q1 0, .ptr q2 0] W fun Y W' => Y = .tuple [] ∧ J ((keyO os k).length - 1) W' := by
 refine ACalls.of hP Tryz.func125 ok_pairs1e (by simp) fun _ hok => ?_
 have hs := oV_isS (keyO os k)
 have hl := (keyO_ok h k).1
 have hw : IntKind.i64.wrap ((keyO os k).length - 1 : Int) = (keyO os k).length - 1 := by simp only [IntKind.wrap, IntKind.signed, IntKind.bits]; simp; omega
 simp (maxSteps:=9^9) (disch:=omega) only [c_pairs1, BZ, ↓reduceIte, nE, BM, h1, h2]
 refine pc (orderO_c hP _ h k k0 k1) ?_
 simp (maxSteps:=9^9) (disch:=omega) only [BS, e_seq, ↓reduceIte, hs.len, ints_len, hw]
 rw [e_loop]
 refine alp (fun (i : Nat) A1 W1 => A1 0 = some (.yld y) ∧ A1 4 = some (oV (keyO os k)) ∧ A1 11 = some (.int .i64 ((keyO os k).length - 1)) ∧ A1 12 = some (.int .i64 i) ∧ i ≤ (keyO os k).length - 1 ∧ J i W1) (fun i => (keyO os k).length - i) 0
  ⟨rfl, rfl, rfl, rfl, Nat.zero_le _, h0⟩ ?_
 rintro i A1 W1 ⟨g0, g4, g11, g12, gi, gJ⟩ hn
 by_cases hi : i + 1 < (keyO os k).length
 ·have hd : decide ((i : Int) < (keyO os k).length - 1) = true := by simp; omega
  have hwi : IntKind.i64.wrap ((i : Int) + 1) = ((i + 1 : Nat) : Int) := wadd1 (by omega)
  simp (maxSteps:=9^9) (disch:=omega) only [c_pairs1_0, BX, ↓reduceIte, nE, reduceCtorEq, BM, g0, g4, g11, g12, hd, hwi, hs.idx (int_at (show i < (keyO os k).length by omega)), hs.idx (int_at hi), sem_yield]
  refine hmono _ _ _ _ ?_ (hy i hi W1 gJ)
  rintro Y W2 ⟨rfl, g⟩
  simp (maxSteps:=9^9) (disch:=omega) only [BS, BC, cond_if, ↓reduceIte, nE, reduceCtorEq, BD, g0, g4, g11, g12, hwi]
  exact ⟨i + 1, ⟨tt, tt, tt, tt, by omega, g⟩, by omega, hJ _ _ g⟩
 ·have hd : decide ((i : Int) < (keyO os k).length - 1) = false := by simp; omega
  obtain rfl : i = (keyO os k).length - 1 := by omega
  simp (maxSteps:=9^9) (disch:=omega) only [c_pairs1_0, BX, ↓reduceIte, g11, g12, hd]
  exact ⟨_, rfl, _, _, .weak weak_id, hJ _ _ gJ, rfl, gJ⟩
theorem range_pairs (hP : PE E) {W0 : AW} {A : AFr} {q1 q2 q pu pv : Nat} {os : Ods} {k : Int} (k0 : 0 ≤ k) (k1 : k < 256) {g : AX} {asg body : AC} {Q : Exit → AFr → AW → Prop} (hg : g.ev E A = some (.fn (.func 125) [] [.ptr q1 0, .ptr q2 0])) (h1 : W0.get q1 = some (.row [.ptr q 0])) (h2 : W0.get q2 = some (.row [.int .u8 k])) (hq1 : q1 < W0.nx) (hq2 : q2 < W0.nx) (hC : Cl W0) (h : Od W0 q os)
  (J : Nat → AW → Prop) (h0 : ∀ W1, Ex W0 W1 → W0.nx < W1.nx → J 0 W1) (hJ : ∀ i W1, J i W1 → W0.nx < W1.nx)
  (hb : ∀ i (hi : i + 1 < (keyO os k).length) W1, J i W1 → W1.get W0.nx = some (.loop .ready none) →
   awp E asg (thenQ (fun A1 W2 => W2.get W0.nx = some (.loop .ready none) ∧ awp E body (fun e _ W3 => e = .normal ∧ W3.get W0.nx = some (.loop .busy none) ∧ J (i + 1) (W3.put W0.nx (.loop .ready none))) A1 (W2.put W0.nx (.loop .busy none))) (fun _ _ _ => False)) ((A.put pu (.int .u16 (keyO os k)[i])).put pv (.int .u16 (keyO os k)[i + 1])) W1)
  (hQ : ∀ W1, J ((keyO os k).length - 1) W1 → W1.get W0.nx = some (.loop .ready none) → Q .normal A (W1.put W0.nx (.loop .exhausted none))) : awp E (.rangef g [pu, pv] asg body) Q A W0 := by
 rw [awp_rangef', hg]
 intro E' eP eG ey _
 have hP' : E'.P = Tryz.prog := eP.trans hP
 have hE : Ex W0 (W0.alloc (.loop .ready none)) := ⟨fun r hr => by rw [alloc_nx] at hr; rw [al_gets, if_neg (by omega)]; exact hC r (by omega), by rw [alloc_nx]; omega, fun x hx => alloc_lt hx⟩
 simp only [mcs, List.map_nil, frz_ptr]
 refine (pairs_iter (E := E') hP' (y := W0.nx) k0 k1 (by rw [alloc_lt hq1]; exact h1) (by rw [alloc_lt hq2]; exact h2) (h.ex hE) (fun k W1 => J k W1 ∧ W1.get W0.nx = some (.loop .ready none)) ⟨h0 _ hE (by rw [alloc_nx]; omega), alloc_at⟩ (fun i W1 g => by rw [alloc_nx]; exact hJ _ _ g.1) (fun vs W1 K K' hk hy => E'.yieldMono _ _ _ _ _ hk hy) ?_).mono ?_
 ·rintro i hi W1 ⟨g1, g2⟩
  refine ey _ _ _ ⟨g2, rfl, ?_⟩
  refine awp_mono _ ?_ (hb i hi W1 g1 g2)
  intro e A1 W2 hh
  cases e with
  | normal =>
   refine ⟨hh.1, awp_mono _ ?_ hh.2⟩
   rintro e A3 W3 ⟨rfl, h2, h3⟩
   exact ⟨h2, rfl, h3, put_at⟩
  | _ => exact hh
 ·rintro Y W1 ⟨_, g1, g2⟩
  simp only [doneQ, g2]
  exact hQ _ g1 g2
structure Bd (W : AW) (p ra rw q g m : Nat) (s : Str) (os : Ods) (hn : V) (P : List Ek) : Prop where
 st : St W p ra rw s
 od : Od W q os
 hg : W.get g = some (.row [hn, .map m])
 hm : W.get m = some (gmap P)
 lg : g < W.nx
 lm : m < W.nx
 mra : m ≠ ra
 mrw : m ≠ rw
 pk : ∀ x ∈ P, ekOk x
theorem St.by {W W1 : AW} {p ra rw : Nat} {s : Str} (h : St W p ra rw s) (hn : W.nx ≤ W1.nx) (h1 : W1.get p = W.get p) (h2 : W1.get ra = W.get ra) (h3 : W1.get rw = W.get rw) : St W1 p ra rw s := by
 obtain ⟨ws, cw, a, b⟩ := h.hw
 have := h.lp
 have := h.la
 have := h.lw
 exact ⟨h1.trans h.hp, h2.trans h.ha, ⟨ws, cw, h3.trans a, b⟩, h.ne, by omega, by omega, by omega, h.ok⟩
theorem Od.by {W W1 : AW} {q : Nat} {o : Ods} (h : Od W q o) (hn : W.nx ≤ W1.nx) (h1 : W1.get q = W.get q) : Od W1 q o := by
 have := h.lq
 exact ⟨h1.trans h.hq, h.len, by omega, h.ok⟩
section
variable {W W1 : AW} {p ra rw q g m : Nat} {s : Str} {os : Ods} {hn : V} {P P' : List Ek}
theorem Bd.nem (h : Bd W p ra rw q g m s os hn P) : p ≠ m ∧ q ≠ m ∧ g ≠ m := by
 refine ⟨?_, ?_, ?_⟩ <;> rintro rfl
 ·have := h.st.hp.symm.trans h.hm; cases this
 ·have := h.od.hq.symm.trans h.hm; cases this
 ·have := h.hg.symm.trans h.hm; cases this
theorem Bd.to (h : Bd W p ra rw q g m s os hn P) (hx : W.nx ≤ W1.nx) (hg : ∀ x, x < W.nx → x ≠ m → W1.get x = W.get x) (hm : W1.get m = some (gmap P')) (hk : ∀ x ∈ P', ekOk x) : Bd W1 p ra rw q g m s os hn P' := by
 obtain ⟨n1, n2, n3⟩ := h.nem
 have a1 := h.lg
 have a2 := h.lm
 exact ⟨h.st.by hx (hg _ h.st.lp n1) (hg _ h.st.la h.mra.symm) (hg _ h.st.lw h.mrw.symm), h.od.by hx (hg _ h.od.lq n2), (hg _ h.lg n3).trans h.hg, hm, by omega, by omega, h.mra, h.mrw, hk⟩
theorem Bd.ex (h : Bd W p ra rw q g m s os hn P) (hE : Ex W W1) : Bd W1 p ra rw q g m s os hn P :=
 h.to hE.nx (fun x hx _ => hE.get x hx) ((hE.get _ h.lm).trans h.hm) h.pk
end
theorem wrR_ok {s : Str} (h : SOk s) (k v : Int) : 0 ≤ (wrR s k v).1 ∧ (wrR s k v).1 < 65536 := by
 unfold wrR
 cases hw : who s k v with
 | none => simp
 | some t => have := h.ok t (who_mem hw).1; exact ⟨this.id0, this.id1⟩
theorem edgeP_ok {f t k : Int} (hf : 0 ≤ f ∧ f < 65536) (ht : 0 ≤ t ∧ t < 65536) (hk : 0 ≤ k ∧ k < 256) : ∀ x ∈ edgeP f t k, ekOk x := by
 intro x hx
 rw [(mem_edgeP.1 hx).2]; exact ⟨hf, ht, hk⟩
def kf (s : Str) (k : Int) (x : Int × Int) : List Ek := if (wrR s k x.1).2 = true ∧ (wrR s k x.2).2 = true then edgeP (wrR s k x.1).1 (wrR s k x.2).1 0 else []
theorem kf_ok {s : Str} (h : SOk s) (k : Int) (x : Int × Int) : ∀ e ∈ kf s k x, ekOk e := by
 unfold kf
 split
 ·exact edgeP_ok (wrR_ok h _ _) (wrR_ok h _ _) (by decide)
 ·simp
theorem key_c (hP : PE E) (W : AW) {p ra rw q g m : Nat} {s : Str} {os : Ods} {hn : V} {P : List Ek} (h : Bd W p ra rw q g m s os hn P) (k : Int) (k0 : 0 ≤ k) (k1 : k < 256) (hPl : (P ++ keyP s os k).length < 2 ^ 40) :
  ACalls E 75 [bV p q g, .int .u8 k] W fun Y W' => Y = .tuple [] ∧ W' = W.put m (gmap (P ++ keyP s os k)) := by
 refine ACalls.of hP Tryz.func75 ok_keye (by simp [bV]) fun _ hok => ?_
 refine awp_start hok ?_
 simp only [c_key, BZ, ↓reduceIte, nE, BM, BD, bV]
 refine (pairs_c hP _ q k).mono ?_
 rintro _ W0 ⟨q1, q2, rfl, h1, h2, h1n, h2n, hE⟩
 have hE0 : Ex W W0 := Ex.x0.trans hE
 have hb2 : W0.get (rf W.nx 0) = some (.row [.ptr p 0, .ptr q 0, .ptr g 0]) := by rw [hE.get _ (by simp [X, rf]), X_get]; rfl
 have hb3 : W0.get (rf W.nx 1) = some (.row [.int .u8 k]) := by rw [hE.get _ (by simp [X, rf]), X_get]; rfl
 have hb2n : rf W.nx 0 < W0.nx := by have := hE.nx; simp [X, rf] at this ⊢; omega
 have hb3n : rf W.nx 1 < W0.nx := by have := hE.nx; simp [X, rf] at this ⊢; omega
 have hB0 := h.ex hE0
 have hlm := h.lm
 obtain ⟨n1, n2, n3⟩ := h.nem
 have hm2 : rf W.nx 0 ≠ m := by simp only [rf]; omega
 have hm3 : rf W.nx 1 ≠ m := by simp only [rf]; omega
 have hkP : keyP s os k = ((keyO os k).zip (keyO os k).tail).flatMap (kf s k) := rfl
 obtain ⟨Z, hZ⟩ : ∃ Z, Z = (keyO os k).zip (keyO os k).tail := ⟨_, rfl⟩
 rw [← hZ] at hkP
 have hZl : Z.length = (keyO os k).length - 1 := by rw [hZ]; simp
 have hpart : ∀ i, ((Z.take i).flatMap (kf s k)).length ≤ (keyP s os k).length := fun i => by
  rw [hkP]
  conv => rhs; rw [← List.take_append_drop i Z, List.flatMap_append, lap]
  omega
 have hpok : ∀ i, ∀ x ∈ P ++ (Z.take i).flatMap (kf s k), ekOk x := fun i x hx => by
  rcases List.mem_append.1 hx with hx | hx
  ·exact h.pk x hx
  ·obtain ⟨z, _, hz⟩ := List.mem_flatMap.1 hx
   exact kf_ok h.st.ok k z x hz
 simp only [BS]
 refine range_pairs hP k0 k1 (q1 := q1) (q2 := q2) (q := q) (os := os) rfl h1 h2 h1n h2n hE0.cl (h.od.ex hE0) (fun i W1 => Cl W1 ∧ W0.nx < W1.nx ∧ (∀ x, x < W0.nx → x ≠ m → W1.get x = W0.get x) ∧ W1.get m = some (gmap (P ++ (Z.take i).flatMap (kf s k)))) ?_ ?_ ?_ ?_
 ·intro W1 hE1 hn1
  exact ⟨hE1.cl, hn1, fun x hx _ => hE1.get x hx, by rw [hE1.get _ hB0.lm, hB0.hm]; simp⟩
 ·exact fun i W1 h => h.2.1
 ·rintro i hi W1 ⟨j0, j1, j2, j3⟩ hl
  have hiZ : i < Z.length := by omega
  have hZi : Z[i] = ((keyO os k)[i], (keyO os k)[i + 1]) := by simp [hZ]
  have hstep : (Z.take (i + 1)).flatMap (kf s k) = (Z.take i).flatMap (kf s k) ++ kf s k Z[i] := by
   rw [tao, gEg hiZ, List.flatMap_append]; simp [List.flatMap]
  have hu := (keyO_ok h.od k).2 _ (gmm (show i < (keyO os k).length by omega))
  have hv := (keyO_ok h.od k).2 _ (gmm hi)
  have hB1 := hB0.to (W1 := W1.put W0.nx (.loop .busy none)) (P' := P ++ (Z.take i).flatMap (kf s k)) (by rw [put_nx]; omega) (fun x hx hxm => by rw [put_ne (by omega)]; exact j2 x hx hxm) (by have := hB0.lm; rw [put_ne (by omega)]; exact j3) (hpok i)
  have g2 : (W1.put W0.nx (.loop .busy none)).get (rf W.nx 0) = some (.row [.ptr p 0, .ptr q 0, .ptr g 0]) := by rw [put_ne (by omega), j2 _ hb2n hm2]; exact hb2
  have g3 : (W1.put W0.nx (.loop .busy none)).get (rf W.nx 1) = some (.row [.int .u8 k]) := by rw [put_ne (by omega), j2 _ hb3n hm3]; exact hb3
  have hPi := hpart (i + 1)
  simp only [BZ, ↓reduceIte, nE, BM, hl]
  refine ⟨tt, ?_⟩
  simp only [BS, BC, ↓reduceIte, BM, BD, nA, nL, g2, g3]
  refine pc (writer_c hP _ hB1.st k _ k0 k1 hu.1 hu.2) ?_
  simp only [BZ, ↓reduceIte, nE, BM, BD, nA, nL, g2, g3]
  refine pc (writer_c hP _ hB1.st k _ k0 k1 hv.1 hv.2) ?_
  have hJ : ∀ {Q : List Ek}, Q = kf s k Z[i] → ∀ W3, W3 = (W1.put W0.nx (.loop .busy none)).put m (gmap (P ++ (Z.take i).flatMap (kf s k) ++ Q)) → W3.get W0.nx = some (.loop .busy none) ∧ Cl (W3.put W0.nx (.loop .ready none)) ∧ W0.nx < (W3.put W0.nx (.loop .ready none)).nx ∧ (∀ x, x < W0.nx → x ≠ m → (W3.put W0.nx (.loop .ready none)).get x = W0.get x) ∧ (W3.put W0.nx (.loop .ready none)).get m = some (gmap (P ++ (Z.take (i + 1)).flatMap (kf s k))) := by
   rintro Q rfl W3 rfl
   have hm0 : m ≠ W0.nx := by have := hB0.lm; omega
   have hm1 : m < W1.nx := by have := hB0.lm; omega
   refine ⟨by rw [put_ne hm0.symm, put_at], ?_, by simp only [put_nx]; exact j1, fun x hx hxm => by rw [put_ne (by omega), put_ne hxm, put_ne (by omega)]; exact j2 x hx hxm, by rw [put_ne hm0, put_at, hstep, List.append_assoc]⟩
   exact Cl.put (Cl.put (Cl.put j0 j1) (by rw [put_nx]; exact hm1)) (by simp only [put_nx]; exact j1)
  cases c1 : (wrR s k (keyO os k)[i]).2 with
  | false =>
   simp only [BX, guard_if, ↓reduceIte, nE, BM]
   refine ⟨tt, ?_⟩
   refine hJ (Q := []) (by rw [kf, hZi, if_neg (by simp [c1])]) _ ?_
   rw [apn]; exact (put_same hB1.hm).symm
  | true =>
   cases c2 : (wrR s k (keyO os k)[i + 1]).2 with
   | false =>
    simp only [BX, guard_if, ↓reduceIte, nE]
    refine ⟨tt, ?_⟩
    refine hJ (Q := []) (by rw [kf, hZi, if_neg (by simp [c2])]) _ ?_
    rw [apn]; exact (put_same hB1.hm).symm
   | true =>
    simp only [BX, guard_if, ↓reduceIte, nE, BM, BD, nA, nL, g2]
    refine (edge_c hP _ hB1.hg hB1.hm hB1.lg hB1.lm (hpok i) ?_ _ _ 0 ⟨wrR_ok h.st.ok _ _, wrR_ok h.st.ok _ _, show (0 : Int) ≤ 0 ∧ (0 : Int) < 256 by decide⟩).mono ?_
    ·have := hpart i
     rw [lap] at hPl ⊢; omega
    rintro _ W3 ⟨rfl, hW3⟩
    simp only [BS]
    refine ⟨tt, hJ (Q := edgeP (wrR s k (keyO os k)[i]).1 (wrR s k (keyO os k)[i + 1]).1 0) (by rw [kf, hZi, if_pos ⟨c1, c2⟩]) _ hW3⟩
 ·rintro W1 ⟨j0, j1, j2, j3⟩ hl
  rw [← hZl, tkl, ← hkP] at j3
  have hpo := hpok Z.length
  rw [tkl, ← hkP] at hpo
  simp only [e_blk]
  refine ⟨_, e_res0, .tuple [], W.put m (gmap (P ++ keyP s os k)), .weak (weak_back (ok_put hok hlm (gmap_bel _ _)) rfl fun x hx => ?_), lr _, rfl, rfl⟩
  have hx' : x < W.nx := hx
  have hx0 : x < W0.nx := by have := hE0.nx; omega
  by_cases e : x = m
  ·subst e; rw [put_at, put_ne (by omega)]; exact j3
  ·rw [put_ne e, put_ne (by omega), j2 x hx0 e]; exact hE0.get x hx'
def c_read : AC := (.r [.u 3 .box 0,.u 5 .box 2] (.r [.u 13 (.fld 1) 5,.u 14 (.load false 1) 13,.u 15 (.len 1 0) 14,.m 6 15] (.seq (.r [.m 16 6,.a 17 (.bin .gtr) 16 0] (.cond (.t 17) (.seq (.par (.step 1 (.u 20 (.fld 0) 5) (.step 3 (.u 22 (.fld 1) 5) (.step 5 (.m 24 6) (.step 6 (.a 25 (.bin .sub) 24 1) (.step 0 (.u 19 (.load true 3) 3) (.step 2 (.u 21 (.load false 1) 20) (.step 4 (.u 23 (.load false 1) 22) (.step 7 (.b 26 (.idxp 1) 23 25) (.step 8 (.u 27 (.load false 1) 26) (.step 9 (.p 28 (.call 99) [.t 19,.t 21,.t 27]) (.step 10 (.m 18 28) (.step 11 (.u 29 (.ext 0) 18) (.step 12 (.u 30 (.ext 1) 18) (.step 13 (.m 7 29) (.step 14 (.m 8 30) .done)))))))))))))))) (.r [.m 31 8] (.cond (.t 31) (.reg [.u 32 (.load true 3) 3,.m 33 7,.m 34 1,.p 35 (.call 100) [.t 32,.t 33,.t 34,.c (.int .u8 1)]]) .skip))) .skip)) (.r [.u 37 (.fld 1) 3,.u 38 (.load false 1) 37,.u 39 (.fld 0) 5,.u 40 (.load false 1) 39,.m 41 6,.p 42 (.call 106) [.t 38,.t 40,.t 41],.m 36 42,.u 43 (.ext 0) 36,.u 44 (.ext 1) 36,.m 9 43,.m 10 44] (.r [.m 45 10] (.cond (.t 45) (.r [.u 47 (.load true 3) 3,.u 48 (.fld 0) 5,.u 49 (.load false 1) 48,.m 50 9,.p 51 (.call 99) [.t 47,.t 49,.t 50],.m 46 51,.u 52 (.ext 0) 46,.u 53 (.ext 1) 46,.m 11 52,.m 12 53] (.r [.m 54 12] (.cond (.t 54) (.reg [.u 55 (.load true 3) 3,.m 56 1,.m 57 11,.p 58 (.call 100) [.t 55,.t 56,.t 57,.c (.int .u8 2)]]) .skip))) .skip))))))
theorem ok_reade : compF Tryz.prog Tryz.f79 ⟨false, false, []⟩ = some (c_read, [], 59) := by kernel_rfl
def c_counts_0 : AC := (.r [.b 31 (.bin .lss) 30 29] (.seq (.w 31 0) (.seq (.block 1 (.r [.b 32 (.idxp 1) 28 30,.u 33 (.load false 1) 32,.m 8 33] (.r [.m 35 0,.u 36 (.fld 0) 5,.u 37 (.load false 1) 36,.m 38 8,.p 39 (.call 105) [.t 35,.t 37,.t 38],.m 34 39,.u 40 (.ext 0) 34,.u 41 (.ext 1) 34,.p 9 (.alloc [.int .u16 0,.int .u8 0,.nilsl,.nilsl,.int .u8 0]) [],⟨none,.store 5, [.t 9,.t 40], none⟩,.m 10 41] (.r [.m 42 10,.u 43 (.un .not) 42] (.cond (.t 43) (.r [.v 6 (.bool false)] .ret) .skip))))) (.reg [.a 44 (.bin .add) 30 1,.m 30 44]))))
def c_counts : AC := (.r [.u 5 .box 2,.v 6 (.bool false)] (.seq (.seq (.par (.step 0 (.m 11 0) (.step 1 (.p 12 (.eqn false 0) [.t 11,.c (.nilptr)]) (.step 2 (.m 13 12) (.step 3 (.M 14 1 13 false) (.step 4 (.P 15 (.eqn false 0) [.t 14,.c (.nilptr)] 13 false) (.step 5 (.p 16 .pick [.t 13,.T,.t 15]) (.step 6 (.m 17 16) (.step 7 (.U 18 (.fld 1) 5 17 false) (.step 9 (.M 20 1 17 false) (.step 10 (.U 21 (.fld 0) 5 17 false) (.step 8 (.U 19 (.load false 1) 18 17 false) (.step 11 (.U 22 (.load false 1) 21 17 false) (.step 12 (.B 23 (.pcall 104) 20 22 17 false) (.step 13 (.B 24 (.pcall 74) 19 23 17 false) (.step 14 (.U 25 (.un .not) 24 17 false) (.step 15 (.p 26 .pick [.t 17,.T,.t 25]) .done))))))))))))))))) (.cond (.t 26) (.r [.v 6 (.bool false)] .ret) .skip)) (.seq (.r [.u 27 (.fld 1) 5,.u 28 (.load false 1) 27,.u 29 (.len 1 0) 28,.v 30 (.int .i64 0)] (.block 0 (.loop c_counts_0))) (.r [.v 6 (.bool true)] .ret))))
theorem ok_countse : compF Tryz.prog Tryz.f78 ⟨false, false, []⟩ = some (c_counts, [.tmp 6], 45) := by kernel_rfl
def hd1 : AC → AC
 | .seq a _ => a
 | c => c
def tl1 : AC → AC
 | .seq _ b => b
 | c => c
def rdA : AC := hd1 (tl1 (tl1 c_read))
def rdB : AC := tl1 (tl1 (tl1 c_read))
theorem c_read_eq : c_read = .seq (hd1 c_read) (.seq (hd1 (tl1 c_read)) (.seq rdA rdB)) := rfl
theorem rdB_go (hP : PE E) {W : AW} {p ra rw q g m b3 b5 : Nat} {s : Str} {os : Ods} {hn : V} {P : List Ek} (h : Bd W p ra rw q g m s os hn P) {b : Int} {r : Rd} (hb : 0 ≤ b ∧ b < 65536) (hr : 0 ≤ r.1 ∧ r.1 < 256)
  (hPl : (P ++ nextP s os b r).length < 2 ^ 40) {A : AFr} {Q : Exit → AFr → AW → Prop} (a1 : A 1 = some (.int .u16 b)) (a3 : A 3 = some (.ptr b3 0)) (a5 : A 5 = some (.ptr b5 0)) (a6 : A 6 = some (.int .i64 (nums r.2).length))
  (g3 : W.get b3 = some (.row [.ptr p 0, .ptr q 0, .ptr g 0])) (g5 : W.get b5 = some (.row [.int .u8 r.1, elV r.2]))
  (hQ : ∀ A', Q .normal A' (W.put m (gmap (P ++ nextP s os b r)))) : awp E rdB Q A W := by
 simp only [rdB, tl1, c_read, BZ, ↓reduceIte, nE, BM, BD, a3, a5, a6, g3, g5]
 refine pc (at_c hP W h.od r.1 hr.1 hr.2 (nums r.2).length) ?_
 cases hk : (keyO os r.1)[(nums r.2).length]? with
 | none =>
  have hk' : ¬ (nums r.2).length < (keyO os r.1).length := fun hlt => by rw [gEg hlt] at hk; cases hk
  have e : nextP s os b r = [] := by simp only [nextP, hk]
  simp only [BX, ↓reduceIte, nE, decide_eq_false hk']
  have := hQ
  rw [e, apn, put_same h.hm] at this
  exact this _
 | some v =>
  have hk' : (nums r.2).length < (keyO os r.1).length := by
   rcases Nat.lt_or_ge (nums r.2).length (keyO os r.1).length with h | h
   ·exact h
   ·rw [List.getElem?_eq_none h] at hk; cases hk
  have hv : 0 ≤ v ∧ v < 65536 := (keyO_ok h.od r.1).2 v (List.mem_of_getElem? hk)
  simp only [BX, ↓reduceIte, nE, BM, BD, nA, nL, a3, a5, g3, g5, decide_eq_true hk', Option.getD_some]
  refine pc (writer_c hP W h.st r.1 v hr.1 hr.2 hv.1 hv.2) ?_
  cases hw : (wrR s r.1 v).2 with
  | false =>
   have e : nextP s os b r = [] := by simp only [nextP, hk, hw]; simp
   simp only [BX, ↓reduceIte, nE]
   have := hQ
   rw [e, apn, put_same h.hm] at this
   exact this _
  | true =>
   have e : nextP s os b r = edgeP b (wrR s r.1 v).1 2 := by simp only [nextP, hk, hw, if_true]
   rw [e] at hQ hPl
   simp only [BX, ↓reduceIte, nE, BM, BD, nA, nL, a1, a3, g3]
   refine (edge_c hP _ h.hg h.hm h.lg h.lm h.pk ?_ _ _ 2 ⟨hb, wrR_ok h.st.ok _ _, show (0 : Int) ≤ 2 ∧ (2 : Int) < 256 by decide⟩).mono ?_
   ·rw [lap] at hPl; omega
   rintro _ W3 ⟨rfl, rfl⟩
   simp only [BS]
   exact hQ _
theorem last_at {l : List Int} (h : l ≠ []) : l.getLast? = some (l[l.length - 1]'(by have := List.length_pos_iff.2 h; omega)) := by
 rw [List.getLast?_eq_getElem?, gEg]
theorem rdA_go (hP : PE E) {W : AW} {p ra rw q g m b3 b5 : Nat} {s : Str} {os : Ods} {hn : V} {P : List Ek} (h : Bd W p ra rw q g m s os hn P) {b : Int} {r : Rd} (hb : 0 ≤ b ∧ b < 65536) (hr : 0 ≤ r.1 ∧ r.1 < 256) (hrl : (nums r.2).length < 2 ^ 40) (hrn : ∀ n ∈ nums r.2, 0 ≤ n ∧ n < 65536)
  (hPl : (P ++ lastP s b r).length < 2 ^ 40) {A : AFr} {Q : Exit → AFr → AW → Prop} (a1 : A 1 = some (.int .u16 b)) (a3 : A 3 = some (.ptr b3 0)) (a5 : A 5 = some (.ptr b5 0)) (a6 : A 6 = some (.int .i64 (nums r.2).length))
  (g3 : W.get b3 = some (.row [.ptr p 0, .ptr q 0, .ptr g 0])) (g5 : W.get b5 = some (.row [.int .u8 r.1, elV r.2]))
  (hQ : ∀ A', A' 1 = A 1 → A' 3 = A 3 → A' 5 = A 5 → A' 6 = A 6 → Q .normal A' (W.put m (gmap (P ++ lastP s b r)))) : awp E rdA Q A W := by
 have hs := (elV_isEl r.2).isS
 by_cases hl0 : nums r.2 = []
 ·have e : lastP s b r = [] := by simp only [lastP, hl0]; rfl
  have hd : decide (((nums r.2).length : Int) > 0) = false := by simp [hl0]
  simp only [rdA, hd1, tl1, c_read, BX, ↓reduceIte, a6, hd]
  have := hQ
  rw [e, apn, put_same h.hm] at this
  refine this _ ?_ ?_ ?_ ?_ <;> simp only [BS, ↓reduceIte, nE, a1, a3, a5, a6]
 ·have hpos := List.length_pos_iff.2 hl0
  have hd : decide (((nums r.2).length : Int) > 0) = true := by simp; omega
  have hw1 : IntKind.i64.wrap ((nums r.2).length - 1 : Int) = ((nums r.2).length - 1 : Nat) := by
   have : ((nums r.2).length - 1 : Int) = ((nums r.2).length - 1 : Nat) := by omega
   rw [this]; exact wrapn (by omega) (by omega)
  have hla := last_at hl0
  have hlt : (nums r.2).length - 1 < (nums r.2).length := by omega
  generalize hv : (nums r.2)[(nums r.2).length - 1]'hlt = v at hla
  have hvr : 0 ≤ v ∧ v < 65536 := hrn v (by rw [← hv]; exact gmm _)
  simp only [rdA, hd1, tl1, c_read, BX, ↓reduceIte, nE, BM, BD, nA, nL, a3, a5, a6, hd, g3, g5, hw1, hs.idx (int_at hlt), hv]
  refine pc (writer_c hP W h.st r.1 v hr.1 hr.2 hvr.1 hvr.2) ?_
  cases hw : (wrR s r.1 v).2 with
  | false =>
   have e : lastP s b r = [] := by simp only [lastP, hla, hw]; simp
   simp only [BX, ↓reduceIte, nE]
   have := hQ
   rw [e, apn, put_same h.hm] at this
   refine this _ ?_ ?_ ?_ ?_ <;> simp only [BS, ↓reduceIte, nE, a1, a3, a5, a6]
  | true =>
   have e : lastP s b r = edgeP (wrR s r.1 v).1 b 1 := by simp only [lastP, hla, hw, if_true]
   rw [e] at hQ hPl
   simp only [BX, ↓reduceIte, nE, BM, BD, nA, nL, a1, a3, g3]
   refine (edge_c hP _ h.hg h.hm h.lg h.lm h.pk ?_ _ _ 1 ⟨wrR_ok h.st.ok _ _, hb, show (0 : Int) ≤ 1 ∧ (1 : Int) < 256 by decide⟩).mono ?_
   ·rw [lap] at hPl; omega
   rintro _ W3 ⟨rfl, rfl⟩
   simp only [BS]
   refine hQ _ ?_ ?_ ?_ ?_ <;> simp only [BS, ↓reduceIte, nE, a1, a3, a5, a6]
theorem lastP_ok {s : Str} (h : SOk s) {b : Int} (hb : 0 ≤ b ∧ b < 65536) (r : Rd) : ∀ x ∈ lastP s b r, ekOk x := by
 intro x hx
 obtain ⟨v, _, _, _, e⟩ := mem_lastP.1 hx
 rw [e]; exact ⟨wrR_ok h _ _, hb, show (0 : Int) ≤ 1 ∧ (1 : Int) < 256 by decide⟩
theorem nextP_ok {s : Str} (h : SOk s) (os : Ods) {b : Int} (hb : 0 ≤ b ∧ b < 65536) (r : Rd) : ∀ x ∈ nextP s os b r, ekOk x := by
 intro x hx
 obtain ⟨v, _, _, _, e⟩ := mem_nextP.1 hx
 rw [e]; exact ⟨hb, wrR_ok h _ _, show (0 : Int) ≤ 2 ∧ (2 : Int) < 256 by decide⟩
theorem bread_c (hP : PE E) (W : AW) {p ra rw q g m : Nat} {s : Str} {os : Ods} {hn : V} {P : List Ek} (h : Bd W p ra rw q g m s os hn P) {b : Int} {r : Rd} (hb : 0 ≤ b ∧ b < 65536) (hr : 0 ≤ r.1 ∧ r.1 < 256) (hrl : (nums r.2).length < 2 ^ 40) (hrn : ∀ n ∈ nums r.2, 0 ≤ n ∧ n < 65536) (hPl : (P ++ readP s os b r).length < 2 ^ 40) :
  ACalls E 79 [bV p q g, .int .u16 b, rdV r] W fun Y W' => Y = .tuple [] ∧ W' = W.put m (gmap (P ++ readP s os b r)) := by
 refine ACalls.of hP Tryz.func79 ok_reade (by simp [bV]) fun _ hok => ?_
 refine awp_start hok ?_
 have hs := (elV_isEl r.2).isS
 have hlm := h.lm
 have hPl1 : (P ++ lastP s b r).length < 2 ^ 40 := by simp only [readP, lap] at hPl ⊢; omega
 have hPl2 : (P ++ lastP s b r ++ nextP s os b r).length < 2 ^ 40 := by simp only [readP, lap] at hPl ⊢; omega
 rw [c_read_eq]
 simp only [hd1, tl1, c_read, BZ, ↓reduceIte, nE, BM, BD, bV, rdV, hs.len, ints_len]
 refine rdA_go hP (h.ex .x0) hb hr hrl hrn hPl1 rfl rfl rfl rfl (by rw [X_get]; rfl) (by rw [X_get]; rfl) ?_
 intro A' q1 q3 q5 q6
 rw [X_putold hlm]
 have hpk : ∀ x ∈ P ++ lastP s b r, ekOk x := fun x hx => by
  rcases List.mem_append.1 hx with hx | hx
  ·exact h.pk x hx
  ·exact lastP_ok h.st.ok hb r x hx
 have h2 : Bd (X (W.put m (gmap (P ++ lastP s b r))) W.nx [.row [.ptr p 0, .ptr q 0, .ptr g 0], .row [.int .u8 r.1, elV r.2]]) p ra rw q g m s os hn (P ++ lastP s b r) :=
  h.to (by simp [X]) (fun x hx hxm => by rw [X_old hx, put_ne hxm]) (by rw [X_old hlm, put_at]) hpk
 refine rdB_go hP h2 hb hr hPl2 (q1.trans rfl) (q3.trans rfl) (q5.trans rfl) (q6.trans rfl) (by rw [X_get]; rfl) (by rw [X_get]; rfl) ?_
 intro A''
 rw [X_putold hlm, put_put, List.append_assoc]
 exact ⟨_, e_res0, _, _, backX' rfl (ok_put hok hlm (gmap_bel _ _)) rfl, lr _, rfl, rfl⟩
theorem counts_g (hP : PE E) (W : AW) {p ra rw q : Nat} {s : Str} {os : Ods} (hS : St W p ra rw s) (hO : Od W q os) {r : Rd} {v0 : V} (hv0 : isEl v0 r.2) (hr : 0 ≤ r.1 ∧ r.1 < 256) (hrl : (nums r.2).length < 2 ^ 40) (hrn : ∀ n ∈ nums r.2, 0 ≤ n ∧ n < 65536) :
  ACalls E 78 [.ptr p 0, .ptr q 0, .agg [.int .u8 r.1, v0]] W fun Y W' => Y = .bool (countsR s os r) ∧ W' = W := by
 refine ACalls.of hP Tryz.func78 ok_countse (by simp) fun _ hok => ?_
 refine awp_start hok ?_
 have hs := hv0.isS
 simp only [c_counts, BZ, guard_if, ↓reduceIte, nE, reduceCtorEq, BM, BD]
 refine pcall_go (v := oV (keyO os r.1)) rfl (of_c' hP _ (hO.ex .x0) r.1 hr.1 hr.2) ?_
 have hk := oV_isS (keyO os r.1)
 simp only [BS, guard_if, ↓reduceIte, nE]
 refine pcall_go (v := .bool (begins (nums r.2) (keyO os r.1))) (by rw [mcs, mcs, List.map_nil, hs.frz, hk.frz]) (begins_c hP _ hs hk hrl) ?_
 cases hb : begins (nums r.2) (keyO os r.1) with
 | false =>
  simp only [BX, guard_if, ↓reduceIte, nE, BD]
  exact ⟨_, rfl, _, W, backX hok rfl, lr _, by simp [countsR, hb], rfl⟩
 | true =>
  simp only [BX, guard_if, ↓reduceIte, nE, BM, BD, hs.len, ints_len]
  rw [e_loop]
  refine alp (fun (k : Nat) A1 W1 => A1 0 = some (.ptr p 0) ∧ A1 5 = some (.ptr (rf W.nx 0) 0) ∧ A1 28 = some (v0) ∧ A1 29 = some (.int .i64 (nums r.2).length) ∧ A1 30 = some (.int .i64 k) ∧ k ≤ (nums r.2).length ∧ Ex W W1 ∧ rf W.nx 0 < W1.nx ∧ W1.get (rf W.nx 0) = some (.row [.int .u8 r.1, v0]) ∧ ((nums r.2).take k).all (fun v => (who s r.1 v).isSome) = true) (fun k => (nums r.2).length - k) 0
   ⟨rfl, rfl, rfl, rfl, rfl, Nat.zero_le _, .x0, by simp [X, rf], by rw [X_get]; rfl, rfl⟩ ?_
  rintro k A1 W1 ⟨g0, g5, g28, g29, g30, gk, gE, gn, gr, ga⟩ _
  refine awp_startC gE.cl ?_
  by_cases hk1 : k < (nums r.2).length
  ·have hat := int_at hk1
   have hv := hrn _ (gmm hk1)
   have htk : (nums r.2).take (k + 1) = (nums r.2).take k ++ [(nums r.2)[k]] := by rw [tao, gEg hk1]; rfl
   generalize hvv : (nums r.2)[k] = v at hat hv htk
   simp (maxSteps:=9^9) (disch:=omega) only [c_counts_0, BX, ↓reduceIte, nE, reduceCtorEq, BM, BD, g0, g5, g28, g29, g30, clt, hk1, dT, hs.idx hat, gr]
   refine pc (who_c hP _ (hS.ex gE.X) r.1 v hr.1 hr.2 hv.1 hv.2) ?_
   cases hw : who s r.1 v with
   | none =>
    simp (maxSteps:=9^9) (disch:=omega) only [BX, ↓reduceIte, nE, BM, BD, nA, nL, nT, msV_one, lsV_one, Option.isSome_none, Option.getD_none, Tx.V, Tx.zero]
    refine ⟨_, rfl, _, W, gE.X.back hok rfl, lr _, ?_, rfl⟩
    have : (nums r.2).all (fun v => (who s r.1 v).isSome) = false := by
     rw [List.all_eq_false]
     exact ⟨v, by rw [← hvv]; exact gmm _, by simp [hw]⟩
    simp [countsR, this]
   | some t =>
    simp (maxSteps:=9^9) (disch:=omega) only [BX, ↓reduceIte, nE, reduceCtorEq, BM, BD, nA, nL, nT, msV_one, lsV_one, Option.isSome_some, Option.getD_some, Tx.V, g0, g5, g28, g29, g30, wadd1]
    refine ⟨k + 1, ⟨tt, tt, tt, tt, tt, tt, gE.X, ?_, ?_, ?_⟩, by omega, ?_⟩
    ·simp only [rf] at gn; (try simp only [rf]); omega
    ·first | exact gr | (rw [X_old gn]; exact gr)
    ·rw [htk, List.all_append, ga]; simp [hw]
    ·have := gE.nx; simp only [rf]; omega
  ·obtain rfl : k = (nums r.2).length := by omega
   rw [tkl] at ga
   simp (maxSteps:=9^9) (disch:=omega) only [c_counts_0, BX, ↓reduceIte, BM, BD, g29, g30, clt, hk1, dF]
   exact ⟨_, rfl, _, W, gE.X.back hok rfl, lr _, by simp [countsR, hb, ga], rfl⟩
theorem counts_c (hP : PE E) (W : AW) {p ra rw q : Nat} {s : Str} {os : Ods} (hS : St W p ra rw s) (hO : Od W q os) {r : Rd} (hr : 0 ≤ r.1 ∧ r.1 < 256) (hrl : (nums r.2).length < 2 ^ 40) (hrn : ∀ n ∈ nums r.2, 0 ≤ n ∧ n < 65536) :
  ACalls E 78 [.ptr p 0, .ptr q 0, rdV r] W fun Y W' => Y = .bool (countsR s os r) ∧ W' = W := counts_g hP W hS hO (elV_isEl r.2) hr hrl hrn
def c_build_B3_0 : AC := (.r [.b 52 (.bin .lss) 51 50] (.seq (.w 52 4) (.seq (.block 5 (.r [.b 53 (.idxp 2) 49 51,.u 54 (.load true 2) 53,.p 9 (.alloc [.int .u8 0,.nilsl]) [],⟨none,.store 2, [.t 9,.t 54], none⟩] (.r [.u 55 (.load false 1) 2,.u 56 (.load false 1) 3,.u 57 (.load true 2) 9,.p 58 (.call 78) [.t 55,.t 56,.t 57]] (.cond (.t 58) (.reg [.u 59 (.load true 3) 5,.u 60 (.fld 0) 7,.u 61 (.load false 1) 60,.u 62 (.load true 2) 9,.p 63 (.call 79) [.t 59,.t 61,.t 62]]) .skip)))) (.reg [.a 64 (.bin .add) 51 1,.m 51 64]))))
def c_build_B3 : AC := (.block 3 (.seq (.r [.u 32 (.load true 5) 7,.u 33 (.call 77) 32,.u 34 (.un .not) 33] (.cond (.t 34) (.exit 3) .skip)) (.seq (.par (.step 0 (.u 35 (.fld 2) 5) (.step 2 (.u 37 (.fld 2) 5) (.step 7 (.u 42 (.fld 0) 7) (.step 3 (.u 38 (.load false 1) 37) (.step 4 (.u 39 .nilck 38) (.step 5 (.u 40 (.fld 0) 39) (.step 6 (.u 41 (.load false 1) 40) (.step 8 (.u 43 (.load false 1) 42) (.step 9 (.u 44 (.bslice 1 1 (.int .u16 0) [0]) 43) (.alt (.step 1 (.u 36 (.load false 1) 35) (.step 10 (.b 45 (.append 1 2) 41 44) (.step 11 (.u 46 .nilck 36) (.step 12 (.u 47 (.fld 0) 46) (.step 13 ⟨none,.store 1, [.t 47,.t 45], none⟩ .done))))) (.step 10 (.b 45 (.append 1 2) 41 44) (.step 1 (.u 36 (.load false 1) 35) (.step 11 (.u 46 .nilck 36) (.step 12 (.u 47 (.fld 0) 46) (.step 13 ⟨none,.store 1, [.t 47,.t 45], none⟩ .done)))))))))))))))) (.r [.u 48 (.load true 5) 7,.u 49 (.call 36) 48,.u 50 (.len 1 0) 49,.v 51 (.int .i64 0)] (.block 4 (.loop c_build_B3_0))))))
def c_build_0 : AC := (.r [.p 23 (.bin .lss) [.t 22,.c (.int .u8 8)]] (.seq (.w 23 0) (.seq (.block 1 (.r [.m 24 22,.m 6 24] (.reg [.u 25 (.load true 3) 5,.m 26 6,.b 27 (.call 75) 25 26]))) (.reg [.p 28 (.bin .add) [.t 22,.c (.int .u8 1)],.m 22 28]))))
def c_build : AC := (.r [.u 2 .box 0,.u 3 .box 1,.v 4 (.nilptr)] (.seq (.r [.u 10 (.load false 1) 2,.p 11 (.eqn false 0) [.t 10,.c (.nilptr)],.m 12 11,.U 13 (.load false 1) 3 12 false,.P 14 (.eqn false 0) [.t 13,.c (.nilptr)] 12 false,.p 15 .pick [.t 12,.T,.t 14]] (.cond (.t 15) (.r [.v 4 (.nilptr)] .ret) .skip)) (.r [.u 16 (.load false 1) 2,.u 17 (.load false 1) 3,.p 18 .mkmap [],.u 19 (.build [.nilsl,.nilmap] [(1, 1)]) 18,.u 20 .box 19,.p 21 (.build [.nilptr,.nilptr,.nilptr] [(0, 1), (1, 1), (2, 1)]) [.t 16,.t 17,.t 20],.p 5 (.alloc [.nilptr,.nilptr,.nilptr]) [],⟨none,.store 3, [.t 5,.t 21], none⟩] (.seq (.r [.v 22 (.int .u8 0)] (.block 0 (.loop c_build_0))) (.seq (.r [.u 29 (.load false 1) 2,.u 30 (.call 76) 29] (.block 2 (.rangef (.t 30) [31] (.reg [.p 7 (.alloc [.int .u16 0,.int .u8 0,.nilsl,.nilsl,.int .u8 0]) [],⟨none,.store 5, [.t 7,.t 31], none⟩]) c_build_B3))) (.r [.u 65 (.fld 2) 5,.u 66 (.load false 1) 65,.m 4 66] .ret))))))
theorem ok_builde : compF Tryz.prog Tryz.f38 ⟨false, false, []⟩ = some (c_build, [.tmp 4], 67) := by kernel_rfl
def rf1 (s : Str) (os : Ods) (b : Int) (r : Rd) : List Ek := if countsR s os r = true then readP s os b r else []
theorem readP_ok {s : Str} (h : SOk s) (os : Ods) {b : Int} (hb : 0 ≤ b ∧ b < 65536) (r : Rd) : ∀ x ∈ readP s os b r, ekOk x := by
 intro x hx
 rcases List.mem_append.1 hx with hx | hx
 ·exact lastP_ok h hb r x hx
 ·exact nextP_ok h os hb r x hx
theorem rf1_ok {s : Str} (h : SOk s) (os : Ods) {b : Int} (hb : 0 ≤ b ∧ b < 65536) (r : Rd) : ∀ x ∈ rf1 s os b r, ekOk x := by
 unfold rf1
 split
 ·exact readP_ok h os hb r
 ·simp
theorem flat_snoc {α β : Type} {f : α → List β} {l : List α} {k : Nat} (h : k < l.length) : (l.take (k + 1)).flatMap f = (l.take k).flatMap f ++ f l[k] := by
 rw [tao, gEg h, List.flatMap_append]; simp [List.flatMap]
theorem flat_le {α β : Type} {f : α → List β} (l : List α) (k : Nat) : ((l.take k).flatMap f).length ≤ (l.flatMap f).length := by
 conv => rhs; rw [← List.take_append_drop k l, List.flatMap_append, lap]
 omega
theorem rdV_at {l : List Rd} {k : Nat} (h : k < l.length) : (l.map rdV)[k]? = some (rdV l[k]) := by simp [h]
theorem rdV_cells (r : Rd) : (rdV r).cells = [.int .u8 r.1, elV r.2] := rfl
theorem readsR_nums {t : Tx} (h : t.ok) : ∀ r ∈ readsR t, (nums r.2).length ≤ 32 ∧ ∀ n ∈ nums r.2, 0 ≤ n ∧ n < 65536 := by
 intro r hr
 unfold readsR at hr
 split at hr
 ·simp at hr
 ·exact h.ls _ (List.of_mem_zip (a := r.1) (b := r.2) hr).2
theorem readsR_len {t : Tx} (h : t.ok) : (readsR t).length ≤ 8 := by
 unfold readsR
 split
 ·simp
 ·rw [List.length_zip]; have := h.lsl; omega
theorem rds_go (hP : PE E) {W0 : AW} {p ra rw q g m b2 b3 b5 b7 : Nat} {s : Str} {os : Ods} {hn : V} {P : List Ek} (hC : Cl W0) (h : Bd W0 p ra rw q g m s os hn P) {t : Tx} (ht : t.ok) {r7 : List V}
  (hPl : (P ++ (readsR t).flatMap (rf1 s os t.id)).length < 2 ^ 40) {A : AFr} {Q : Exit → AFr → AW → Prop} (a2 : A 2 = some (.ptr b2 0)) (a3 : A 3 = some (.ptr b3 0)) (a5 : A 5 = some (.ptr b5 0)) (a7 : A 7 = some (.ptr b7 0)) (a49 : A 49 = some (nowGS 2 ((readsR t).map rdV))) (a50 : A 50 = some (.int .i64 (readsR t).length)) (a51 : A 51 = some (.int .i64 0))
  (g2 : W0.get b2 = some (.row [.ptr p 0])) (g3 : W0.get b3 = some (.row [.ptr q 0])) (g5 : W0.get b5 = some (.row [.ptr p 0, .ptr q 0, .ptr g 0])) (g7 : W0.get b7 = some (.row (.int .u16 t.id :: r7)))
  (l2 : b2 < W0.nx) (l3 : b3 < W0.nx) (l5 : b5 < W0.nx) (l7 : b7 < W0.nx)
  (hQ : ∀ A' W', Cl W' → W0.nx ≤ W'.nx → (∀ x, x < W0.nx → x ≠ m → W'.get x = W0.get x) → W'.get m = some (gmap (P ++ (readsR t).flatMap (rf1 s os t.id))) → Q (.exit 4) A' W') : ALoop (awp E c_build_B3_0) Q A W0 := by
 have hsl := nowGS_S 2 ((readsR t).map rdV)
 have htid := And.intro ht.id0 ht.id1
 have n2 : b2 ≠ m := by rintro rfl; have := g2.symm.trans h.hm; cases this
 have n3 : b3 ≠ m := by rintro rfl; have := g3.symm.trans h.hm; cases this
 have n5 : b5 ≠ m := by rintro rfl; have := g5.symm.trans h.hm; cases this
 have n7 : b7 ≠ m := by rintro rfl; have := g7.symm.trans h.hm; cases this
 have hlm := h.lm
 have hr8 := readsR_len ht
 have hpok : ∀ i, ∀ x ∈ P ++ ((readsR t).take i).flatMap (rf1 s os t.id), ekOk x := fun i x hx => by
  rcases List.mem_append.1 hx with hx | hx
  ·exact h.pk x hx
  ·obtain ⟨z, _, hz⟩ := List.mem_flatMap.1 hx
   exact rf1_ok h.st.ok os htid z x hz
 refine alp (fun (k : Nat) A1 W1 => A1 2 = some (.ptr b2 0) ∧ A1 3 = some (.ptr b3 0) ∧ A1 5 = some (.ptr b5 0) ∧ A1 7 = some (.ptr b7 0) ∧ A1 49 = some (nowGS 2 ((readsR t).map rdV)) ∧ A1 50 = some (.int .i64 (readsR t).length) ∧ A1 51 = some (.int .i64 k) ∧ k ≤ (readsR t).length ∧
  Cl W1 ∧ W0.nx ≤ W1.nx ∧ (∀ x, x < W0.nx → x ≠ m → W1.get x = W0.get x) ∧ W1.get m = some (gmap (P ++ ((readsR t).take k).flatMap (rf1 s os t.id)))) (fun k => (readsR t).length - k) 0
  ⟨a2, a3, a5, a7, a49, a50, a51, Nat.zero_le _, hC, lr _, fun _ _ _ => rfl, by simpa using h.hm⟩ ?_
 rintro k A1 W1 ⟨q2, q3, q5, q7, q49, q50, q51, qk, jC, jn, jg, jm⟩ _
 by_cases hk1 : k < (readsR t).length
 ·have hB := h.to (P' := P ++ ((readsR t).take k).flatMap (rf1 s os t.id)) jn jg jm (hpok k)
  have hrk := readsR_key ht.ms _ (gmm hk1)
  have hrn := readsR_nums ht _ (gmm hk1)
  have hst := flat_snoc (f := rf1 s os t.id) hk1
  have hat := rdV_at hk1
  have hle := flat_le (f := rf1 s os t.id) (readsR t) (k + 1)
  generalize (readsR t)[k] = r at hrk hrn hst hat
  have k2 := (jg _ l2 n2).trans g2
  have k3 := (jg _ l3 n3).trans g3
  have k5 := (jg _ l5 n5).trans g5
  have k7 := (jg _ l7 n7).trans g7
  have hm1 := hB.lm
  have hre := (elV_isEl r.2).isS
  refine awp_startC jC ?_
  simp (maxSteps:=9^9) (disch:=omega) only [c_build_B3_0, BX, ↓reduceIte, nE, BM, BD, nA, nL, nT, q2, q3, q49, q50, q51, clt, hk1, dT, hsl.idx hat, rdV_cells, hre.one, k2, k3]
  refine pc (counts_c hP _ (hB.st.ex .x0) (hB.od.ex .x0) (r := r) hrk (by have := hrn.1; omega) hrn.2) ?_
  cases hc : countsR s os r with
  | false =>
   have e : rf1 s os t.id r = [] := by simp [rf1, hc]
   rw [e, apn] at hst
   simp (maxSteps:=9^9) (disch:=omega) only [BS, BC, cond_if, ↓reduceIte, nE, BM, BD, q2, q3, q5, q7, q49, q50, q51, wadd1]
   refine ⟨k + 1, ⟨tt, tt, tt, tt, tt, tt, tt, tt, Cl.X, by simp only [rf]; omega, fun x hx hxm => by rw [X_old (by omega)]; exact jg x hx hxm, by (try rw [X_old hm1]); rw [hst]; exact jm⟩, by omega, by simp only [rf]; omega⟩
  | true =>
   have e : rf1 s os t.id r = readP s os t.id r := by simp [rf1, hc]
   rw [e] at hst
   simp (maxSteps:=9^9) (disch:=omega) only [BS, BC, cond_if, ↓reduceIte, nE, BM, BD, nA, nL, q5, q7, k5, k7]
   refine (bread_c hP _ (hB.ex .x0) htid (r := r) hrk (by have := hrn.1; omega) hrn.2 ?_).mono ?_
   ·rw [List.append_assoc, ← hst]
    rw [lap] at hPl ⊢
    omega
   rintro _ W3 ⟨rfl, rfl⟩
   simp (maxSteps:=9^9) (disch:=omega) only [BS, ↓reduceIte, nE, BM, BD, q2, q3, q5, q7, q49, q50, q51, wadd1]
   refine ⟨k + 1, ⟨tt, tt, tt, tt, tt, tt, tt, tt, Cl.X, by simp only [rf]; omega, fun x hx hxm => by rw [X_old (by omega), put_ne hxm]; exact jg x hx hxm, ?_⟩, by omega, by simp only [rf]; omega⟩
   (try rw [X_old hm1]); rw [put_at, hst, List.append_assoc]
 ·obtain rfl : k = (readsR t).length := by omega
  rw [tkl] at jm
  simp (maxSteps:=9^9) (disch:=omega) only [c_build_B3_0, BX, ↓reduceIte, q50, q51, clt, hk1, dF]
  exact hQ _ _ jC jn jg jm
theorem bs1 {W : AW} {K : V → AW → Prop} {a : Int} : sem E (.bslice 1 1 (.int .u16 0) [0]) [.int .u16 a] W K = K (.sl 1 true [.int .u16 a]) W := by
 simp [sem, rsem, tsem, fillE, V.cells]
theorem nowG.cells1 {W : AW} {h : V} {xs : List V} {s lo : Nat} (hn : nowG W h xs s lo) : h.cells = [h] ∧ h.one = true := by
 rcases hn with ⟨rfl, rfl⟩ | ⟨r, h1, h2, rfl, h4, h5⟩
 ·exact ⟨rfl, rfl⟩
 ·exact ⟨rfl, rfl⟩
theorem Bd.lo {W W1 : AW} {p ra rw q g m lo : Nat} {s : Str} {os : Ods} {hn hn' : V} {P P' : List Ek} (h : Bd W p ra rw q g m s os hn P) (hl : p < lo ∧ ra < lo ∧ rw < lo ∧ q < lo ∧ g < lo ∧ m < lo) (gne : g ≠ p ∧ g ≠ q ∧ g ≠ ra ∧ g ≠ rw) (hn1 : W.nx ≤ W1.nx) (hlo : lo ≤ W.nx) (hx : ∀ x, x < lo → x ≠ g → x ≠ m → W1.get x = W.get x)
  (hg : W1.get g = some (.row [hn', .map m])) (hm : W1.get m = some (gmap P')) (hk : ∀ x ∈ P', ekOk x) : Bd W1 p ra rw q g m s os hn' P' := by
 obtain ⟨n1, n2, n3⟩ := h.nem
 obtain ⟨e1, e2, e3, e4⟩ := gne
 obtain ⟨l1, l2, l3, l4, l5, l6⟩ := hl
 exact ⟨h.st.by hn1 (hx _ l1 e1.symm n1) (hx _ l2 e3.symm h.mra.symm) (hx _ l3 e4.symm h.mrw.symm), h.od.by hn1 (hx _ l4 e2.symm n2), hg, hm, by omega, by omega, h.mra, h.mrw, hk⟩
def nodeP (t : Tx) : List Int := if t.st = 2 then [] else [t.id]
theorem nodesR_eq (s : Str) : nodesR s = s.flatMap nodeP := by
 induction s with
 | nil => rfl
 | cons t s ih =>
  simp only [nodesR, List.filter_cons, List.flatMap_cons, nodeP] at ih ⊢
  rw [← ih]
  by_cases h : t.st = 2
  ·simp [h]
  ·simp [h]
theorem b3_go (hP : PE E) {W1 : AW} {p ra rw q g m b2 b3 b5 b7 lo : Nat} {s : Str} {os : Ods} {hn : V} {P : List Ek} {N : List Int} (hC : Cl W1) (h : Bd W1 p ra rw q g m s os hn P) (hnow : nowG W1 hn (intsV N) 1 lo) (hlo : lo ≤ W1.nx) (hgl : g < lo) (hml : m < lo) (hst : p < lo ∧ ra < lo ∧ rw < lo ∧ q < lo) (gne : g ≠ p ∧ g ≠ q ∧ g ≠ ra ∧ g ≠ rw) (hN : N.length < 2 ^ 20) {t : Tx} (ht : t.ok)
  (hPl : (P ++ txnP s os t).length < 2 ^ 40) {A : AFr} {Q : Exit → AFr → AW → Prop} (a2 : A 2 = some (.ptr b2 0)) (a3 : A 3 = some (.ptr b3 0)) (a5 : A 5 = some (.ptr b5 0)) (a7 : A 7 = some (.ptr b7 0))
  (g2 : W1.get b2 = some (.row [.ptr p 0])) (g3 : W1.get b3 = some (.row [.ptr q 0])) (g5 : W1.get b5 = some (.row [.ptr p 0, .ptr q 0, .ptr g 0])) (g7 : W1.get b7 = some (.row [.int .u16 t.id, .int .u8 t.client, msV t.ms, lsV t.ls, .int .u8 t.st]))
  (l2 : b2 < lo) (l3 : b3 < lo) (l5 : b5 < lo) (l7 : b7 < W1.nx) (n2 : b2 ≠ g) (n3 : b3 ≠ g) (n7 : b7 ≠ g)
  (hQ : ∀ A' W' hn', Cl W' → W1.nx ≤ W'.nx → (∀ x, x < W1.nx → x ≠ m → x ≠ g → (x < lo ∨ ∀ ys, W1.get x ≠ some (.buf true 1 ys)) → W'.get x = W1.get x) → W'.get g = some (.row [hn', .map m]) → W'.get m = some (gmap (P ++ txnP s os t)) → nowG W' hn' (intsV (N ++ nodeP t)) 1 lo → Q .normal A' W') : awp E c_build_B3 Q A W1 := by
 have hbv : ∀ x : V, V.agg [.int .u16 t.id, .int .u8 t.client, msV t.ms, lsV t.ls, .int .u8 t.st] = t.V := fun _ => rfl
 have n5 : b5 ≠ g := by rintro rfl; have := g5.symm.trans h.hg; simp at this
 simp only [c_build_B3, BZ, ↓reduceIte, BM, BD, nA, nL, a7, g7]
 refine pc (alive_c hP _ t) ?_
 by_cases hs2 : t.st = 2
 ·simp only [BS, cond_if, ↓reduceIte, BD, show decide (t.st ≠ 2) = false by simp [hs2]]
  have e1 : txnP s os t = [] := by simp [txnP, hs2]
  have e2 : nodeP t = [] := by simp [nodeP, hs2]
  rw [e1, e2, apn, apn] at hQ
  exact hQ _ _ hn hC (lr _) (fun _ _ _ _ _ => rfl) h.hg h.hm hnow
 ·have e1 : txnP s os t = (readsR t).flatMap (rf1 s os t.id) := by simp only [txnP, if_neg hs2]; rfl
  have e2 : nodeP t = [t.id] := by simp [nodeP, hs2]
  rw [e1] at hQ hPl
  rw [e2] at hQ
  have hg5 := h.hg
  have ones : (V.int IntKind.u16 t.id).cells.all V.one = true := rfl
  have hsn : intsV (N ++ [t.id]) = intsV N ++ [.int .u16 t.id] := by simp [intsV]
  have hlen : (intsV N).length = N.length := ints_len N
  -- what is left, behind the append
  have fin : ∀ (A' : AFr) (h' : V) (W' : AW), A' 2 = some (.ptr b2 0) → A' 3 = some (.ptr b3 0) → A' 5 = some (.ptr b5 0) → A' 7 = some (.ptr b7 0) → nowG W' h' (intsV N ++ [.int .u16 t.id]) 1 lo → Cl W' → W1.nx ≤ W'.nx → (∀ y, y < W1.nx → (y < lo ∨ ∀ ys, W1.get y ≠ some (.buf true 1 ys)) → W'.get y = W1.get y) →
    awp E (.seq (.reg [⟨(some 48), .load true 5, [.t 7], none⟩, ⟨(some 49), .call 36, [.t 48], none⟩, ⟨(some 50), .len 1 0, [.t 49], none⟩, ⟨(some 51), .mov, [.c (.int .i64 0)], none⟩]) (.block 4 (.loop c_build_B3_0))) (blockQ 3 Q) A' (W'.put g (.row [h', .map m])) := by
   intro A' h' W' q2 q3 q5 q7 gN gC gn gg
   have hgm : g ≠ m := h.nem.2.2
   have hB : Bd (W'.put g (.row [h', .map m])) p ra rw q g m s os h' P :=
    h.lo (lo := lo) ⟨hst.1, hst.2.1, hst.2.2.1, hst.2.2.2, hgl, hml⟩ gne (by rw [put_nx]; exact gn) hlo (fun x hx hxg _ => by rw [put_ne hxg]; exact gg x (by omega) (.inl hx)) put_at (by rw [put_ne hgm.symm, gg _ h.lm (.inl hml)]; exact h.hm) h.pk
   have k2 : (W'.put g (.row [h', .map m])).get b2 = some (.row [.ptr p 0]) := by rw [put_ne n2, gg _ (by omega) (.inl l2)]; exact g2
   have k3 : (W'.put g (.row [h', .map m])).get b3 = some (.row [.ptr q 0]) := by rw [put_ne n3, gg _ (by omega) (.inl l3)]; exact g3
   have k5 : (W'.put g (.row [h', .map m])).get b5 = some (.row [.ptr p 0, .ptr q 0, .ptr g 0]) := by rw [put_ne n5, gg _ (by omega) (.inl l5)]; exact g5
   have k7 : (W'.put g (.row [h', .map m])).get b7 = some (.row [.int .u16 t.id, .int .u8 t.client, msV t.ms, lsV t.ls, .int .u8 t.st]) := by rw [put_ne n7, gg _ l7 (.inr fun ys => by rw [g7]; simp)]; exact g7
   have hsl := nowGS_S 2 ((readsR t).map rdV)
   simp only [BZ, ↓reduceIte, BM, BD, nA, nL, q7, k7]
   refine pc (reads_c hP _ ht) ?_
   simp only [BS, ↓reduceIte, hsl.len, lmp]
   rw [e_loop]
   refine rds_go hP (gC.put (by omega)) hB ht hPl (b2 := b2) (b3 := b3) (b5 := b5) (b7 := b7) q2 q3 q5 q7 rfl rfl rfl k2 k3 k5 k7 (by rw [put_nx]; omega) (by rw [put_nx]; omega) (by rw [put_nx]; omega) (by rw [put_nx]; omega) ?_
   intro A'' W'' fC fn ff fm
   rw [put_nx] at fn
   simp only [BS, ↓reduceIte]
   have hgn : g < W'.nx := by omega
   refine hQ _ W'' h' fC (by omega) (fun x hx hxm hxg hc => ?_) ?_ fm ?_
   ·rw [ff x (by rw [put_nx]; omega) hxm, put_ne hxg]; exact gg x hx hc
   ·rw [ff g (by rw [put_nx]; omega) hgm, put_at]
   ·rw [hsn]
    refine gN.to fn fun r hr1 hr2 _ => ?_
    rw [ff r (by rw [put_nx]; omega) (by omega), put_ne (by omega)]
  have hlen2 : ((intsV N).length + 1) * 2 ≤ 2 ^ 46 := by rw [hlen]; omega
  simp only [BX, ↓reduceIte, nE, BM, BD, show decide (t.st ≠ 2) = true by simp [hs2], a5, a7, g5, g7, hg5, bs1]
  constructor
  ·refine app_now (lo := lo) hnow hC hlo (by decide) ones hlen2 ?_
   intro h' W' gN gC gn gg1 gg2
   have hg' : W'.get g = some (.row [hn, .map m]) := by rw [gg2 _ hgl]; exact hg5
   simp only [BS, ↓reduceIte, nE, BM, BD, nA, nL, gN.cells1.1, gN.cells1.2, hg']
   exact fin _ h' W' a2 a3 a5 a7 gN gC gn fun y hy hc => hc.elim (gg2 y) (gg1 y hy)
  ·refine app_now (lo := lo) hnow hC hlo (by decide) ones hlen2 ?_
   intro h' W' gN gC gn gg1 gg2
   have hg' : W'.get g = some (.row [hn, .map m]) := by rw [gg2 _ hgl]; exact hg5
   have h5' : W'.get b5 = some (.row [.ptr p 0, .ptr q 0, .ptr g 0]) := by rw [gg2 _ l5]; exact g5
   simp only [BS, BC, ↓reduceIte, nE, BM, BD, nA, nL, gN.cells1.1, gN.cells1.2, hg', h5']
   exact fin _ h' W' a2 a3 a5 a7 gN gC gn fun y hy hc => hc.elim (gg2 y) (gg1 y hy)
structure Gr (W : AW) (g m : Nat) (h : V) (P : List Ek) (N : List Int) (lo : Nat) : Prop where
 hg : W.get g = some (.row [h, .map m])
 hm : W.get m = some (gmap P)
 now : nowG W h (intsV N) 1 lo
 lg : g < W.nx
 lm : m < W.nx
 gg : lo ≤ g
 gm : lo ≤ m
 pk : ∀ x ∈ P, ekOk x
 pl : P.length < 2 ^ 32
 nl : N.length < 2 ^ 20
theorem edgeP_len (f t k : Int) : (edgeP f t k).length ≤ 1 := by unfold edgeP; split <;> simp
theorem lastP_len (s : Str) (b : Int) (r : Rd) : (lastP s b r).length ≤ 1 := by
 unfold lastP
 split
 ·split
  ·exact edgeP_len _ _ _
  ·simp
 ·simp
theorem nextP_len (s : Str) (os : Ods) (b : Int) (r : Rd) : (nextP s os b r).length ≤ 1 := by
 unfold nextP
 split
 ·split
  ·exact edgeP_len _ _ _
  ·simp
 ·simp
theorem flat_len {α β : Type} {f : α → List β} {n : Nat} : ∀ {l : List α}, (∀ x ∈ l, (f x).length ≤ n) → (l.flatMap f).length ≤ l.length * n
 | [], _ => by simp
 | x :: l, h => by
  have h1 := h x (by simp)
  have h2 := flat_len (l := l) (f := f) (n := n) fun y hy => h y (by simp [hy])
  rw [List.flatMap_cons, lap, lcs, Nat.add_mul]; omega
theorem txnP_len {s : Str} {os : Ods} {t : Tx} (h : t.ok) : (txnP s os t).length ≤ 16 := by
 unfold txnP
 split
 ·simp
 ·have := flat_len (f := fun r => if countsR s os r = true then readP s os t.id r else []) (n := 2) (l := readsR t) fun r _ => by
   split
   ·have h1 := lastP_len s t.id r
    have h2 := nextP_len s os t.id r
    rw [readP, lap]; omega
   ·simp
  have h8 := readsR_len h
  omega
theorem keyP_len {W : AW} {q : Nat} {s : Str} {os : Ods} (h : Od W q os) (k : Int) : (keyP s os k).length ≤ 32 := by
 have := flat_len (f := kf s k) (n := 1) (l := (keyO os k).zip (keyO os k).tail) fun x _ => by
  unfold kf
  split
  ·exact edgeP_len _ _ _
  ·simp
 have h1 := (keyO_ok h k).1
 have h2 : ((keyO os k).zip (keyO os k).tail).length ≤ 32 := by rw [List.length_zip]; omega
 have h3 : keyP s os k = ((keyO os k).zip (keyO os k).tail).flatMap (kf s k) := rfl
 rw [h3]; omega
theorem buildP_len {W : AW} {q : Nat} {s : Str} {os : Ods} (hs : SOk s) (h : Od W q os) : (buildP s os).length < 2 ^ 21 := by
 have h1 := flat_len (f := fun (k : Nat) => keyP s os (k : Int)) (n := 32) (l := List.range 8) fun k _ => keyP_len h k
 have h2 := flat_len (f := txnP s os) (n := 16) (l := s) fun t ht => txnP_len (hs.ok t ht)
 have h3 := st_len hs
 have h4 : (List.range 8).length = 8 := rfl
 rw [buildP, keysP, lap]
 omega
theorem buildP_ok {s : Str} {os : Ods} (hs : SOk s) : ∀ x ∈ buildP s os, ekOk x := by
 intro x hx
 rcases List.mem_append.1 hx with hx | hx
 ·obtain ⟨k, _, hx⟩ := List.mem_flatMap.1 hx
  obtain ⟨z, _, hz⟩ := List.mem_flatMap.1 hx
  exact kf_ok hs _ z x hz
 ·obtain ⟨t, ht, hx⟩ := List.mem_flatMap.1 hx
  have hto := hs.ok t ht
  unfold txnP at hx
  split at hx
  ·simp at hx
  ·obtain ⟨r, _, hr⟩ := List.mem_flatMap.1 hx
   exact rf1_ok hs os ⟨hto.id0, hto.id1⟩ r x hr
theorem nodes_len (s : Str) : (nodesR s).length ≤ s.length := by
 simp only [nodesR, lmp]; exact List.length_filter_le _ _
theorem prefix_ok {s : Str} {os : Ods} (hs : SOk s) {P' : List Ek} (h : P' <+: buildP s os) : ∀ x ∈ P', ekOk x := fun x hx => buildP_ok hs x (h.subset hx)
theorem u8add1 {k : Nat} (h : k < 100) : IntKind.u8.wrap ((k : Int) + 1) = ((k + 1 : Nat) : Int) := by
 simp only [IntKind.wrap, IntKind.signed, IntKind.bits]; simp; omega
theorem build_c (hP : PE E) (W : AW) {p ra rw q : Nat} {s : Str} {os : Ods} (hS : St W p ra rw s) (hO : Od W q os) :
  ACalls E 38 [.ptr p 0, .ptr q 0] W fun Y W' => ∃ g m h, Y = .ptr g 0 ∧ Gr W' g m h (buildP s os) (nodesR s) W.nx ∧ Ex W W' := by
 refine ACalls.of hP Tryz.func38 ok_builde (by simp) fun _ hok => ?_
 refine awp_start hok ?_
 have hlp := hS.lp
 have hla := hS.la
 have hlw := hS.lw
 have hlq := hO.lq
 have hbl := buildP_len hS.ok hO
 have hsl := st_len hS.ok
 simp only [c_build, BX, guard_if, ↓reduceIte, nE, BM, BD, nA, nL, nT]
 rw [e_loop]
 obtain ⟨W0, hW0⟩ : ∃ W0, W0 = X W W.nx [.row [.ptr p 0], .row [.ptr q 0], .map [] 0, .row [.nilsl, .map (rf W.nx 2)], .row [.ptr p 0, .ptr q 0, .ptr (rf W.nx 3) 0]] := ⟨_, rfl⟩
 rw [← hW0]
 have hE0 : Ex W W0 := by rw [hW0]; exact .x0
 have hn0 : W0.nx = W.nx + 5 := by rw [hW0]; rfl
 have r0 : rf W.nx 0 = W.nx := rfl
 have r1 : rf W.nx 1 = W.nx + 1 := rfl
 have r2 : rf W.nx 2 = W.nx + 2 := rfl
 have r3 : rf W.nx 3 = W.nx + 3 := rfl
 have r4 : rf W.nx 4 = W.nx + 4 := rfl
 have w0 : W0.get (rf W.nx 0) = some (.row [.ptr p 0]) := by rw [hW0, X_get]; rfl
 have w1 : W0.get (rf W.nx 1) = some (.row [.ptr q 0]) := by rw [hW0, X_get]; rfl
 have w2 : W0.get (rf W.nx 2) = some (gmap []) := by rw [hW0, X_get]; rfl
 have w3 : W0.get (rf W.nx 3) = some (.row [.nilsl, .map (rf W.nx 2)]) := by rw [hW0, X_get]; rfl
 have w4 : W0.get (rf W.nx 4) = some (.row [.ptr p 0, .ptr q 0, .ptr (rf W.nx 3) 0]) := by rw [hW0, X_get]; rfl
 have hB0 : Bd W0 p ra rw q (rf W.nx 3) (rf W.nx 2) s os .nilsl [] := ⟨hS.ex hE0, hO.ex hE0, w3, w2, by omega, by omega, by omega, by omega, by simp⟩
 clear hW0
 refine alp (fun (k : Nat) A1 W1 => A1 2 = some (.ptr (rf W.nx 0) 0) ∧ A1 3 = some (.ptr (rf W.nx 1) 0) ∧ A1 5 = some (.ptr (rf W.nx 4) 0) ∧ A1 22 = some (.int .u8 k) ∧ k ≤ 8 ∧ W1 = W0.put (rf W.nx 2) (gmap ((List.range k).flatMap fun (j : Nat) => keyP s os (j : Int)))) (fun k => 8 - k) 0
  ⟨rfl, rfl, rfl, rfl, Nat.zero_le _, (put_same w2).symm⟩ ?_
 rintro k A1 W1 ⟨q2, q3, q5, q22, qk, rfl⟩ _
 have hpre : ∀ j, j ≤ 8 → ((List.range j).flatMap fun (j : Nat) => keyP s os (j : Int)) <+: keysP s os := by
  intro j hj
  have : List.range 8 = List.range j ++ (List.range (8 - j)).map (j + ·) := by rw [← List.range_add]; congr 1; omega
  rw [keysP, this, List.flatMap_append]; exact List.prefix_append _ _
 have hkb : keysP s os <+: buildP s os := List.prefix_append _ _
 have hB1 : Bd (W0.put (rf W.nx 2) (gmap ((List.range k).flatMap fun (j : Nat) => keyP s os (j : Int)))) p ra rw q (rf W.nx 3) (rf W.nx 2) s os .nilsl ((List.range k).flatMap fun (j : Nat) => keyP s os (j : Int)) :=
  hB0.to (by rw [put_nx]; omega) (fun x _ hx => put_ne hx) put_at (prefix_ok hS.ok ((hpre k qk).trans hkb))
 have v4 : (W0.put (rf W.nx 2) (gmap ((List.range k).flatMap fun (j : Nat) => keyP s os (j : Int)))).get (rf W.nx 4) = some (.row [.ptr p 0, .ptr q 0, .ptr (rf W.nx 3) 0]) := by rw [put_ne (by omega)]; exact w4
 by_cases hk : k < 8
 ·have hk' : decide ((k : Int) < 8) = true := by simp; omega
  have hst : ((List.range (k + 1)).flatMap fun (j : Nat) => keyP s os (j : Int)) = ((List.range k).flatMap fun (j : Nat) => keyP s os (j : Int)) ++ keyP s os k := by
   rw [List.range_succ, List.flatMap_append]; simp [List.flatMap]
  have hle := ((hpre (k + 1) hk).trans hkb).length_le
  simp (maxSteps:=9^9) (disch:=omega) only [c_build_0, BX, ↓reduceIte, nE, BM, BD, nA, nL, q5, q22, hk', v4]
  refine (key_c hP _ hB1 k (by omega) (by omega) (by rw [← hst]; omega)).mono ?_
  rintro _ W3 ⟨rfl, rfl⟩
  simp (maxSteps:=9^9) (disch:=omega) only [BS, ↓reduceIte, nE, q2, q3, q5, q22, u8add1]
  refine ⟨k + 1, ⟨tt, tt, tt, tt, hk, ?_⟩, by omega, by simp only [put_nx]; omega⟩
  rw [put_put, hst]
 ·obtain rfl : k = 8 := by omega
  have hk' : decide (((8 : Nat) : Int) < 8) = false := by decide
  obtain ⟨W1, hW1⟩ : ∃ W1, W1 = W0.put (rf W.nx 2) (gmap ((List.range 8).flatMap fun (j : Nat) => keyP s os (j : Int))) := ⟨_, rfl⟩
  rw [← hW1] at hB1 v4 ⊢
  have hn1 : W1.nx = W.nx + 5 := by rw [hW1, put_nx]; exact hn0
  have hg1 : ∀ x, x ≠ rf W.nx 2 → W1.get x = W0.get x := fun x hx => by rw [hW1, put_ne hx]
  have v0 : W1.get (rf W.nx 0) = some (.row [.ptr p 0]) := by rw [hg1 _ (by omega)]; exact w0
  have v1 : W1.get (rf W.nx 1) = some (.row [.ptr q 0]) := by rw [hg1 _ (by omega)]; exact w1
  have hC1 : Cl W1 := by rw [hW1]; exact hE0.cl.put (by omega)
  have hE1 : Ex W W1 := ⟨hC1, by omega, fun x hx => by rw [hg1 _ (by omega)]; exact hE0.get x hx⟩
  clear hW1
  simp (maxSteps:=9^9) (disch:=omega) only [c_build_0, BX, ↓reduceIte, nE, BM, q2, q22, hk', v0]
  refine (all_c hP _ p).mono ?_
  rintro _ W2 ⟨rfl, rfl⟩
  simp (maxSteps:=9^9) (disch:=omega) only [BS]
  obtain ⟨W2, hW2⟩ : ∃ W2, W2 = W1.alloc (.row [.ptr p 0]) := ⟨_, rfl⟩
  rw [← hW2]
  have hn2 : W2.nx = W.nx + 6 := by rw [hW2, alloc_nx, hn1]
  have hq2 : W2.get W1.nx = some (.row [.ptr p 0]) := by rw [hW2, alloc_at]
  have hE12 : Ex W1 W2 := ⟨fun x hx => by rw [hW2, al_gets]; rw [hW2, alloc_nx] at hx; rw [if_neg (by omega)]; exact hC1 x (by omega), by omega, fun x hx => by rw [hW2, alloc_lt hx]⟩
  have hB2 := hB1.ex hE12
  have u0 := (hE12.get _ (by omega : rf W.nx 0 < W1.nx)).trans v0
  have u1 := (hE12.get _ (by omega : rf W.nx 1 < W1.nx)).trans v1
  have u4 := (hE12.get _ (by omega : rf W.nx 4 < W1.nx)).trans v4
  have hE2 := hE1.trans hE12
  have hb8 : keysP s os = (List.range 8).flatMap fun (j : Nat) => keyP s os (j : Int) := rfl
  rw [← hb8] at hB2
  have hpreb : ∀ i, (keysP s os ++ (s.take i).flatMap (txnP s os)) <+: buildP s os := fun i => by
   refine List.prefix_append_right_inj _ |>.2 ?_
   generalize txnP s os = f
   conv => rhs; rw [← List.take_append_drop i s, List.flatMap_append]
   exact List.prefix_append _ _
  refine range_all hP (q := W1.nx) (s := s) (W0 := W2) (by simp only [ev_t]; exact if_pos rfl) hq2 (by omega) hE2.cl (hS.ex hE2)
   (fun i W' => Cl W' ∧ (∀ x, x < W2.nx → x ≠ rf W.nx 2 → x ≠ rf W.nx 3 → W'.get x = W2.get x) ∧ W'.get (rf W.nx 2) = some (gmap (keysP s os ++ (s.take i).flatMap (txnP s os))) ∧ ∃ hn, W'.get (rf W.nx 3) = some (.row [hn, .map (rf W.nx 2)]) ∧ nowG W' hn (intsV ((s.take i).flatMap nodeP)) 1 W2.nx) ?_ ?_ ?_ ?_
  ·intro W' hE
   refine ⟨hE.cl, fun x hx _ _ => hE.get x hx, ?_, .nilsl, ?_, .inl ⟨rfl, rfl⟩⟩
   ·rw [hE.get _ (by omega), hB2.hm]; simp
   ·rw [hE.get _ (by omega), hB2.hg]
  ·rintro i W' ⟨j0, j1, _⟩
   exact ⟨j0, j1 _ (by omega) (by omega) (by omega), j1 _ (by omega) (by omega) (by omega), j1 _ (by omega) (by omega) (by omega)⟩
  ·rintro i hi W' ⟨j0, j1, j2, hn, j3, j4⟩ hl hnn
   have hto := hS.ok.ok s[i] (gmm hi)
   have st1 := flat_snoc (f := txnP s os) hi
   have st2 := flat_snoc (f := nodeP) hi
   have hpi := hpreb (i + 1)
   rw [st1, ← List.append_assoc] at hpi
   have hnl : ((s.take i).flatMap nodeP).length < 2 ^ 20 := by
    have := flat_len (f := nodeP) (n := 1) (l := s.take i) fun t _ => by unfold nodeP; split <;> simp
    have h2 : (s.take i).length ≤ s.length := by simp; omega
    omega
   generalize s[i] = t at hto st1 st2 hpi
   refine awp_startC j0 ?_
   simp (maxSteps:=9^9) (disch:=omega) only [BS, BC, ↓reduceIte, nE, BM, BD, nA, nL, nT, msV_one, lsV_one, Tx.V, hl]
   refine ⟨tt, ?_⟩
   have hB : Bd (X (W'.put W2.nx (.loop .busy none)) W'.nx [.row [.int .u16 t.id, .int .u8 t.client, msV t.ms, lsV t.ls, .int .u8 t.st]]) p ra rw q (rf W.nx 3) (rf W.nx 2) s os hn (keysP s os ++ (s.take i).flatMap (txnP s os)) :=
    hB2.lo (lo := W2.nx) (by omega) (by omega) (by simp only [X_nx, rf]; omega) (lr _) (fun x hx h3 h2 => by rw [X_old (by omega), put_ne (by omega)]; exact j1 x hx h2 h3) (by rw [X_old (by omega), put_ne (by omega)]; exact j3) (by rw [X_old (by omega), put_ne (by omega)]; exact j2) (prefix_ok hS.ok (hpreb i))
   refine b3_go hP (lo := W2.nx) (b2 := rf W.nx 0) (b3 := rf W.nx 1) (b5 := rf W.nx 4) (b7 := rf W'.nx 0) (N := (s.take i).flatMap nodeP) (t := t) Cl.X hB (j4.to (by simp only [X_nx, rf]; omega) fun r h1 h2 ⟨ys, hy⟩ => by rw [X_old h2, put_ne (by rintro rfl; rw [hl] at hy; cases hy)]) (by simp only [X_nx, rf]; omega) (by omega) (by omega) (by omega) (by omega) hnl hto (by have := hpi.length_le; omega) q2 q3 q5 rfl ?_ ?_ ?_ (by rw [X_get]; rfl) (by omega) (by omega) (by omega) (by simp [X_nx, rf]) (by omega) (by omega) (by simp only [rf]; omega) ?_
   ·rw [X_old (by omega), put_ne (by omega), j1 _ (by omega) (by omega) (by omega)]; exact u0
   ·rw [X_old (by omega), put_ne (by omega), j1 _ (by omega) (by omega) (by omega)]; exact u1
   ·rw [X_old (by omega), put_ne (by omega), j1 _ (by omega) (by omega) (by omega)]; exact u4
   intro A'' W'' hn' fC fn ff fg fm fnow
   simp only [X_nx, rf, lcs, List.length_nil] at fn
   have hloop : W''.get W2.nx = some (.loop .busy none) := by
    rw [ff W2.nx (by simp only [X_nx, rf]; omega) (by omega) (by omega) (.inr fun ys => by rw [X_old (by omega), put_at]; simp), X_old (by omega), put_at]
   refine ⟨rfl, hloop, by omega, fC.put (by omega), fun x hx h2 h3 => ?_, ?_, hn', ?_, ?_⟩
   ·rw [put_ne (by omega), ff x (by simp only [X_nx, rf]; omega) h2 h3 (.inl hx), X_old (by omega), put_ne (by omega)]
    exact j1 x hx h2 h3
   ·rw [put_ne (by omega), fm, st1, List.append_assoc]
   ·rw [put_ne (by omega), fg]
   ·rw [st2]
    exact fnow.to (by rw [put_nx]; exact lr _) fun r h1 h2 ⟨ys, hy⟩ => put_ne (by rintro rfl; rw [hloop] at hy; cases hy)
  ·rintro W' ⟨j0, j1, j2, hn, j3, j4⟩ hl hnn
   rw [tkl] at j2 j4
   rw [← nodesR_eq] at j4
   have k4 : (W'.put W2.nx (.loop .exhausted none)).get (rf W.nx 4) = some (.row [.ptr p 0, .ptr q 0, .ptr (rf W.nx 3) 0]) := by rw [put_ne (by omega), j1 _ (by omega) (by omega) (by omega)]; exact u4
   simp (maxSteps:=9^9) (disch:=omega) only [BZ, ↓reduceIte, nE, BM, BD, q5, k4]
   have hnl := nodes_len s
   have hbp : buildP s os = keysP s os ++ s.flatMap (txnP s os) := rfl
   refine ⟨_, rfl, _, _, .weak weak_id, by rw [put_nx]; omega, rf W.nx 3, rf W.nx 2, hn, rfl, ⟨by rw [put_ne (by omega)]; exact j3, by rw [put_ne (by omega)]; exact j2, ?_, by rw [put_nx]; omega, by rw [put_nx]; omega, by omega, by omega, buildP_ok hS.ok, by omega, by omega⟩, j0.put (by omega), by rw [put_nx]; omega, fun x hx => by rw [put_ne (by omega), j1 x (by omega) (by omega) (by omega)]; exact hE2.get x hx⟩
   rcases j4 with j4 | ⟨r, h1, h2, h3, h4, h5⟩
   ·exact .inl j4
   ·exact .inr ⟨r, by omega, by rw [put_nx]; exact h2, h3, h4, by rw [put_ne (by rintro rfl; rw [hl] at h5; cases h5)]; exact h5⟩
open Go Go.AL Go.AL.SE Go.Proofs
def c_nodes : AC := (.r [.v 2 (.nilsl)] (.seq (.r [.m 3 0,.p 4 (.eqn false 0) [.t 3,.c (.nilptr)]] (.cond (.t 4) (.r [.v 2 (.nilsl)] .ret) .skip)) (.r [.m 5 0,.u 6 .nilck 5,.u 7 (.fld 0) 6,.u 8 (.load false 1) 7,.u 9 (.call 47) 8,.m 2 9] .ret)))
theorem ok_nodese : compF Tryz.prog Tryz.f14 ⟨false, false, []⟩ = some (c_nodes, [.tmp 2], 10) := by kernel_rfl
def c_sorted : AC := (.r [.v 2 (.nilsl)] (.seq (.r [.m 3 0,.p 4 (.eqn false 0) [.t 3,.c (.nilptr)]] (.cond (.t 4) (.r [.v 2 (.nilsl)] .ret) .skip)) (.r [.m 5 0,.u 6 .nilck 5,.u 7 (.fld 1) 6,.u 8 (.load false 1) 7,.u 9 (.call 108) 8,.p 10 (.call 107) [.t 9,.f 109],.m 2 10] .ret)))
theorem ok_sortede : compF Tryz.prog Tryz.f81 ⟨false, false, []⟩ = some (c_sorted, [.tmp 2], 11) := by kernel_rfl
def c_edges : AC := (.r [.u 1 .box 0,.v 2 (.nilfn)] (.r [.u 3 (.mkfn (.func 80) 0) 1,.m 2 3] .ret))
theorem ok_edgese : compF Tryz.prog Tryz.f39 ⟨false, false, []⟩ = some (c_edges, [.tmp 2], 4) := by kernel_rfl
def c_edges1_0 : AC := (.r [.b 9 (.bin .lss) 8 7] (.seq (.w 9 0) (.seq (.block 1 (.r [.b 10 (.idxp 3) 6 8,.u 11 (.load true 3) 10,.p 4 (.alloc [.int .u16 0,.int .u16 0,.int .u8 0]) [],⟨none,.store 3, [.t 4,.t 11], none⟩] (.r [.m 12 0,.u 13 (.load true 3) 4,.b 14 .callv 12 13,.u 15 (.un .not) 14] (.cond (.t 15) .ret .skip)))) (.reg [.a 16 (.bin .add) 8 1,.m 8 16]))))
def c_edges1 : AC := (.r [.u 5 (.load false 1) 1,.u 6 (.call 81) 5,.u 7 (.len 1 0) 6,.v 8 (.int .i64 0)] (.block 0 (.loop c_edges1_0)))
theorem ok_edges1e : compF Tryz.prog Tryz.f80 ⟨false, false, []⟩ = some (c_edges1, [], 17) := by kernel_rfl
theorem gs_clone (l : List Int) : cloneV 1 (nowGS 1 (intsV l)) = nowGS 1 (intsV l) := by
 cases l with
 | nil => rfl
 | cons a l => rfl
theorem nodes_c (hP : PE E) (W : AW) {g m lo : Nat} {h : V} {P : List Ek} {N : List Int} (hG : Gr W g m h P N lo) : ACalls E 14 [.ptr g 0] W fun Y W' => Y = nowGS 1 (intsV N) ∧ W' = W := by
 refine ACalls.of hP Tryz.func14 ok_nodese (by simp) fun _ hok => ?_
 simp only [c_nodes, BX, ↓reduceIte, reduceCtorEq, BM, BD, hG.hg, hG.now.frz]
 have hs := nowGS_S 1 (intsV N)
 refine pc (clone39_c hP W _ _ hs (belL_ints _ _) (by rw [ints_len]; have := hG.nl; omega)) ?_
 rw [gs_clone]
 simp only [BS, BC, ↓reduceIte, hs.frz]
 exact ⟨_, rfl, _, _, .weak weak_id, lr _, rfl, rfl⟩
theorem keys35_c (hP : PE E) (W : AW) (m : Nat) : ACalls E 108 [.map m] W fun Y W' => Y = .fn (.func 132) [] [.ptr W.nx 0] ∧ W' = W.alloc (.row [.map m]) := by
 refine ACalls.of hP Tryz.func108 ok_e35e (by simp) fun _ hok => ?_
 simp only [c_e35, BZ, ↓reduceIte, nE, BM, BD]
 exact ⟨_, rfl, _, _, .weak weak_id, by rw [alloc_nx]; omega, rfl, rfl⟩
theorem g_edOf (l : List (Ek × Int)) : ∀ n, (gFrom n l).map edOf = (keysE l).map toEd := by
 induction l with
 | nil => intro n; rfl
 | cons x l ih => intro n; simp only [gFrom, mcs, ih, keysE]; rfl
theorem g_key (l : List (Ek × Int)) : ∀ n, ∀ e ∈ gFrom n l, e.1 = (edOf e).V := by
 induction l with
 | nil => intro n e he; simp [gFrom] at he
 | cons x l ih =>
  intro n e he
  rcases List.mem_cons.1 he with rfl | he
  ·rfl
  ·exact ih _ e he
theorem g_len (l : List (Ek × Int)) : ∀ n, (gFrom n l).length = l.length := by
 induction l with
 | nil => intro n; rfl
 | cons x l ih => intro n; simp [gFrom, ih]
theorem g_fresh (l : List (Ek × Int)) : ∀ n, (∀ e ∈ gFrom n l, n ≤ e.2.2 ∧ e.2.2 < n + l.length) ∧ (stamps (gFrom n l)).Nodup := by
 induction l with
 | nil => intro n; exact ⟨fun _ h => by simp [gFrom] at h, List.nodup_nil⟩
 | cons x l ih =>
  intro n
  obtain ⟨h1, h2⟩ := ih (n + 1)
  refine ⟨fun e he => ?_, ?_⟩
  ·rcases List.mem_cons.1 he with rfl | he
   ·simp
   ·have := h1 e he; simp only [lcs]; omega
  ·refine List.nodup_cons.2 ⟨fun h => ?_, h2⟩
   obtain ⟨e, he, h3⟩ := List.mem_map.1 h
   have := h1 e he
   simp only at h3
   omega
def edsV (l : List Ed) : V := if l = [] then .nilsl else .sl 3 false (l.map Ed.V)
theorem edsV_S (l : List Ed) : isS 3 (edsV l) (l.map Ed.V) := by
 unfold edsV
 split
 ·rename_i h; subst h; exact .nil
 ·exact .mk
theorem sorted_eq (P : List Ek) : sortedEV ((gFrom 0 (tally P)).map edOf) = edsV (edL P) := by
 rw [g_edOf, sortedEV, edsV]
 by_cases h : (keysE (tally P)).map toEd = []
 ·have : edL P = [] := by rw [edL, h]; exact (sortL_perm []).eq_nil
  rw [if_pos h, if_pos this]
 ·have : edL P ≠ [] := by
   intro e
   apply h
   have := edL_perm P
   rw [e] at this
   exact this.symm.eq_nil
  rw [if_neg h, if_neg this]; rfl
theorem bel_eds (l : List Ed) (n : Nat) : (edsV l).bel n = true := (edsV_S l).lens (bel_edV n l)
theorem sorted27_c (hP : PE E) (W : AW) {g m lo : Nat} {h : V} {P : List Ek} {N : List Int} (hG : Gr W g m h P N lo) : ACalls E 81 [.ptr g 0] W fun Y W' => Y = edsV (edL P) ∧ W' = W := by
 refine ACalls.of hP Tryz.func81 ok_sortede (by simp) fun _ hok => ?_
 simp only [c_sorted, BX, ↓reduceIte, reduceCtorEq, BM, BD, hG.hg]
 refine (keys35_c hP _ m).mono ?_
 rintro _ W1 ⟨rfl, rfl⟩
 simp only [BS, BC, ↓reduceIte]
 have hf := g_fresh (tally P) 0
 have hlm := hG.lm
 have hE : Ex W (W.alloc (.row [.map m])) := ⟨fun x hx => by rw [alloc_nx] at hx; rw [al_gets, if_neg (by omega)]; exact ok_Cl hok x (by omega), by rw [alloc_nx]; omega, fun x hx => alloc_lt hx⟩
 refine pc (sortedE_c hP (pb := W.nx) (m := m) alloc_at (by rw [alloc_lt hlm]; exact hG.hm) ⟨hf.2, fun e he => by have := (hf.1 e he).2; omega⟩ (by rw [alloc_nx]; omega) (by rw [alloc_nx]; omega) (g_key _ 0) (by rw [g_len]; have := tally_len P; have := hG.pl; omega)) ?_
 rw [sorted_eq]
 have hs := edsV_S (edL P)
 simp only [BS, BC, ↓reduceIte, hs.frz]
 exact ⟨_, rfl, _, W, hE.back hok (bel_eds _ _), lr _, rfl, rfl⟩
theorem edges_c (hP : PE E) (W : AW) (g : Nat) : ACalls E 39 [.ptr g 0] W fun Y W' => ∃ q, Y = .fn (.func 80) [] [.ptr q 0] ∧ W'.get q = some (.row [.ptr g 0]) ∧ q < W'.nx ∧ Ex W W' := by
 refine ACalls.of hP Tryz.func39 ok_edgese (by simp) fun _ hok => ?_
 refine awp_start hok ?_
 simp only [c_edges, BZ, ↓reduceIte, nE, BM, BD]
 exact ⟨_, rfl, _, _, .weak weak_id, by simp [X], rf W.nx 0, rfl, by rw [X_get]; rfl, by simp [X, rf], .x0⟩
theorem ed_at {l : List Ed} {k : Nat} (h : k < l.length) : (l.map Ed.V)[k]? = some (l[k]).V := by simp [h]
theorem ed_cells (e : Ed) : e.V.cells = [.int .u16 e.fr, .int .u16 e.to, .int .u8 e.kd] := rfl
theorem edL_lt {W : AW} {g m lo : Nat} {h : V} {P : List Ek} {N : List Int} (hG : Gr W g m h P N lo) : (edL P).length < 2 ^ 32 := by
 have := edL_le P; have := hG.pl; omega
theorem edges_iter (hP : PE E) {W : AW} {y q g m lo : Nat} {h : V} {P : List Ek} {N : List Int} (hq : W.get q = some (.row [.ptr g 0])) (hG : Gr W g m h P N lo) (J : Nat → AW → Prop)
  (h0 : J 0 W) (hJ : ∀ i W1, J i W1 → Cl W1 ∧ W.nx ≤ W1.nx) (hmono : ∀ (vs : List V) (W1 : AW) (K K' : V → AW → Prop), (∀ v W', K v W' → K' v W') → E.yield y vs W1 K → E.yield y vs W1 K')
  (hy : ∀ i (hi : i < (edL P).length) W1 l, J i W1 → E.yield y [(edL P)[i].V] (X W1 W1.nx l) (fun Y W2 => Y = .bool true ∧ J (i + 1) W2)) :
  ACalls E 80 [.yld y, .ptr q 0] W fun Y W' => Y = .tuple [] ∧ J (edL P).length W' := by
 refine ACalls.of hP Tryz.func80 ok_edges1e (by simp) fun _ hok => ?_
 have hs := edsV_S (edL P)
 have hl := edL_lt hG
 simp (maxSteps:=9^9) (disch:=omega) only [c_edges1, BZ, ↓reduceIte, BM, hq]
 refine pc (sorted27_c hP _ hG) ?_
 simp (maxSteps:=9^9) (disch:=omega) only [BS, ↓reduceIte, hs.len, lmp]
 rw [e_loop]
 refine alp (fun (i : Nat) A1 W1 => A1 0 = some (.yld y) ∧ A1 6 = some (edsV (edL P)) ∧ A1 7 = some (.int .i64 (edL P).length) ∧ A1 8 = some (.int .i64 i) ∧ i ≤ (edL P).length ∧ J i W1) (fun i => (edL P).length - i) 0
  ⟨rfl, rfl, rfl, rfl, Nat.zero_le _, h0⟩ ?_
 rintro i A1 W1 ⟨g0, g6, g7, g8, gi, gJ⟩ hn
 by_cases hi : i < (edL P).length
 ·have hat := ed_at hi
  have hyi := fun l => hy i hi W1 l gJ
  generalize (edL P)[i] = e at hat hyi
  refine awp_startC (hJ _ _ gJ).1 ?_
  simp (maxSteps:=9^9) (disch:=omega) only [c_edges1_0, BX, ↓reduceIte, nE, reduceCtorEq, BM, BD, nA, nL, nT, g0, g6, g7, g8, clt, hi, dT, hs.idx hat, ed_cells, sem_yield]
  refine hmono _ _ _ _ ?_ (hyi _)
  rintro Y W2 ⟨rfl, g⟩
  simp (maxSteps:=9^9) (disch:=omega) only [BS, BC, cond_if, ↓reduceIte, nE, reduceCtorEq, BD, g0, g6, g7, g8, wadd1]
  exact ⟨i + 1, ⟨tt, tt, tt, tt, by omega, g⟩, by omega, (hJ _ _ g).2⟩
 ·obtain rfl : i = (edL P).length := by omega
  simp (maxSteps:=9^9) (disch:=omega) only [c_edges1_0, BX, ↓reduceIte, g7, g8, clt, hi, dF]
  exact ⟨_, rfl, _, _, .weak weak_id, (hJ _ _ gJ).2, rfl, gJ⟩
theorem Gr.ex {W W1 : AW} {g m lo : Nat} {h : V} {P : List Ek} {N : List Int} (hG : Gr W g m h P N lo) (hE : Ex W W1) : Gr W1 g m h P N lo := by
 have := hG.lg
 have := hG.lm
 have := hE.nx
 exact ⟨(hE.get _ hG.lg).trans hG.hg, (hE.get _ hG.lm).trans hG.hm, hG.now.to hE.nx fun r _ hr _ => hE.get r hr, by omega, by omega, hG.gg, hG.gm, hG.pk, hG.pl, hG.nl⟩
theorem range_edges (hP : PE E) {W0 : AW} {A : AFr} {q pv g m lo : Nat} {h : V} {P : List Ek} {N : List Int} {gx : AX} {asg body : AC} {Q : Exit → AFr → AW → Prop} (hg : gx.ev E A = some (.fn (.func 80) [] [.ptr q 0])) (hq : W0.get q = some (.row [.ptr g 0])) (hqn : q < W0.nx) (hC : Cl W0) (hG : Gr W0 g m h P N lo)
  (J : Nat → AW → Prop) (h0 : ∀ W1, Ex W0 W1 → W0.nx < W1.nx → J 0 W1) (hJ : ∀ i W1, J i W1 → Cl W1 ∧ W0.nx < W1.nx)
  (hb : ∀ i (hi : i < (edL P).length) W1 W1', J i W1 → Ex W1 W1' → W1'.get W0.nx = some (.loop .ready none) →
   awp E asg (thenQ (fun A1 W2 => W2.get W0.nx = some (.loop .ready none) ∧ awp E body (fun e _ W3 => e = .normal ∧ W3.get W0.nx = some (.loop .busy none) ∧ J (i + 1) (W3.put W0.nx (.loop .ready none))) A1 (W2.put W0.nx (.loop .busy none))) (fun _ _ _ => False)) (A.put pv (edL P)[i].V) W1')
  (hQ : ∀ W1, J (edL P).length W1 → W1.get W0.nx = some (.loop .ready none) → Q .normal A (W1.put W0.nx (.loop .exhausted none))) : awp E (.rangef gx [pv] asg body) Q A W0 := by
 rw [awp_rangef', hg]
 intro E' eP eG ey _
 have hP' : E'.P = Tryz.prog := eP.trans hP
 have hE : Ex W0 (W0.alloc (.loop .ready none)) := ⟨fun r hr => by rw [alloc_nx] at hr; rw [al_gets, if_neg (by omega)]; exact hC r (by omega), by rw [alloc_nx]; omega, fun x hx => alloc_lt hx⟩
 simp only [mcs, List.map_nil, frz_ptr]
 refine (edges_iter (E := E') hP' (y := W0.nx) (q := q) (by rw [alloc_lt hqn]; exact hq) (hG.ex hE) (fun k W1 => J k W1 ∧ W1.get W0.nx = some (.loop .ready none)) ⟨h0 _ hE (by rw [alloc_nx]; omega), alloc_at⟩ (fun i W1 g => ⟨(hJ _ _ g.1).1, by rw [alloc_nx]; exact (hJ _ _ g.1).2⟩) (fun vs W1 K K' hk hy => E'.yieldMono _ _ _ _ _ hk hy) ?_).mono ?_
 ·rintro i hi W1 l ⟨g1, g2⟩
  have hlt := (hJ _ _ g1).2
  refine ey _ _ _ ⟨by rw [X_old hlt]; exact g2, rfl, ?_⟩
  refine awp_mono _ ?_ (hb i hi W1 _ g1 ((Ex.refl (hJ _ _ g1).1).X (l := l)) (by rw [X_old hlt]; exact g2))
  intro e A1 W2 hh
  cases e with
  | normal =>
   refine ⟨hh.1, awp_mono _ ?_ hh.2⟩
   rintro e A3 W3 ⟨rfl, h2, h3⟩
   exact ⟨h2, rfl, h3, put_at⟩
  | _ => exact hh
 ·rintro Y W1 ⟨_, g1, g2⟩
  simp only [doneQ, g2]
  exact hQ _ g1 g2
end Go.AL.S
namespace Go.AL.S
open Go Go.AL Go.Proofs
def c_idx8 : AC := (.r [.v 4 (.int .i64 0)] (.seq (.r [.m 6 0,.u 7 (.len 1 0) 6,.v 8 (.int .i64 0)] (.block 0 (.loop (.r [.b 9 (.bin .lss) 8 7] (.seq (.w 9 0) (.seq (.block 1 (.r [.m 10 8,.m 5 10] (.r [.m 11 1,.m 12 0,.m 13 5,.b 14 (.idxp 1) 12 13,.u 15 (.load false 1) 14,.b 16 (.bin .eql) 11 15] (.cond (.t 16) (.r [.m 17 5,.m 4 17] .ret) .skip)))) (.reg [.a 18 (.bin .add) 8 1,.m 8 18]))))))) (.r [.v 4 (.int .i64 (-1))] .ret)))
theorem ok_idx8e : compF Tryz.prog Tryz.f84 ⟨false, false, []⟩ = some (c_idx8, [.tmp 4], 19) := by kernel_rfl
def c_has8 : AC := (.r [.v 4 (.bool false)] (.r [.m 5 0,.m 6 1,.b 7 (.call 84) 5 6,.a 8 (.bin .geq) 7 0,.m 4 8] .ret))
theorem ok_has8e : compF Tryz.prog Tryz.f48 ⟨false, false, []⟩ = some (c_has8, [.tmp 4], 9) := by kernel_rfl
variable {E : Env}
def u8s (l : List Int) : List V := l.map (V.int .u8)
theorem u8s_at {l : List Int} {k : Nat} (h : k < l.length) : (u8s l)[k]? = some (.int .u8 l[k]) := by simp [u8s, h]
theorem u8s_len (l : List Int) : (u8s l).length = l.length := by simp [u8s]
theorem idx8_c (hP : PE E) (W : AW) {v : V} {l : List Int} (h : isS 1 v (u8s l)) (hl : l.length < 2 ^ 40) (n : Int) :
  ACalls E 84 [v, .int .u8 n] W fun Y W' => Y = .int .i64 (idxV (fun x => decide (n = x)) l) ∧ W' = W := by
 refine ACalls.of hP Tryz.func84 ok_idx8e (by simp) fun _ hok => ?_
 simp only [c_idx8, BZ, ↓reduceIte, reduceCtorEq, h.len, u8s_len]
 rw [e_loop]
 refine alp (fun (k : Nat) A1 W1 => A1 0 = some v ∧ A1 1 = some (.int .u8 n) ∧ A1 7 = some (.int .i64 l.length) ∧ A1 8 = some (.int .i64 k) ∧ k ≤ l.length ∧ W1 = W ∧ ∀ i (hi : i < l.length), i < k → decide (n = l[i]) = false) (fun k => l.length - k) 0
  ⟨rfl, rfl, rfl, rfl, Nat.zero_le _, rfl, fun _ _ h => by omega⟩ ?_
 rintro k A1 W1 ⟨g0, g1, g7, g8, gk, rfl, ge⟩ _
 by_cases hk1 : k < l.length
 ·cases hb : decide (n = l[k])
  ·simp (maxSteps:=9^9) (disch:=omega) only [BX, ↓reduceIte, nE, reduceCtorEq, BM, g0, g1, g7, g8, clt, hk1, dT, h.idx (u8s_at hk1), cmpeq, hb, wadd1]
   refine ⟨k + 1, ⟨tt, tt, tt, tt, tt, tt, fun i hi hk => ?_⟩, by omega, lr _⟩
   by_cases e : i = k
   ·subst e; exact hb
   ·exact ge i hi (by omega)
  ·simp (maxSteps:=9^9) (disch:=omega) only [BX, ↓reduceIte, nE, reduceCtorEq, BM, g0, g1, g7, g8, clt, hk1, dT, h.idx (u8s_at hk1), cmpeq, hb]
   exact ⟨_, rfl, _, _, .weak weak_id, lr _, by rw [idxV_hit hk1 hb ge], rfl⟩
 ·obtain rfl : k = l.length := by omega
  simp only [BX, ↓reduceIte, g7, g8, clt, hk1, dF]
  exact ⟨_, rfl, _, _, .weak weak_id, lr _, by rw [idxV_none fun i hi => ge i hi hi], rfl⟩
theorem has8_c (hP : PE E) (W : AW) {v : V} {l : List Int} (h : isS 1 v (u8s l)) (hl : l.length < 2 ^ 40) (n : Int) :
  ACalls E 48 [v, .int .u8 n] W fun Y W' => Y = .bool (l.any fun x => decide (n = x)) ∧ W' = W := by
 refine ACalls.of hP Tryz.func48 ok_has8e (by simp) fun _ hok => ?_
 simp only [c_has8, BZ, ↓reduceIte, nE, reduceCtorEq, h.frz]
 refine pc (idx8_c hP W h hl n) ?_
 simp only [BS, BC, ↓reduceIte, idxV_ge]
 exact ⟨_, rfl, _, _, .weak weak_id, lr _, rfl, rfl⟩
open Go Go.AL Go.AL.SE Go.Proofs
theorem app_now2 {W : AW} {K : V → AW → Prop} {h x : V} {xs : List V} {s lo by' : Nat} (hn : nowG W h xs s lo) (hC : Cl W) (hlo : lo ≤ W.nx) (hs : 0 < s) (hx : x.cells.all V.one = true) (hb : (xs.length + 1) * by' ≤ 2 ^ 46)
  (hK : ∀ r W', nowG W' (.buf true r s (xs.length + 1)) (xs ++ [x]) s lo → Cl W' → W.nx ≤ W'.nx → (r = W.nx ∨ h = .buf true r s xs.length) → (∀ y, y < W.nx → y ≠ r → W'.get y = W.get y) → K (.buf true r s (xs.length + 1)) W') : sem E (.append s by') [h, .sl s true [x]] W K := by
 rcases hn with ⟨rfl, rfl⟩ | ⟨r, h1, h2, rfl, h4, h5⟩
 ·have e : sem E (.append s by') [.nilsl, .sl s true [x]] W K = K (.buf true W.nx s 1) (W.alloc (.buf true s [x])) := by
   simp [sem, elemsV, hs]
   intro; simp at hb; omega
  rw [e]
  refine hK _ _ (.inr ⟨W.nx, hlo, by rw [alloc_nx]; omega, rfl, by simp, alloc_at⟩) ?_ (by rw [alloc_nx]; omega) (.inl rfl) (fun y hy _ => alloc_lt hy)
  intro y hy
  rw [alloc_nx] at hy
  rw [al_gets, if_neg (by omega)]
  exact hC y (by omega)
 ·have e : sem E (.append s by') [.buf true r s xs.length, .sl s true [x]] W K = K (.buf true r s (xs.length + 1)) (W.put r (.buf true s (xs ++ [x]))) := by
   simp only [sem, elemsV, if_true, h5, lcs, List.length_nil, Nat.zero_add, List.all_cons, List.all_nil, Bool.and_true, hx]
   exact propext ⟨fun h => h.2.2.2.2.2.2.2, fun h => ⟨hs, tt, tt, tt, tt, hb, tt, h⟩⟩
  rw [e]
  exact hK _ _ (.inr ⟨r, h1, by rw [put_nx]; exact h2, by simp, by simp, put_at⟩) (hC.put h2) (by rw [put_nx]; omega) (.inr rfl) (fun y _ hne => put_ne hne)
theorem chunks1' : ∀ (l : List V), chunks 1 l.length l = l
 | [] => rfl
 | x :: l => by
  have := chunks1' l
  simp only [lcs, chunks, if_true, List.headD_cons, List.drop_succ_cons, List.drop_zero, this]
abbrev Sp := Int × Bool
def ownE (own : Int) (e : Ed) : Bool := e.kd == own
def outL (es : List Ed) (own x : Int) : List Ed := es.filter fun e => decide (e.kd ≤ own) && decide (e.fr = x)
def inL (es : List Ed) (own x : Int) : List Ed := es.filter fun e => decide (e.kd ≤ own) && decide (e.to = x)
def behE (own : Int) (b : Bool) (e : Ed) : List Sp := ([false, true].filter fun o => b == (o || ownE own e)).map fun o => (e.fr, o)
def behR (es : List Ed) (own : Int) (x : Sp) : List Sp := (inL es own x.1).flatMap (behE own x.2)
abbrev Fl := List (Sp × Nat)
def putF (d : Nat) (L : Fl) (y : Sp) : Fl := if y ∈ L.map (·.1) then L else L ++ [(y, d + 1)]
def stepF (es : List Ed) (own : Int) (L : Fl) (x : Sp × Nat) : Fl := (behR es own x.1).foldl (putF x.2) L
def farGo (es : List Ed) (own : Int) : Nat → Nat → Fl → Fl
 | 0, _, L => L
 | n + 1, i, L => match L[i]? with
  | none => L
  | some x => farGo es own n (i + 1) (stepF es own L x)
def farR (es : List Ed) (own : Int) (to : Sp) : Fl := farGo es own (2 * es.length + 2) 0 [(to, 0)]
def lookF (L : Fl) (x : Sp) : Option Nat := (L.find? fun y => y.1 == x).map (·.2)
def ahStep (own : Int) (far : Fl) (left : Nat) (b : Bool) (best : List Sp) (e : Ed) : List Sp :=
 match lookF far (e.to, b || ownE own e) with
 | none => best
 | some d => if d ≠ left then best else match best with
  | [] => [(e.to, b || ownE own e)]
  | h :: t => if e.to > h.1 then best else if (e.to, b || ownE own e) ∈ best then best else if e.to = h.1 then h :: t ++ [(e.to, b || ownE own e)] else [(e.to, b || ownE own e)]
def ahSpot (es : List Ed) (own : Int) (far : Fl) (left : Nat) (best : List Sp) (x : Sp) : List Sp := (outL es own x.1).foldl (ahStep own far left x.2) best
def aheadR (es : List Ed) (own : Int) (at' : List Sp) (far : Fl) (left : Nat) : List Sp := at'.foldl (ahSpot es own far left) []
def idsGo (es : List Ed) (own : Int) (far : Fl) : Nat → List Sp → List Int → List Int
 | 0, _, l => l
 | k + 1, at', l => idsGo es own far k (aheadR es own at' far (k + 1)) (l ++ [((aheadR es own at' far (k + 1)).headD (0, false)).1])
def idsR (es : List Ed) (own first : Int) (far : Fl) (n : Nat) : List Int := idsGo es own far (n - 1) [(first, false)] [first]
def kindE (own to : Int) (p : Int × Bool) (e : Ed) : Int × Bool := if e.to = to then (min p.1 e.kd, p.2 || ownE own e) else p
def kindAt (es : List Ed) (own : Int) (l : List Int) (i : Nat) : Int × Bool := (outL es own (l.getD i 0)).foldl (kindE own (l.getD ((i + 1) % l.length) 0)) (own, false)
def leastR (es : List Ed) (own : Int) (l : List Int) : List Int := (List.range l.length).map fun i => (kindAt es own l i).1
def lateR (es : List Ed) (own : Int) (l : List Int) : Option Nat := (List.range l.length).foldl (fun o i => if (kindAt es own l i).2 = true then some i else o) none
def kindsR (es : List Ed) (own : Int) (l : List Int) : List Int := if own ∈ leastR es own l then leastR es own l else match lateR es own l with
 | none => leastR es own l
 | some i => (leastR es own l).set i own
def shStep (es : List Ed) (own : Int) (best : List Int) (first : Int) : List Int :=
 match lookF (farR es own (first, true)) (first, false) with
 | none => best
 | some n => if best = [] ∨ n < best.length then idsR es own first (farR es own (first, true)) n else best
def bestR (es : List Ed) (N : List Int) (own : Int) : List Int := N.foldl (shStep es own) []
def ownR (k : Int) : Option Int := if k = 1 then some 0 else if k = 8 then some 1 else if k = 16 then some 2 else none
def shortR (es : List Ed) (N : List Int) (k : Int) : Option (List Int × List Int) := match ownR k with
 | none => none
 | some own => if bestR es N own = [] then none else some (bestR es N own, kindsR es own (bestR es N own))
def Lds (es : List Ed) (own : Int) (x y : Sp) : Prop := ∃ e ∈ es, e.kd ≤ own ∧ e.fr = x.1 ∧ e.to = y.1 ∧ y.2 = (x.2 || ownE own e)
theorem mem_beh {es : List Ed} {own : Int} {x y : Sp} : x ∈ behR es own y ↔ Lds es own x y := by
 unfold behR inL behE Lds
 simp only [List.mem_flatMap, mfl, Bool.and_eq_true, decide_eq_true_eq, mmp, List.mem_cons, List.not_mem_nil, or_false, beq_iff_eq]
 constructor
 ·rintro ⟨e, ⟨h1, h2, h3⟩, o, ⟨h4, h5⟩, rfl⟩
  exact ⟨e, h1, h2, rfl, h3, h5⟩
 ·rintro ⟨e, h1, h2, h3, h4, h5⟩
  exact ⟨e, ⟨h1, h2, h4⟩, x.2, ⟨by cases x.2 <;> simp, h5⟩, by rw [h3]⟩
theorem look_some {L : Fl} (hn : (L.map (·.1)).Nodup) {x : Sp} {d : Nat} : lookF L x = some d ↔ (x, d) ∈ L := by
 unfold lookF
 induction L with
 | nil => simp
 | cons y L ih =>
  rw [mcs, List.nodup_cons] at hn
  rw [List.find?_cons]
  by_cases h : y.1 = x
  ·subst h
   simp only [beq_self_eq_true, Option.map_some, Option.some.injEq, List.mem_cons]
   constructor
   ·rintro rfl; exact .inl rfl
   ·rintro (h | h)
    ·rw [← h]
    ·exact absurd (List.mem_map.2 ⟨_, h, rfl⟩) hn.1
  ·have : (y.1 == x) = false := beq_eq_false_iff_ne.2 h
   rw [this]
   simp only [List.mem_cons, ih hn.2]
   constructor
   ·exact .inr
   ·rintro (h' | h')
    ·rw [← h'] at h; exact absurd rfl h
    ·exact h'
theorem look_none {L : Fl} {x : Sp} : lookF L x = none ↔ x ∉ L.map (·.1) := by
 unfold lookF
 rw [Option.map_eq_none_iff, List.find?_eq_none]
 simp only [beq_iff_eq, mmp, not_exists, not_and]
theorem mset_keys_g {α : Type} {enc : α → V} {p : α → Prop} {es : List En} (hk : ∀ e ∈ es, ∃ a, e.1 = enc a ∧ p a) {a : α} (ha : p a) {v : V} {c : Nat} : ∀ e ∈ (mset (enc a) v es c).1, ∃ a, e.1 = enc a ∧ p a := by
 have hu : ∀ l : List En, (∀ e ∈ l, ∃ a, e.1 = enc a ∧ p a) → ∀ e ∈ updK (enc a) v l, ∃ a, e.1 = enc a ∧ p a := by
  intro l
  induction l with
  | nil => intro _ e he; simp [updK] at he
  | cons x l ih =>
   intro hl e he
   simp only [updK] at he
   split at he
   ·rcases List.mem_cons.1 he with rfl | he
    ·exact ⟨a, rfl, ha⟩
    ·exact hl e (by simp [he])
   ·rcases List.mem_cons.1 he with rfl | he
    ·exact hl _ (by simp)
    ·exact ih (fun e he => hl e (by simp [he])) e he
 unfold mset
 split
 ·exact hu es hk
 ·intro e he
  rcases List.mem_append.1 he with he | he
  ·exact hk e he
  ·rw [List.mem_singleton.1 he]; exact ⟨a, rfl, ha⟩
theorem mset_val_g {α : Type} [DecidableEq α] {enc : α → V} (he : ∀ a b, (enc a).keq (enc b) = decide (a = b)) {es : List En} (hk : ∀ e ∈ es, ∃ a, e.1 = enc a) (a b : α) {v : V} {c : Nat} : (findK (enc b) (mset (enc a) v es c).1).map (·.2.1) = if b = a then some v else (findK (enc b) es).map (·.2.1) := by
 have hu : ∀ l : List En, (∀ e ∈ l, ∃ a, e.1 = enc a) → (findK (enc a) l).isSome → (findK (enc b) (updK (enc a) v l)).map (·.2.1) = if b = a then some v else (findK (enc b) l).map (·.2.1) := by
  intro l
  induction l with
  | nil => intro _ h; cases h
  | cons y l ih =>
   intro hl hs
   obtain ⟨k, e1⟩ := hl y (by simp)
   simp only [updK, findK, e1, he] at hs ⊢
   by_cases hy : a = k
   ·subst hy
    simp only [dT, if_true, findK, he]
    by_cases hb : b = a
    ·simp [hb]
    ·simp [hb]
   ·simp only [decide_eq_false hy, Bool.false_eq_true, if_false, findK, e1, he] at hs ⊢
    by_cases hb : b = k
    ·subst hb
     have : ¬ b = a := fun h => hy h.symm
     simp [this]
    ·simp only [decide_eq_false hb, Bool.false_eq_true, if_false]
     exact ih (fun e he => hl e (by simp [he])) hs
 unfold mset
 cases hf : findK (enc a) es with
 | some e => exact hu es hk (by rw [hf]; rfl)
 | none =>
  simp only
  rw [findK_app]
  by_cases hb : b = a
  ·subst hb
   simp [hf, findK, he]
  ·rw [if_neg hb]
   cases findK (enc b) es with
   | some e => rfl
   | none => simp [findK, he, hb]
def k16 (x : Int) : V := .int .u16 x
theorem k16_eq (a b : Int) : (k16 a).keq (k16 b) = decide (a = b) := keq_int
def spV (x : Sp) : V := .agg [.int .u16 x.1, .bool x.2]
theorem spV_eq (a b : Sp) : (spV a).keq (spV b) = decide (a = b) := by
 obtain ⟨a1, a2⟩ := a
 obtain ⟨b1, b2⟩ := b
 have : (spV (a1, a2)).keq (spV (b1, b2)) = (decide (a1 = b1) && (decide (a2 = b2) && true)) := by
  simp [spV, V.keq, V.cells, V.eqs, V.eq1]
  rfl
 rw [this, Bool.and_true]
 by_cases h1 : a1 = b1 <;> by_cases h2 : a2 = b2 <;> simp [h1, h2]
theorem spV_has {x : Sp} (h : 0 ≤ x.1 ∧ x.1 < 65536) : (spV x).has (true, [.i .u16, .b]) = true := by
 have := u16_has h.1 h.2
 simp only [V.has, V.isAgg, V.cells, V.hasKs, Bool.and_true] at this
 simp only [spV, V.has, V.isAgg, V.cells, V.hasKs, V.hasK, Bool.and_true]
 simp only [V.hasK] at this
 simpa using this
def hdM (es : List En) (x : Int) : V := ((findK (k16 x) es).map (·.2.1)).getD .nilsl
structure Mg (W : AW) (m : Nat) (f : Int → List Ed) (lo : Nat) (es : List En) (c : Nat) : Prop where
 hm : W.get m = some (.map es c)
 lm : m < W.nx
 ky : ∀ e ∈ es, ∃ x, e.1 = k16 x ∧ 0 ≤ x ∧ x < 65536
 vl : ∀ x, nowG W (hdM es x) ((f x).map Ed.V) 3 lo
 ne : ∀ x y, x ≠ y → ∀ r n n', hdM es x = .buf true r 3 n → hdM es y ≠ .buf true r 3 n'
theorem Mg.ok {W : AW} {m lo c : Nat} {f : Int → List Ed} {es : List En} (h : Mg W m f lo es c) {x : Int} (h0 : 0 ≤ x) (h1 : x < 65536) : keysOk (false, [.i .u16]) (.int .u16 x) es := by
 refine ⟨u16_has h0 h1, fun e he => ?_⟩
 obtain ⟨n, e1, a, b⟩ := h.ky e he
 rw [e1]; exact u16_has a b
theorem Mg.look {W : AW} {m lo c : Nat} {f : Int → List Ed} {es : List En} (h : Mg W m f lo es c) {x : Int} (h0 : 0 ≤ x) (h1 : x < 65536) {K : V → AW → Prop} : sem E (.lookup (false, [.i .u16]) .nilsl false) [.map m, .int .u16 x] W K = K (hdM es x) W := by
 rw [m_lookup h.hm (h.ok h0 h1)]
 show lookK _ _ _ (k16 x) _ _ = _
 unfold lookK hdM
 cases (findK (k16 x) es).map (·.2.1) <;> rfl
theorem Mg.to {W W' : AW} {m lo c : Nat} {f : Int → List Ed} {es : List En} (h : Mg W m f lo es c) (hx : W.nx ≤ W'.nx) (hm : W'.get m = W.get m) (hg : ∀ r, lo ≤ r → r < W.nx → (∃ ys, W.get r = some (.buf true 3 ys)) → W'.get r = W.get r) : Mg W' m f lo es c :=
 ⟨hm.trans h.hm, by have := h.lm; omega, h.ky, fun x => (h.vl x).to hx hg, h.ne⟩
theorem Mg.ex {W W' : AW} {m lo c : Nat} {f : Int → List Ed} {es : List En} (h : Mg W m f lo es c) (hE : Ex W W') : Mg W' m f lo es c := h.to hE.nx (hE.get _ h.lm) fun r _ hr _ => hE.get r hr
theorem nowG.idx' {W : AW} {K : V → AW → Prop} {h : V} {xs : List V} {s lo k : Nat} {kk : IntKind} {x : V} (hn : nowG W h xs s lo) (hx : xs[k]? = some x) : sem E (.idxp s) [h, .int kk (k : Int)] W K = K (.cptr x.cells) W := by
 have hk : k < xs.length := by
  by_cases h : k < xs.length
  ·exact h
  ·rw [List.getElem?_eq_none (by omega)] at hx; cases hx
 rw [gEg hk] at hx
 cases hx
 rcases hn with ⟨_, rfl⟩ | ⟨r, _, _, rfl, _, hg⟩
 ·simp at hk
 ·simp [sem, rsem, hg, hk]
theorem nowG.keep {W W' : AW} {h : V} {xs : List V} {s lo : Nat} (hn : nowG W h xs s lo) (hx : W.nx ≤ W'.nx) (hg : ∀ r, h = .buf true r s xs.length → r < W.nx → W'.get r = W.get r) : nowG W' h xs s lo := by
 rcases hn with ⟨rfl, rfl⟩ | ⟨r, h1, h2, h3, h4, h5⟩
 ·exact .inl ⟨rfl, rfl⟩
 ·exact .inr ⟨r, h1, by omega, h3, h4, by rw [hg r h3 h2]; exact h5⟩
theorem nowG.low {W : AW} {h : V} {xs : List V} {s lo lo' : Nat} (hn : nowG W h xs s lo) (hl : lo' ≤ lo) : nowG W h xs s lo' := by
 rcases hn with h | ⟨r, h1, h2⟩
 ·exact .inl h
 ·exact .inr ⟨r, by omega, h2⟩
theorem nowG.ref {W : AW} {h : V} {xs : List V} {s lo r n : Nat} (hn : nowG W h xs s lo) (e : h = .buf true r s n) : r < W.nx ∧ lo ≤ r ∧ n = xs.length := by
 rcases hn with ⟨rfl, _⟩ | ⟨r', h1, h2, h3, _⟩
 ·cases e
 ·rw [e] at h3; cases h3; exact ⟨h2, h1, rfl⟩
theorem nowG.at {W : AW} {h : V} {xs : List V} {s lo r n : Nat} (hn : nowG W h xs s lo) (e : h = .buf true r s n) : W.get r = some (.buf true s xs) := by
 rcases hn with ⟨rfl, _⟩ | ⟨r', _, _, h3, _, h5⟩
 ·cases e
 ·rw [e] at h3; cases h3; exact h5
def addE (f : Int → List Ed) (x : Int) (e : Ed) : Int → List Ed := fun y => if y = x then f y ++ [e] else f y
theorem Mg.app {W W2 : AW} {m lo c r : Nat} {f : Int → List Ed} {es : List En} {x : Int} {e : Ed} (h : Mg W m f lo es c) (h0 : 0 ≤ x) (h1 : x < 65536)
  (hn : nowG W2 (.buf true r 3 (((f x).map Ed.V).length + 1)) ((f x).map Ed.V ++ [e.V]) 3 lo) (hx : W.nx ≤ W2.nx) (hr : r = W.nx ∨ hdM es x = .buf true r 3 ((f x).map Ed.V).length) (hg : ∀ y, y < W.nx → y ≠ r → W2.get y = W.get y) :
  W2.get m = some (.map es c) ∧ Mg (W2.put m (.map (mset (.int .u16 x) (.buf true r 3 (((f x).map Ed.V).length + 1)) es c).1 (mset (.int .u16 x) (.buf true r 3 (((f x).map Ed.V).length + 1)) es c).2)) m (addE f x e) lo (mset (.int .u16 x) (.buf true r 3 (((f x).map Ed.V).length + 1)) es c).1 (mset (.int .u16 x) (.buf true r 3 (((f x).map Ed.V).length + 1)) es c).2 := by
 have rm : m ≠ r := fun e => by
  rcases hr with e2 | hr
  ·have := h.lm; omega
  ·have := (h.vl x).at hr
   rw [← e, h.hm] at this; cases this
 have gm := (hg m h.lm rm).trans h.hm
 have rc : ∀ y, y ≠ x → ∀ n, hdM es y ≠ .buf true r 3 n := fun y hy n e2 => by
  rcases hr with rfl | hr
  ·have := ((h.vl y).ref e2).1; omega
  ·exact h.ne x y (fun e => hy e.symm) r _ n hr e2
 have nb : ∀ {h' : V} {xs : List V} {n : Nat}, nowG W h' xs 3 lo → h' = .buf true m 3 n → False := fun {h' xs n} hN e => by
  have := hN.at e
  rw [h.hm] at this; cases this
 have hv : ∀ y, hdM (mset (.int .u16 x) (.buf true r 3 (((f x).map Ed.V).length + 1)) es c).1 y = if y = x then .buf true r 3 (((f x).map Ed.V).length + 1) else hdM es y := fun y => by
  unfold hdM
  rw [show V.int .u16 x = k16 x from rfl, mset_val_g k16_eq (fun e he => by obtain ⟨a, h1, _⟩ := h.ky e he; exact ⟨a, h1⟩)]
  split <;> rfl
 refine ⟨gm, put_at, by rw [put_nx]; have := h.lm; omega, mset_keys_g (enc := k16) (p := fun x => 0 ≤ x ∧ x < 65536) h.ky ⟨h0, h1⟩, fun y => ?_, fun y z hyz r' n n' e1 e2 => ?_⟩
 ·rw [hv]
  by_cases hy : y = x
  ·subst hy
   rw [if_pos rfl, addE, if_pos rfl, mpp]
   exact hn.keep (by rw [put_nx]; exact lr _) fun r' e' _ => put_ne (by
    simp only [V.buf.injEq, true_and] at e'
    have : r = r' := e'.1
    rw [← this]; exact fun e => rm e.symm)
  ·rw [if_neg hy, addE, if_neg hy]
   exact (h.vl y).keep (by rw [put_nx]; exact hx) fun r' e' hr' => by
    rw [put_ne (fun e => nb (h.vl y) (e ▸ e')), hg r' hr' (fun e => rc y hy _ (e ▸ e'))]
 ·rw [hv] at e1 e2
  by_cases hy : y = x
  ·rw [if_pos hy] at e1
   rw [if_neg (fun e => hyz (hy.trans e.symm))] at e2
   cases e1
   exact rc z (fun e => hyz (hy.trans e.symm)) _ e2
  ·rw [if_neg hy] at e1
   by_cases hz : z = x
   ·rw [if_pos hz] at e2
    cases e2
    exact rc y hy _ e1
   ·rw [if_neg hz] at e2
    exact h.ne y z hyz r' n n' e1 e2
end Go.AL.S
