/- What comes in is read as values. Conditions: none. -/
import Derived.Test.YtchoohbdpkolgaaGreatDoorCc
import Derived.OpenShut
import Derived.ChangeArms
import Derived.ReadAgain
set_option maxRecDepth 100000
namespace Go.AL.S
open Go Go.AL Go.RowKit
/-! what comes in, read as values -/
inductive Sh where
  | bool
  | int (k : IntKind)
  | sl (e : Sh)
  | st (l : List Sh)
mutual
def Sh.n : Sh → Nat
  | .st l => Sh.nL l
  | _ => 1
def Sh.nL : List Sh → Nat
  | [] => 0
  | s :: l => s.n + Sh.nL l
end
def Sh.agg : Sh → Bool
  | .st _ => true
  | _ => false
def Sh.val (s : Sh) (ws : List V) : V := if s.agg = true then .agg ws else ws.headD default
mutual
def Sh.Is : Sh → List V → Prop
  | .bool, vs => ∃ b, vs = [.bool b]
  | .int k, vs => ∃ n, vs = [.int k n] ∧ (Lit.int k n).wf = true
  | .sl e, vs => ∃ v xs, vs = [v] ∧ isS e.n v xs ∧ xs.length < 2 ^ 48 ∧ ∀ x ∈ xs, ∃ ws, e.Is ws ∧ x = e.val ws
  | .st l, vs => Sh.IsL l vs
def Sh.IsL : List Sh → List V → Prop
  | [], vs => vs = []
  | s :: l, vs => ∃ a b, vs = a ++ b ∧ s.Is a ∧ Sh.IsL l b
end
mutual
def Sh.Ty (P : Program) : Sh → TypeId → Prop
  | .bool, t => P.underlying t = some .bool ∧ P.cellsOf t = 1
  | .int k, t => P.underlying t = some (.int k) ∧ P.cellsOf t = 1
  | .sl e, t => ∃ te, P.underlying t = some (.slice te) ∧ e.Ty P te ∧ 0 < e.n ∧ P.cellsOf t = 1 ∧ 0 < P.bytesOf te
  | .st l, t => (∃ fs, P.underlying t = some (.struct fs) ∧ P.cellsOf t = Sh.nL l ∧ Sh.TyL P l 0 fs.toList) ∨
      (∃ n e te, l = List.replicate n e ∧ P.underlying t = some (.array n te) ∧ P.cellsOf t = Sh.nL l ∧ Sh.TyR P l te)
def Sh.TyL (P : Program) : List Sh → Nat → List Field → Prop
  | [], _, fs => fs = []
  | s :: l, off, fs => ∃ f r, fs = f :: r ∧ f.offset = off ∧ s.Ty P f.type ∧ Sh.TyL P l (off + s.n) r
def Sh.TyR (P : Program) : List Sh → TypeId → Prop
  | [], _ => True
  | s :: l, t => s.Ty P t ∧ Sh.TyR P l t
end
theorem Sh.Ty.cells {P : Program} : ∀ {s : Sh} {t : TypeId}, s.Ty P t → P.cellsOf t = s.n
  | .bool, _, h => h.2
  | .int _, _, h => h.2
  | .sl _, _, ⟨_, _, _, _, h, _⟩ => h
  | .st _, _, .inl ⟨_, _, h, _⟩ => h
  | .st _, _, .inr ⟨_, _, _, _, _, h, _⟩ => h
mutual
theorem Sh.Is.len : ∀ {s : Sh} {vs : List V}, s.Is vs → vs.length = s.n
  | .bool, _, ⟨_, h⟩ => by rw [h]; rfl
  | .int _, _, ⟨_, h, _⟩ => by rw [h]; rfl
  | .sl _, _, ⟨_, _, h, _⟩ => by rw [h]; rfl
  | .st l, _, h => Sh.IsL.len (l := l) h
theorem Sh.IsL.len : ∀ {l : List Sh} {vs : List V}, Sh.IsL l vs → vs.length = Sh.nL l
  | [], _, h => by rw [show _ = ([] : List V) from h]; rfl
  | s :: l, _, ⟨a, b, h, h1, h2⟩ => by rw [h, List.length_append, Sh.Is.len h1, Sh.IsL.len h2]; rfl
end
theorem belL_app {n : Nat} : ∀ {a b : List V}, V.belL n a = true → V.belL n b = true → V.belL n (a ++ b) = true
  | [], _, _, h => h
  | x :: a, b, h, h' => by
    simp only [V.belL, List.cons_append, Bool.and_eq_true] at h ⊢
    exact ⟨h.1, belL_app h.2 h'⟩
theorem belL_all {n : Nat} : ∀ {a : List V}, (∀ x ∈ a, x.bel n = true) → V.belL n a = true
  | [], _ => rfl
  | x :: a, h => by
    simp only [V.belL, Bool.and_eq_true]
    exact ⟨h x (by simp), belL_all fun y hy => h y (by simp [hy])⟩
theorem Sh.val_bel {s : Sh} {ws : List V} {n : Nat} (h : V.belL n ws = true) (hl : s.agg = false → ws ≠ []) : (s.val ws).bel n = true := by
  unfold Sh.val
  split
  · exact h
  · rename_i hs
    cases ws with
    | nil => exact absurd rfl (hl (by simpa using hs))
    | cons w ws =>
      simp only [V.belL, Bool.and_eq_true] at h
      exact h.1
mutual
theorem Sh.Is.bel {n : Nat} : ∀ {s : Sh} {vs : List V}, s.Is vs → V.belL n vs = true
  | .bool, _, ⟨_, h⟩ => by rw [h]; rfl
  | .int _, _, ⟨_, h, _⟩ => by rw [h]; rfl
  | .sl e, _, ⟨v, xs, h, hs, _, hx⟩ => by
    rw [h]
    simp only [V.belL, Bool.and_true]
    refine hs.lens (belL_all fun x hxm => ?_)
    obtain ⟨ws, h1, rfl⟩ := hx x hxm
    refine Sh.val_bel (Sh.Is.bel h1) fun he hw => ?_
    have := Sh.Is.len h1
    rw [hw] at this
    cases e <;> simp [Sh.agg, Sh.n] at he this
  | .st l, _, h => Sh.IsL.bel (l := l) h
theorem Sh.IsL.bel {n : Nat} : ∀ {l : List Sh} {vs : List V}, Sh.IsL l vs → V.belL n vs = true
  | [], _, h => by rw [show _ = ([] : List V) from h]; rfl
  | s :: l, _, ⟨a, b, h, h1, h2⟩ => by rw [h]; exact belL_app (Sh.Is.bel h1) (Sh.IsL.bel h2)
end
/-- The old memory as it stands. -/
def gIn (W : World) : G := ⟨fun _ => none, fun _ => none, fun b => match W.heap[b]? with
  | some (.cells a _ _) => some (a.toList, a.size)
  | _ => none, fun _ => false, fun _ => false, fun _ => (0, 0), fun _ => default⟩
def Env.inp (P : Program) (W : World) : Env where
  P := P
  B := W.heap.size
  w0 := W
  glob := fun _ => none
  globOk := fun _ _ _ h => by cases h
  γ0 := gIn W
  n0 := 0
  yield := fun _ _ _ _ => False
  yieldMono := fun _ _ _ _ _ _ h => h
theorem Env.inp_sound (P : Program) (W : World) : (Env.inp P W).Sound := fun _ _ _ _ _ _ _ _ _ h => h.elim
theorem Env.inp_rel (P : Program) (W : World) : RelW (Env.inp P W) (gIn W) W AW.empty where
  below := Below.refl _ _
  base := Nat.le_refl _
  con b c sz h := by
    simp only [gIn] at h
    cases hb : W.heap[b]? with
    | none => rw [hb] at h; cases h
    | some o =>
      rw [hb] at h
      cases o <;> try (cases h; done)
      case cells a t fz =>
        cases h
        exact ⟨[], t, fz, by simp, by simp⟩
  own _ _ h := by cases h
  obj _ _ h := by cases h
  bd := ⟨fun _ _ h => (by cases h), fun _ _ h => (by cases h), fun _ h => (by cases h)⟩
  lt _ _ h := by cases h
  inj _ _ _ _ _ h := by cases h
  apart _ _ _ h := by cases h
  glob _ _ h := by cases h
  dfr _ h := by cases h
  dfrB _ h := by cases h
  ext := G.le.refl _ _
  n0 := Nat.le_refl _
theorem calls_inp {P : Program} {f : FuncId} {W : World} {vs : List V} {ws : List Value} (hr : RelL (gIn W) vs ws) (h : ACalls (Env.inp P W) f vs AW.empty fun Y _ => Y = .bool true) :
    Calls P f ws.toArray W fun e w' => e = .returned (.bool true) ∧ Below W.heap.size W w' := by
  refine (h.2 (Env.inp_sound P W) _ _ ws (Env.inp_rel P W) hr).mono ?_
  rintro e w' ⟨v, γ', Y, W', rfl, _, _, h4, h5, rfl⟩
  cases h5
  exact ⟨rfl, h4.below⟩
theorem gIn_con {W : World} {a : Addr} {v : Value} (h : W.cell? a = some v) : ∃ c : List Value, (gIn W).con a.block = some (c, c.length) ∧ a.spot = none ∧ a.off < c.length ∧ (∀ i, W.cell? ⟨a.block, i, none⟩ = c[i]?) := by
  unfold World.cell? at h
  cases hb : W.heap[a.block]? with
  | none => rw [hb] at h; cases h
  | some o =>
    rw [hb] at h
    cases o <;> try (cases h; done)
    case cells c t fz =>
      simp only at h
      split at h
      · cases h
      · rename_i hs
        refine ⟨c.toList, by simp only [gIn, hb]; rfl, by simpa using hs, ?_, fun i => ?_⟩
        · have := Array.getElem?_eq_some_iff.1 h
          simpa using this.1
        · simp [World.cell?, hb]
end Go.AL.S
set_option maxRecDepth 100000
namespace Go.AL.S
open Go Go.AL Go.RowKit
mutual
def Sh.tyB (P : Program) : Sh → TypeId → Bool
  | .bool, t => (match P.underlying t with | some .bool => true | _ => false) && decide (P.cellsOf t = 1)
  | .int k, t => (match P.underlying t with | some (.int k') => decide (k' = k) | _ => false) && decide (P.cellsOf t = 1)
  | .sl e, t => (match P.underlying t with | some (.slice te) => e.tyB P te && decide (0 < e.n) && decide (0 < P.bytesOf te) | _ => false) && decide (P.cellsOf t = 1)
  | .st l, t => (match P.underlying t with | some (.struct fs) => decide (P.cellsOf t = Sh.nL l) && Sh.tyLB P l 0 fs.toList | _ => false)
def Sh.tyLB (P : Program) : List Sh → Nat → List Field → Bool
  | [], _, [] => true
  | s :: l, off, f :: r => decide (f.offset = off) && s.tyB P f.type && Sh.tyLB P l (off + s.n) r
  | _, _, _ => false
end
mutual
theorem Sh.ty_of {P : Program} : ∀ {s : Sh} {t : TypeId}, s.tyB P t = true → s.Ty P t
  | .bool, t, h => by
    simp only [Sh.tyB, Bool.and_eq_true, decide_eq_true_eq] at h
    refine ⟨?_, h.2⟩
    have h1 := h.1
    split at h1
    · assumption
    · cases h1
  | .int k, t, h => by
    simp only [Sh.tyB, Bool.and_eq_true, decide_eq_true_eq] at h
    refine ⟨?_, h.2⟩
    have h1 := h.1
    split at h1
    · rename_i k' hk; rw [decide_eq_true_eq] at h1; rw [hk, h1]
    · cases h1
  | .sl e, t, h => by
    simp only [Sh.tyB, Bool.and_eq_true, decide_eq_true_eq] at h
    have h1 := h.1
    split at h1
    · rename_i te hk
      simp only [Bool.and_eq_true, decide_eq_true_eq] at h1
      exact ⟨te, hk, Sh.ty_of h1.1.1, h1.1.2, h.2, h1.2⟩
    · cases h1
  | .st l, t, h => by
    simp only [Sh.tyB] at h
    split at h
    · rename_i fs hk
      simp only [Bool.and_eq_true, decide_eq_true_eq] at h
      exact .inl ⟨fs, hk, h.1, Sh.tyL_of h.2⟩
    · cases h
theorem Sh.tyL_of {P : Program} : ∀ {l : List Sh} {off : Nat} {fs : List Field}, Sh.tyLB P l off fs = true → Sh.TyL P l off fs
  | [], _, [], _ => rfl
  | s :: l, off, f :: r, h => by
    simp only [Sh.tyLB, Bool.and_eq_true, decide_eq_true_eq] at h
    exact ⟨f, r, rfl, h.1.1, Sh.ty_of h.1.2, Sh.tyL_of h.2⟩
  | [], _, _ :: _, h => by simp [Sh.tyLB] at h
  | _ :: _, _, [], h => by simp [Sh.tyLB] at h
end
theorem relL_app {γ : G} : ∀ {a b : List V} {l m : List Value}, RelL γ a l → RelL γ b m → RelL γ (a ++ b) (l ++ m)
  | [], _, _, _, h, h' => by rw [show _ = ([] : List Value) from h]; exact h'
  | x :: a, b, _, m, ⟨v, l', e, h1, h2⟩, h' => ⟨v, l' ++ m, by rw [e]; rfl, h1, relL_app h2 h'⟩
theorem relL_len {γ : G} : ∀ {a : List V} {l : List Value}, RelL γ a l → l.length = a.length
  | [], l, h => by obtain rfl : l = [] := h; rfl
  | x :: a, _, ⟨v, l', e, _, h2⟩ => by rw [e, List.length_cons, List.length_cons, relL_len h2]
/-- One element. -/
theorem el_of {γ : G} {e : Sh} {ws : List V} {l : List Value} (h : e.Is ws) (hr : RelL γ ws l) : ∃ v : Value, v.cells.toList = l ∧ v.cells.size = e.n ∧ RelV γ (e.val ws) v := by
  have hl := (relL_len hr).trans h.len
  cases e with
  | st sh => exact ⟨.agg l.toArray, by simp [Value.cells], by simpa [Value.cells] using hl, l, rfl, hr⟩
  | bool =>
    obtain ⟨b, rfl⟩ := h
    obtain ⟨v, l', e, h1, h2⟩ := hr
    obtain rfl : l' = [] := h2
    have h1' : v = .bool b := h1
    subst h1' e
    exact ⟨_, rfl, rfl, rfl⟩
  | int k =>
    obtain ⟨n, rfl, hw⟩ := h
    obtain ⟨v, l', e, h1, h2⟩ := hr
    obtain rfl : l' = [] := h2
    have h1' : v = .int k n := h1
    subst h1' e
    exact ⟨_, rfl, rfl, rfl⟩
  | sl e' =>
    obtain ⟨x, xs, rfl, hs, _⟩ := h
    obtain ⟨v, l', e, h1, h2⟩ := hr
    obtain rfl : l' = [] := h2
    subst e
    have hc : v.cells = #[v] := by
      rcases hs with ⟨rfl, _⟩ | ⟨rfl, _⟩ | ⟨f, rfl⟩
      · have h1' : v = .slice none 0 0 := h1
        subst h1'; rfl
      · obtain ⟨a, rfl⟩ := h1; rfl
      · obtain ⟨b, pre, l, post, sz, cap, _, _, rfl, _⟩ := h1; rfl
    exact ⟨v, by rw [hc], by rw [hc]; rfl, h1⟩
theorem relE_of {γ : G} {e : Sh} : ∀ (m : Nat) (l : List Value), l.length = m * e.n → (∀ i, i < m → ∃ ws, e.Is ws ∧ RelL γ ws ((l.drop (i * e.n)).take e.n)) →
    ∃ xs, xs.length = m ∧ RelE γ e.n xs l ∧ ∀ x ∈ xs, ∃ ws, e.Is ws ∧ x = e.val ws
  | 0, l, hl, _ => by
    have : l = [] := List.length_eq_zero_iff.1 (by omega)
    subst this
    exact ⟨[], rfl, rfl, by simp⟩
  | m + 1, l, hl, h => by
    obtain ⟨ws, h1, h2⟩ := h 0 (by omega)
    rw [Nat.zero_mul, List.drop_zero] at h2
    obtain ⟨v, hv1, hv2, hv3⟩ := el_of h1 h2
    have hl' : (l.drop e.n).length = m * e.n := by
      rw [List.length_drop, hl, Nat.add_mul]; omega
    obtain ⟨xs, x1, x2, x3⟩ := relE_of m (l.drop e.n) hl' fun i hi => by
      obtain ⟨ws, a, b⟩ := h (i + 1) (by omega)
      refine ⟨ws, a, ?_⟩
      rw [List.drop_drop]
      rwa [Nat.add_mul, Nat.one_mul, Nat.add_comm] at b
    refine ⟨e.val ws :: xs, by simp [x1], ⟨v, l.drop e.n, by rw [hv1, List.take_append_drop], hv2, hv3, x2⟩, ?_⟩
    intro x hx
    rcases List.mem_cons.1 hx with rfl | hx
    · exact ⟨ws, h1, rfl⟩
    · exact x3 x hx
section
variable {H : Type} {enc : TypeId × Value → H} {P : Program} {W : World}
theorem chunk_of {c : List Value} {a : Addr} {n : Nat} {cs : List Value} {o : Nat} (hc : ∀ i, W.cell? ⟨a.block, i, none⟩ = c[i]?) (hs : a.spot = none) (h : W.cells? 0 (a.add o) n = some cs) : (c.drop (a.off + o)).take n = cs := by
  obtain ⟨_, h2, h3⟩ := World.cells?_some h
  refine List.ext_getElem? fun i => ?_
  by_cases hi : i < n
  · rw [List.getElem?_take_of_lt hi, List.getElem?_drop, ← h3 i hi, ← hc]
    congr 1
    have hb : ∀ (a : Addr) (m : Nat), a.spot = none → a.add m = ⟨a.block, a.off + m, none⟩ := by
      intro a m h
      unfold Addr.add
      split
      · rename_i h0; subst h0; cases a; simp at h ⊢; exact h
      · rfl
    rw [hb a o hs, hb _ i rfl, Nat.add_assoc]
  · rw [List.getElem?_eq_none (by simp; omega), List.getElem?_eq_none (by omega)]
theorem wAll {e : TypeId} {p : Nat → Bool} : ∀ {l : List (DataW H)}, (DataW.weightsAll P e l).all p = true → ∀ d ∈ l, (d.weights P e).all p = true
  | [], _, _, h => by simp at h
  | x :: l, h, d, hd => by
    simp only [DataW.weightsAll, List.all_append, Bool.and_eq_true] at h
    rcases List.mem_cons.1 hd with rfl | hd
    · exact h.1
    · exact wAll h.2 d hd
theorem wEach {p : Nat → Bool} : ∀ {ts : List TypeId} {l : List (DataW H)}, (DataW.weightsEach P ts l).all p = true → ∀ (i : Nat) (t : TypeId) (d : DataW H), ts[i]? = some t → l[i]? = some d → (d.weights P t).all p = true
  | [], _, _, _, _, _, h, _ => by simp at h
  | _ :: _, [], _, _, _, _, _, h => by simp at h
  | t :: ts, x :: l, h, i, t', d, h1, h2 => by
    simp only [DataW.weightsEach, List.all_append, Bool.and_eq_true] at h
    cases i with
    | zero => simp at h1 h2; subst h1 h2; exact h.1
    | succ i => simp at h1 h2; exact wEach h.2 i t' d h1 h2
/-- What is read as data of a shape is a value of it. -/
theorem decode : ∀ (fuel : Nat) (s : Sh) (t : TypeId) (cs : List Value) (x : DataW H × List MemPlace), s.Ty P t → (x.1.weights P t).all (· ≤ reachBytes) = true → DataW.trod enc P W 0 (fun _ => true) true fuel t cs = some x → ∃ vs, s.Is vs ∧ RelL (gIn W) vs cs := by
  intro fuel
  induction fuel with
  | zero => intro s t cs x _ _ h; simp [DataW.trod] at h
  | succ fuel ih =>
    intro s t cs x ht hwt h
    cases s with
    | bool =>
      obtain ⟨b, rfl, _⟩ := DataW.trod_bool ht.1 h
      exact ⟨[.bool b], ⟨b, rfl⟩, _, _, rfl, rfl, rfl⟩
    | int k =>
      obtain ⟨n, rfl, _, hw⟩ := DataW.trod_int ht.1 h
      exact ⟨[.int k n], ⟨n, rfl, hw⟩, _, _, rfl, rfl, rfl⟩
    | sl e =>
      obtain ⟨te, hu, hte, hn, hc, hby⟩ := ht
      have hce := hte.cells
      rcases DataW.trod_slice hu h with ⟨rfl, _⟩ | ⟨a, len, cap, elems, rest, n', hf, rfl, rfl, _, hlc, hcap, hel, he, hr, _⟩
      · exact ⟨[.nilsl], ⟨.nilsl, [], rfl, .nil, by simp, by simp⟩, _, _, rfl, rfl, rfl⟩
      · obtain rfl : fuel = n' := by omega
        rw [hce] at he hr
        simp only [DataW.weights, hu, List.all_cons, List.all_append, Bool.and_eq_true, decide_eq_true_eq, List.length_map] at hwt
        obtain ⟨hw1, hw2, _⟩ := hwt
        by_cases h0 : cap = 0
        · obtain rfl : len = 0 := by omega
          subst h0
          exact ⟨[.slz], ⟨.slz, [], rfl, .inr (.inl ⟨rfl, rfl⟩), by simp, by simp⟩, _, _, rfl, ⟨a, rfl⟩, rfl⟩
        · have h1 : ∃ cs0, W.cells? 0 (a.add 0) e.n = some cs0 := by
            by_cases hl0 : 0 < len
            · have := he 0 hl0
              rw [Nat.zero_mul, List.getElem?_eq_getElem (by omega)] at this
              obtain ⟨cs0, q, _⟩ := Option.bind_eq_some_iff.1 this
              exact ⟨cs0, q⟩
            · obtain rfl : len = 0 := by omega
              obtain ⟨r1, r2⟩ := hr rfl
              have := r2 0 (by omega)
              rw [Nat.zero_add, Nat.zero_mul, List.getElem?_eq_getElem (by omega)] at this
              obtain ⟨cs0, q, _⟩ := Option.bind_eq_some_iff.1 this
              exact ⟨cs0, q⟩
          obtain ⟨cs0, hcs0⟩ := h1
          obtain ⟨_, q2, q3⟩ := World.cells?_some hcs0
          have q4 := q3 0 hn
          rw [List.getElem?_eq_getElem (by omega)] at q4
          have q5 : W.cell? a = some (cs0[0]'(by omega)) := by simpa [Addr.add] using q4
          obtain ⟨c, c1, c2, c3, c4⟩ := gIn_con q5
          have hch : ∀ i, i < len → ∃ ws, e.Is ws ∧ RelL (gIn W) ws ((c.drop (a.off + i * e.n)).take e.n) := by
            intro i hi
            have := he i hi
            rw [List.getElem?_eq_getElem (by omega)] at this
            obtain ⟨csi, p1, p2⟩ := Option.bind_eq_some_iff.1 this
            rw [chunk_of c4 c2 p1]
            exact ih e te csi _ hte (wAll hw2 _ (List.mem_map.2 ⟨_, List.getElem_mem _, rfl⟩)) p2
          have hlen : ((c.drop a.off).take (len * e.n)).length = len * e.n := by
            by_cases hl0 : 0 < len
            · have := he (len - 1) (by omega)
              rw [List.getElem?_eq_getElem (by omega)] at this
              obtain ⟨csi, p1, p2⟩ := Option.bind_eq_some_iff.1 this
              have p3 := chunk_of c4 c2 p1
              have p4 := congrArg List.length p3
              rw [List.length_take, List.length_drop, (World.cells?_some p1).2.1] at p4
              have : (len - 1) * e.n + e.n = len * e.n := by rw [← Nat.succ_mul]; congr 1; omega
              rw [List.length_take, List.length_drop]
              omega
            · have : len = 0 := by omega
              subst this; simp
          obtain ⟨xs, x1, x2, x3⟩ := relE_of (γ := gIn W) (e := e) len ((c.drop a.off).take (len * e.n)) hlen fun i hi => by
            obtain ⟨ws, w1, w2⟩ := hch i hi
            refine ⟨ws, w1, ?_⟩
            have : (((c.drop a.off).take (len * e.n)).drop (i * e.n)).take e.n = (c.drop (a.off + i * e.n)).take e.n := by
              rw [List.drop_take, List.take_take, List.drop_drop, Nat.min_eq_left]
              have : i * e.n + e.n ≤ len * e.n := by rw [← Nat.succ_mul]; exact Nat.mul_le_mul_right _ hi
              omega
            rw [this]; exact w2
          have h48 : len < 2 ^ 48 := by
            have h1 : reachBytes < 2 ^ 48 := by decide
            have h2 : (elems.length + rest.length) * 1 ≤ (elems.length + rest.length) * P.bytesOf te := Nat.mul_le_mul_left _ hby
            omega
          refine ⟨[.sl e.n false xs], ⟨.sl e.n false xs, xs, rfl, .mk, by omega, x3⟩, _, _, rfl, ?_, rfl⟩
          refine ⟨a.block, c.take a.off, (c.drop a.off).take (len * e.n), (c.drop a.off).drop (len * e.n), c.length, cap, ?_, x2, ?_, by omega, by simp, by omega⟩
          · rw [List.append_assoc, List.take_append_drop, List.take_append_drop]; exact c1
          · rw [x1, List.length_take, Nat.min_eq_left (by omega)]
            cases a; simp at c2; subst c2; rfl
    | st l =>
      have hall : ∀ (l : List Sh) (off : Nat) (fs : List Field), Sh.TyL P l off fs → (∀ f ∈ fs, ∃ y, (y.1.weights P f.type).all (· ≤ reachBytes) = true ∧ DataW.trod enc P W 0 (fun _ => true) true fuel f.type ((cs.drop f.offset).take (P.cellsOf f.type)) = some y) → off + Sh.nL l ≤ cs.length → ∃ vs, Sh.IsL l vs ∧ RelL (gIn W) vs ((cs.drop off).take (Sh.nL l)) := by
        intro l
        induction l with
        | nil => intro off fs hl _ _; exact ⟨[], rfl, by simp [Sh.nL, RelL]⟩
        | cons s l ihl =>
          intro off fs hl hf hlen
          obtain ⟨f, r, rfl, rfl, hs, hl'⟩ := hl
          obtain ⟨y, hyw, hy⟩ := hf f (by simp)
          rw [hs.cells] at hy
          obtain ⟨a, a1, a2⟩ := ih s f.type _ y hs hyw hy
          obtain ⟨b, b1, b2⟩ := ihl (f.offset + s.n) r hl' (fun g hg => hf g (by simp [hg])) (by simp only [Sh.nL] at hlen; omega)
          refine ⟨a ++ b, ⟨a, b, rfl, a1, b1⟩, ?_⟩
          have := relL_app a2 b2
          rw [← List.drop_drop, ← List.take_add] at this
          exact this
      rcases ht with ⟨fs, hu, hc, htl⟩ | ⟨n, e, te, rfl, hu, hc, htr⟩
      · obtain ⟨xs, n', hf, rfl, hl, hxl, hx⟩ := DataW.trod_struct hu h
        obtain rfl : fuel = n' := by omega
        simp only [DataW.weights, hu] at hwt
        obtain ⟨vs, v1, v2⟩ := hall l 0 fs.toList htl (fun f hf => by
          obtain ⟨i, hi, rfl⟩ := List.mem_iff_getElem.1 hf
          have hi' : i < fs.size := by simpa using hi
          have := hx i fs[i] (by simp [hi'])
          rw [List.getElem?_eq_getElem (by omega)] at this
          exact ⟨_, wEach hwt i _ _ (by simp [hi']) (by simp [show i < xs.length by omega]; rfl), by simpa using this⟩) (by omega)
        rw [List.drop_zero, List.take_of_length_le (by omega)] at v2
        exact ⟨vs, v1, v2⟩
      · obtain ⟨xs, n', hf, rfl, hl, hxl, hx⟩ := DataW.trod_array hu h
        obtain rfl : fuel = n' := by omega
        simp only [DataW.weights, hu] at hwt
        have hgo : ∀ (m i : Nat), i + m = n → ∃ vs, Sh.IsL (List.replicate m e) vs ∧ RelL (gIn W) vs ((cs.drop (i * e.n)).take (m * e.n)) := by
          intro m
          induction m with
          | zero => intro i _; exact ⟨[], rfl, by simp [RelL]⟩
          | succ m ihm =>
            intro i hi
            have hte : e.Ty P te := by
              obtain ⟨k, rfl⟩ : ∃ k, n = k + 1 := ⟨n - 1, by omega⟩
              exact htr.1
            have := hx i (by omega)
            rw [hte.cells, List.getElem?_eq_getElem (by omega)] at this
            obtain ⟨a, a1, a2⟩ := ih e te _ _ hte (wAll hwt _ (List.mem_map.2 ⟨_, List.getElem_mem _, rfl⟩)) this
            obtain ⟨b, b1, b2⟩ := ihm (i + 1) (by omega)
            refine ⟨a ++ b, ⟨a, b, rfl, a1, b1⟩, ?_⟩
            have := relL_app a2 b2
            rw [Nat.add_mul, Nat.one_mul, ← List.drop_drop, ← List.take_add] at this
            rw [Nat.add_mul, Nat.one_mul, Nat.add_comm (m * e.n)]
            exact this
        have hnl : Sh.nL (List.replicate n e) = n * e.n := by
          clear hgo hx hxl hc hu htr
          induction n with
          | zero => simp [Sh.nL]
          | succ n ih => simp only [List.replicate_succ, Sh.nL, ih, Nat.succ_mul]; omega
        obtain ⟨vs, v1, v2⟩ := hgo n 0 (by omega)
        rw [Nat.zero_mul, List.drop_zero, List.take_of_length_le (by omega)] at v2
        exact ⟨vs, v1, v2⟩
end
end Go.AL.S
set_option maxRecDepth 100000
namespace Go.AL.S
open Go Go.AL
def shMi : Sh := .st [.bool, .int .u8, .int .u16]
def shAc : Sh := .st [.int .u8, .int .u8, .int .u16, .sl shMi, .sl (.sl (.int .u16))]
theorem wf_u8 {n : Int} (h : (Lit.int .u8 n).wf = true) : 0 ≤ n ∧ n < 256 := by
  simp [Lit.wf, IntKind.min, IntKind.max, IntKind.signed, IntKind.bits] at h; omega
theorem wf_u16 {n : Int} (h : (Lit.int .u16 n).wf = true) : 0 ≤ n ∧ n < 65536 := by
  simp [Lit.wf, IntKind.min, IntKind.max, IntKind.signed, IntKind.bits] at h; omega
/-- Elements, each of which is the value of something. -/
theorem list_of {α : Type} {f : α → V} {p : α → Prop} : ∀ {xs : List V}, (∀ x ∈ xs, ∃ a, x = f a ∧ p a) → ∃ l : List α, xs = l.map f ∧ ∀ a ∈ l, p a
  | [], _ => ⟨[], rfl, by simp⟩
  | x :: xs, h => by
    obtain ⟨a, rfl, ha⟩ := h x (by simp)
    obtain ⟨l, rfl, hl⟩ := list_of (xs := xs) fun y hy => h y (by simp [hy])
    refine ⟨a :: l, rfl, fun b hb => ?_⟩
    rcases List.mem_cons.1 hb with rfl | hb
    · exact ha
    · exact hl b hb
theorem mi_of {ws : List V} (h : shMi.Is ws) : ∃ m : Mi, shMi.val ws = m.V ∧ m.ok := by
  obtain ⟨_, _, rfl, ⟨b, rfl⟩, _, _, rfl, ⟨k, rfl, hk⟩, _, _, rfl, ⟨n, rfl, hn⟩, rfl⟩ := h
  have h1 := wf_u8 hk
  have h2 := wf_u16 hn
  exact ⟨⟨b, k, n⟩, rfl, h1.1, h1.2, h2.1, h2.2⟩
theorem mis_of {ws : List V} (h : (Sh.sl shMi).Is ws) : ∃ v l, ws = [v] ∧ isMs v l ∧ ∀ m ∈ l, m.ok := by
  obtain ⟨v, xs, rfl, hs, _, hx⟩ := h
  obtain ⟨l, rfl, hl⟩ := list_of (f := Mi.V) (p := Mi.ok) fun x hxm => by
    obtain ⟨ws, h1, rfl⟩ := hx x hxm
    obtain ⟨m, h2, h3⟩ := mi_of h1
    exact ⟨m, h2, h3⟩
  exact ⟨v, l, rfl, hs, hl⟩
theorem ints_of {ws : List V} (h : (Sh.sl (.int .u16)).Is ws) : ∃ v o, ws = [v] ∧ isEl v o ∧ ∀ n ∈ nums o, 0 ≤ n ∧ n < 65536 := by
  obtain ⟨v, xs, rfl, hs, _, hx⟩ := h
  obtain ⟨l, rfl, hl⟩ := list_of (f := V.int .u16) (p := fun n => 0 ≤ n ∧ n < 65536) fun x hxm => by
    obtain ⟨ws, ⟨n, rfl, hn⟩, rfl⟩ := hx x hxm
    exact ⟨n, rfl, wf_u16 hn⟩
  rcases hs with ⟨rfl, _⟩ | ⟨rfl, _⟩ | ⟨f, rfl⟩
  · exact ⟨_, none, rfl, .inl ⟨rfl, rfl⟩, by simp [nums]⟩
  · exact ⟨_, some [], rfl, .inr (.inl ⟨rfl, rfl⟩), by simp [nums]⟩
  · exact ⟨_, some l, rfl, .inr (.inr ⟨f, l, rfl, rfl⟩), hl⟩
theorem lists_of {ws : List V} (h : (Sh.sl (.sl (.int .u16))).Is ws) : ∃ v ls, ws = [v] ∧ isLs v ls ∧ ∀ o ∈ ls, ∀ n ∈ nums o, 0 ≤ n ∧ n < 65536 := by
  obtain ⟨v, xs, rfl, hs, _, hx⟩ := h
  have hgo : ∀ xs : List V, (∀ x ∈ xs, ∃ ws, (Sh.sl (.int .u16)).Is ws ∧ x = (Sh.sl (.int .u16)).val ws) → ∃ ls : List (Option (List Int)), xs.length = ls.length ∧ (∀ k (h : k < xs.length) (h' : k < ls.length), isEl xs[k] ls[k]) ∧ ∀ o ∈ ls, ∀ n ∈ nums o, 0 ≤ n ∧ n < 65536 := by
    intro xs
    induction xs with
    | nil => intro _; exact ⟨[], rfl, fun k h => by simp at h, by simp⟩
    | cons x xs ih =>
      intro h
      obtain ⟨ws, h1, rfl⟩ := h x (by simp)
      obtain ⟨v, o, rfl, h2, h3⟩ := ints_of h1
      obtain ⟨ls, l1, l2, l3⟩ := ih fun y hy => h y (by simp [hy])
      refine ⟨o :: ls, by simp [l1], fun k hk hk' => ?_, fun o' ho' => ?_⟩
      · cases k with
        | zero => exact h2
        | succ k => exact l2 k (by simpa using hk) (by simpa using hk')
      · rcases List.mem_cons.1 ho' with rfl | ho'
        · exact h3
        · exact l3 o' ho'
  obtain ⟨ls, l1, l2, l3⟩ := hgo xs hx
  exact ⟨v, ls, rfl, ⟨xs, hs, l1, l2⟩, l3⟩
theorem ac_of {ws : List V} (h : shAc.Is ws) : ∃ a : Ac, shAc.val ws = a.V ∧ a.ok := by
  obtain ⟨_, _, rfl, ⟨w, rfl, hw⟩, _, _, rfl, ⟨c, rfl, hc⟩, _, _, rfl, ⟨i, rfl, hi⟩, ws3, _, rfl, h3, ws4, _, rfl, h4, rfl⟩ := h
  have hb := h4.bel (n := 0)
  obtain ⟨t, l, rfl, t1, t2⟩ := mis_of h3
  obtain ⟨r, ls, rfl, r1, r2⟩ := lists_of h4
  refine ⟨⟨w, c, i, t, l, r, ls⟩, rfl, wf_u8 hw, wf_u8 hc, wf_u16 hi, t1, r1, t2, r2, ?_⟩
  simpa [V.belL] using hb
theorem acs_of {ws : List V} (h : (Sh.sl shAc).Is ws) : ∃ v, ∃ l : List Ac, ws = [v] ∧ isS 5 v (l.map Ac.V) ∧ (∀ a ∈ l, a.ok) ∧ l.length < 2 ^ 48 := by
  obtain ⟨v, xs, rfl, hs, hl, hx⟩ := h
  obtain ⟨l, rfl, hl'⟩ := list_of (f := Ac.V) (p := Ac.ok) fun x hxm => by
    obtain ⟨ws, h1, rfl⟩ := hx x hxm
    obtain ⟨a, h2, h3⟩ := ac_of h1
    exact ⟨a, h2, h3⟩
  exact ⟨v, l, rfl, hs, hl', by simpa using hl⟩
end Go.AL.S
