/- What the program's functions do, part 2. Conditions: none. -/
import Derived.Test.YtpclhmihehcniaaGreatDoorBa
set_option maxRecDepth 100000
namespace Go.AL.S
open Go Go.AL Go.RowKit
mutual
def Sh.tyB (P : Program) : Sh → TypeId → Bool
  | .bool, t => (match P.underlying t with | some .bool => true | _ => false) && decide (P.cellsOf t = 1)
  | .int k, t => (match P.underlying t with | some (.int k') => decide (k' = k) | _ => false) && decide (P.cellsOf t = 1)
  | .sl e, t => (match P.underlying t with | some (.slice te) => e.tyB P te && decide (0 < e.n) && decide (0 < P.bytesOf te) | _ => false) && decide (P.cellsOf t = 1)
  | .st l, t => (match P.underlying t with | some (.struct fs) => decide (P.cellsOf t = Sh.nL l) && Sh.tyLB P l 0 fs.toList | _ => false)
def Sh.tyLB (P : Program) : List Sh → Nat → List Field → Bool
  | [], _, [] => true
  | s :: l, off, f :: r => decide (f.offset = off) && s.tyB P f.type && Sh.tyLB P l (off + s.n) r
  | _, _, _ => false
end
mutual
theorem Sh.ty_of {P : Program} : ∀ {s : Sh} {t : TypeId}, s.tyB P t = true → s.Ty P t
  | .bool, t, h => by
    simp only [Sh.tyB, Bool.and_eq_true, decide_eq_true_eq] at h
    refine ⟨?_, h.2⟩
    have h1 := h.1
    split at h1
    · assumption
    · cases h1
  | .int k, t, h => by
    simp only [Sh.tyB, Bool.and_eq_true, decide_eq_true_eq] at h
    refine ⟨?_, h.2⟩
    have h1 := h.1
    split at h1
    · rename_i k' hk; rw [decide_eq_true_eq] at h1; rw [hk, h1]
    · cases h1
  | .sl e, t, h => by
    simp only [Sh.tyB, Bool.and_eq_true, decide_eq_true_eq] at h
    have h1 := h.1
    split at h1
    · rename_i te hk
      simp only [Bool.and_eq_true, decide_eq_true_eq] at h1
      exact ⟨te, hk, Sh.ty_of h1.1.1, h1.1.2, h.2, h1.2⟩
    · cases h1
  | .st l, t, h => by
    simp only [Sh.tyB] at h
    split at h
    · rename_i fs hk
      simp only [Bool.and_eq_true, decide_eq_true_eq] at h
      exact .inl ⟨fs, hk, h.1, Sh.tyL_of h.2⟩
    · cases h
theorem Sh.tyL_of {P : Program} : ∀ {l : List Sh} {off : Nat} {fs : List Field}, Sh.tyLB P l off fs = true → Sh.TyL P l off fs
  | [], _, [], _ => rfl
  | s :: l, off, f :: r, h => by
    simp only [Sh.tyLB, Bool.and_eq_true, decide_eq_true_eq] at h
    exact ⟨f, r, rfl, h.1.1, Sh.ty_of h.1.2, Sh.tyL_of h.2⟩
  | [], _, _ :: _, h => by simp [Sh.tyLB] at h
  | _ :: _, _, [], h => by simp [Sh.tyLB] at h
end
theorem relL_app {γ : G} : ∀ {a b : List V} {l m : List Value}, RelL γ a l → RelL γ b m → RelL γ (a ++ b) (l ++ m)
  | [], _, _, _, h, h' => by rw [show _ = ([] : List Value) from h]; exact h'
  | x :: a, b, _, m, ⟨v, l', e, h1, h2⟩, h' => ⟨v, l' ++ m, by rw [e]; rfl, h1, relL_app h2 h'⟩
theorem relL_len {γ : G} : ∀ {a : List V} {l : List Value}, RelL γ a l → l.length = a.length
  | [], l, h => by obtain rfl : l = [] := h; rfl
  | x :: a, _, ⟨v, l', e, _, h2⟩ => by rw [e, List.length_cons, List.length_cons, relL_len h2]
/-- One element. -/
theorem el_of {γ : G} {e : Sh} {ws : List V} {l : List Value} (h : e.Is ws) (hr : RelL γ ws l) : ∃ v : Value, v.cells.toList = l ∧ v.cells.size = e.n ∧ RelV γ (e.val ws) v := by
  have hl := (relL_len hr).trans h.len
  cases e with
  | st sh => exact ⟨.agg l.toArray, by simp [Value.cells], by simpa [Value.cells] using hl, l, rfl, hr⟩
  | bool =>
    obtain ⟨b, rfl⟩ := h
    obtain ⟨v, l', e, h1, h2⟩ := hr
    obtain rfl : l' = [] := h2
    have h1' : v = .bool b := h1
    subst h1' e
    exact ⟨_, rfl, rfl, rfl⟩
  | int k =>
    obtain ⟨n, rfl, hw⟩ := h
    obtain ⟨v, l', e, h1, h2⟩ := hr
    obtain rfl : l' = [] := h2
    have h1' : v = .int k n := h1
    subst h1' e
    exact ⟨_, rfl, rfl, rfl⟩
  | sl e' =>
    obtain ⟨x, xs, rfl, hs, _⟩ := h
    obtain ⟨v, l', e, h1, h2⟩ := hr
    obtain rfl : l' = [] := h2
    subst e
    have hc : v.cells = #[v] := by
      rcases hs with ⟨rfl, _⟩ | ⟨rfl, _⟩ | ⟨f, rfl⟩
      · have h1' : v = .slice none 0 0 := h1
        subst h1'; rfl
      · obtain ⟨a, rfl⟩ := h1; rfl
      · obtain ⟨b, pre, l, post, sz, cap, _, _, rfl, _⟩ := h1; rfl
    exact ⟨v, by rw [hc], by rw [hc]; rfl, h1⟩
theorem relE_of {γ : G} {e : Sh} : ∀ (m : Nat) (l : List Value), l.length = m * e.n → (∀ i, i < m → ∃ ws, e.Is ws ∧ RelL γ ws ((l.drop (i * e.n)).take e.n)) →
    ∃ xs, xs.length = m ∧ RelE γ e.n xs l ∧ ∀ x ∈ xs, ∃ ws, e.Is ws ∧ x = e.val ws
  | 0, l, hl, _ => by
    have : l = [] := List.length_eq_zero_iff.1 (by omega)
    subst this
    exact ⟨[], rfl, rfl, by simp⟩
  | m + 1, l, hl, h => by
    obtain ⟨ws, h1, h2⟩ := h 0 (by omega)
    rw [Nat.zero_mul, List.drop_zero] at h2
    obtain ⟨v, hv1, hv2, hv3⟩ := el_of h1 h2
    have hl' : (l.drop e.n).length = m * e.n := by
      rw [List.length_drop, hl, Nat.add_mul]; omega
    obtain ⟨xs, x1, x2, x3⟩ := relE_of m (l.drop e.n) hl' fun i hi => by
      obtain ⟨ws, a, b⟩ := h (i + 1) (by omega)
      refine ⟨ws, a, ?_⟩
      rw [List.drop_drop]
      rwa [Nat.add_mul, Nat.one_mul, Nat.add_comm] at b
    refine ⟨e.val ws :: xs, by simp [x1], ⟨v, l.drop e.n, by rw [hv1, List.take_append_drop], hv2, hv3, x2⟩, ?_⟩
    intro x hx
    rcases List.mem_cons.1 hx with rfl | hx
    · exact ⟨ws, h1, rfl⟩
    · exact x3 x hx
section
variable {H : Type} {enc : TypeId × Value → H} {P : Program} {W : World}
theorem chunk_of {c : List Value} {a : Addr} {n : Nat} {cs : List Value} {o : Nat} (hc : ∀ i, W.cell? ⟨a.block, i, none⟩ = c[i]?) (hs : a.spot = none) (h : W.cells? 0 (a.add o) n = some cs) : (c.drop (a.off + o)).take n = cs := by
  obtain ⟨_, h2, h3⟩ := World.cells?_some h
  refine List.ext_getElem? fun i => ?_
  by_cases hi : i < n
  · rw [List.getElem?_take_of_lt hi, List.getElem?_drop, ← h3 i hi, ← hc]
    congr 1
    have hb : ∀ (a : Addr) (m : Nat), a.spot = none → a.add m = ⟨a.block, a.off + m, none⟩ := by
      intro a m h
      unfold Addr.add
      split
      · rename_i h0; subst h0; cases a; simp at h ⊢; exact h
      · rfl
    rw [hb a o hs, hb _ i rfl, Nat.add_assoc]
  · rw [List.getElem?_eq_none (by simp; omega), List.getElem?_eq_none (by omega)]
theorem wAll {e : TypeId} {p : Nat → Bool} : ∀ {l : List (DataW H)}, (DataW.weightsAll P e l).all p = true → ∀ d ∈ l, (d.weights P e).all p = true
  | [], _, _, h => by simp at h
  | x :: l, h, d, hd => by
    simp only [DataW.weightsAll, List.all_append, Bool.and_eq_true] at h
    rcases List.mem_cons.1 hd with rfl | hd
    · exact h.1
    · exact wAll h.2 d hd
theorem wEach {p : Nat → Bool} : ∀ {ts : List TypeId} {l : List (DataW H)}, (DataW.weightsEach P ts l).all p = true → ∀ (i : Nat) (t : TypeId) (d : DataW H), ts[i]? = some t → l[i]? = some d → (d.weights P t).all p = true
  | [], _, _, _, _, _, h, _ => by simp at h
  | _ :: _, [], _, _, _, _, _, h => by simp at h
  | t :: ts, x :: l, h, i, t', d, h1, h2 => by
    simp only [DataW.weightsEach, List.all_append, Bool.and_eq_true] at h
    cases i with
    | zero => simp at h1 h2; subst h1 h2; exact h.1
    | succ i => simp at h1 h2; exact wEach h.2 i t' d h1 h2
/-- What is read as data of a shape is a value of it. -/
theorem decode : ∀ (fuel : Nat) (s : Sh) (t : TypeId) (cs : List Value) (x : DataW H × List MemPlace), s.Ty P t → (x.1.weights P t).all (· ≤ reachBytes) = true → DataW.trod enc P W 0 (fun _ => true) true fuel t cs = some x → ∃ vs, s.Is vs ∧ RelL (gIn W) vs cs := by
  intro fuel
  induction fuel with
  | zero => intro s t cs x _ _ h; simp [DataW.trod] at h
  | succ fuel ih =>
    intro s t cs x ht hwt h
    cases s with
    | bool =>
      obtain ⟨b, rfl, _⟩ := DataW.trod_bool ht.1 h
      exact ⟨[.bool b], ⟨b, rfl⟩, _, _, rfl, rfl, rfl⟩
    | int k =>
      obtain ⟨n, rfl, _, hw⟩ := DataW.trod_int ht.1 h
      exact ⟨[.int k n], ⟨n, rfl, hw⟩, _, _, rfl, rfl, rfl⟩
    | sl e =>
      obtain ⟨te, hu, hte, hn, hc, hby⟩ := ht
      have hce := hte.cells
      rcases DataW.trod_slice hu h with ⟨rfl, _⟩ | ⟨a, len, cap, elems, rest, n', hf, rfl, rfl, _, hlc, hcap, hel, he, hr, _⟩
      · exact ⟨[.nilsl], ⟨.nilsl, [], rfl, .nil, by simp, by simp⟩, _, _, rfl, rfl, rfl⟩
      · obtain rfl : fuel = n' := by omega
        rw [hce] at he hr
        simp only [DataW.weights, hu, List.all_cons, List.all_append, Bool.and_eq_true, decide_eq_true_eq, List.length_map] at hwt
        obtain ⟨hw1, hw2, _⟩ := hwt
        by_cases h0 : cap = 0
        · obtain rfl : len = 0 := by omega
          subst h0
          exact ⟨[.slz], ⟨.slz, [], rfl, .inr (.inl ⟨rfl, rfl⟩), by simp, by simp⟩, _, _, rfl, ⟨a, rfl⟩, rfl⟩
        · have h1 : ∃ cs0, W.cells? 0 (a.add 0) e.n = some cs0 := by
            by_cases hl0 : 0 < len
            · have := he 0 hl0
              rw [Nat.zero_mul, List.getElem?_eq_getElem (by omega)] at this
              obtain ⟨cs0, q, _⟩ := Option.bind_eq_some_iff.1 this
              exact ⟨cs0, q⟩
            · obtain rfl : len = 0 := by omega
              obtain ⟨r1, r2⟩ := hr rfl
              have := r2 0 (by omega)
              rw [Nat.zero_add, Nat.zero_mul, List.getElem?_eq_getElem (by omega)] at this
              obtain ⟨cs0, q, _⟩ := Option.bind_eq_some_iff.1 this
              exact ⟨cs0, q⟩
          obtain ⟨cs0, hcs0⟩ := h1
          obtain ⟨_, q2, q3⟩ := World.cells?_some hcs0
          have q4 := q3 0 hn
          rw [List.getElem?_eq_getElem (by omega)] at q4
          have q5 : W.cell? a = some (cs0[0]'(by omega)) := by simpa [Addr.add] using q4
          obtain ⟨c, c1, c2, c3, c4⟩ := gIn_con q5
          have hch : ∀ i, i < len → ∃ ws, e.Is ws ∧ RelL (gIn W) ws ((c.drop (a.off + i * e.n)).take e.n) := by
            intro i hi
            have := he i hi
            rw [List.getElem?_eq_getElem (by omega)] at this
            obtain ⟨csi, p1, p2⟩ := Option.bind_eq_some_iff.1 this
            rw [chunk_of c4 c2 p1]
            exact ih e te csi _ hte (wAll hw2 _ (List.mem_map.2 ⟨_, List.getElem_mem _, rfl⟩)) p2
          have hlen : ((c.drop a.off).take (len * e.n)).length = len * e.n := by
            by_cases hl0 : 0 < len
            · have := he (len - 1) (by omega)
              rw [List.getElem?_eq_getElem (by omega)] at this
              obtain ⟨csi, p1, p2⟩ := Option.bind_eq_some_iff.1 this
              have p3 := chunk_of c4 c2 p1
              have p4 := congrArg List.length p3
              rw [List.length_take, List.length_drop, (World.cells?_some p1).2.1] at p4
              have : (len - 1) * e.n + e.n = len * e.n := by rw [← Nat.succ_mul]; congr 1; omega
              rw [List.length_take, List.length_drop]
              omega
            · have : len = 0 := by omega
              subst this; simp
          obtain ⟨xs, x1, x2, x3⟩ := relE_of (γ := gIn W) (e := e) len ((c.drop a.off).take (len * e.n)) hlen fun i hi => by
            obtain ⟨ws, w1, w2⟩ := hch i hi
            refine ⟨ws, w1, ?_⟩
            have : (((c.drop a.off).take (len * e.n)).drop (i * e.n)).take e.n = (c.drop (a.off + i * e.n)).take e.n := by
              rw [List.drop_take, List.take_take, List.drop_drop, Nat.min_eq_left]
              have : i * e.n + e.n ≤ len * e.n := by rw [← Nat.succ_mul]; exact Nat.mul_le_mul_right _ hi
              omega
            rw [this]; exact w2
          have h48 : len < 2 ^ 48 := by
            have h1 : reachBytes < 2 ^ 48 := by decide
            have h2 : (elems.length + rest.length) * 1 ≤ (elems.length + rest.length) * P.bytesOf te := Nat.mul_le_mul_left _ hby
            omega
          refine ⟨[.sl e.n false xs], ⟨.sl e.n false xs, xs, rfl, .mk, by omega, x3⟩, _, _, rfl, ?_, rfl⟩
          refine ⟨a.block, c.take a.off, (c.drop a.off).take (len * e.n), (c.drop a.off).drop (len * e.n), c.length, cap, ?_, x2, ?_, by omega, by simp, by omega⟩
          · rw [List.append_assoc, List.take_append_drop, List.take_append_drop]; exact c1
          · rw [x1, List.length_take, Nat.min_eq_left (by omega)]
            cases a; simp at c2; subst c2; rfl
    | st l =>
      have hall : ∀ (l : List Sh) (off : Nat) (fs : List Field), Sh.TyL P l off fs → (∀ f ∈ fs, ∃ y, (y.1.weights P f.type).all (· ≤ reachBytes) = true ∧ DataW.trod enc P W 0 (fun _ => true) true fuel f.type ((cs.drop f.offset).take (P.cellsOf f.type)) = some y) → off + Sh.nL l ≤ cs.length → ∃ vs, Sh.IsL l vs ∧ RelL (gIn W) vs ((cs.drop off).take (Sh.nL l)) := by
        intro l
        induction l with
        | nil => intro off fs hl _ _; exact ⟨[], rfl, by simp [Sh.nL, RelL]⟩
        | cons s l ihl =>
          intro off fs hl hf hlen
          obtain ⟨f, r, rfl, rfl, hs, hl'⟩ := hl
          obtain ⟨y, hyw, hy⟩ := hf f (by simp)
          rw [hs.cells] at hy
          obtain ⟨a, a1, a2⟩ := ih s f.type _ y hs hyw hy
          obtain ⟨b, b1, b2⟩ := ihl (f.offset + s.n) r hl' (fun g hg => hf g (by simp [hg])) (by simp only [Sh.nL] at hlen; omega)
          refine ⟨a ++ b, ⟨a, b, rfl, a1, b1⟩, ?_⟩
          have := relL_app a2 b2
          rw [← List.drop_drop, ← List.take_add] at this
          exact this
      rcases ht with ⟨fs, hu, hc, htl⟩ | ⟨n, e, te, rfl, hu, hc, htr⟩
      · obtain ⟨xs, n', hf, rfl, hl, hxl, hx⟩ := DataW.trod_struct hu h
        obtain rfl : fuel = n' := by omega
        simp only [DataW.weights, hu] at hwt
        obtain ⟨vs, v1, v2⟩ := hall l 0 fs.toList htl (fun f hf => by
          obtain ⟨i, hi, rfl⟩ := List.mem_iff_getElem.1 hf
          have hi' : i < fs.size := by simpa using hi
          have := hx i fs[i] (by simp [hi'])
          rw [List.getElem?_eq_getElem (by omega)] at this
          exact ⟨_, wEach hwt i _ _ (by simp [hi']) (by simp [show i < xs.length by omega]; rfl), by simpa using this⟩) (by omega)
        rw [List.drop_zero, List.take_of_length_le (by omega)] at v2
        exact ⟨vs, v1, v2⟩
      · obtain ⟨xs, n', hf, rfl, hl, hxl, hx⟩ := DataW.trod_array hu h
        obtain rfl : fuel = n' := by omega
        simp only [DataW.weights, hu] at hwt
        have hgo : ∀ (m i : Nat), i + m = n → ∃ vs, Sh.IsL (List.replicate m e) vs ∧ RelL (gIn W) vs ((cs.drop (i * e.n)).take (m * e.n)) := by
          intro m
          induction m with
          | zero => intro i _; exact ⟨[], rfl, by simp [RelL]⟩
          | succ m ihm =>
            intro i hi
            have hte : e.Ty P te := by
              obtain ⟨k, rfl⟩ : ∃ k, n = k + 1 := ⟨n - 1, by omega⟩
              exact htr.1
            have := hx i (by omega)
            rw [hte.cells, List.getElem?_eq_getElem (by omega)] at this
            obtain ⟨a, a1, a2⟩ := ih e te _ _ hte (wAll hwt _ (List.mem_map.2 ⟨_, List.getElem_mem _, rfl⟩)) this
            obtain ⟨b, b1, b2⟩ := ihm (i + 1) (by omega)
            refine ⟨a ++ b, ⟨a, b, rfl, a1, b1⟩, ?_⟩
            have := relL_app a2 b2
            rw [Nat.add_mul, Nat.one_mul, ← List.drop_drop, ← List.take_add] at this
            rw [Nat.add_mul, Nat.one_mul, Nat.add_comm (m * e.n)]
            exact this
        have hnl : Sh.nL (List.replicate n e) = n * e.n := by
          clear hgo hx hxl hc hu htr
          induction n with
          | zero => simp [Sh.nL]
          | succ n ih => simp only [List.replicate_succ, Sh.nL, ih, Nat.succ_mul]; omega
        obtain ⟨vs, v1, v2⟩ := hgo n 0 (by omega)
        rw [Nat.zero_mul, List.drop_zero, List.take_of_length_le (by omega)] at v2
        exact ⟨vs, v1, v2⟩
end
end Go.AL.S
set_option maxRecDepth 100000
namespace Go.AL.S
open Go Go.AL Go.Proofs
/- slices.Equal[[]umpire/api.Micro,umpire/api.Micro] -/
def c50 : AC := (AC.seq (AC.reg [
  ⟨(some 4), .mov, [.c (.bool false)], none⟩])
 (AC.seq (AC.seq (AC.reg [
  ⟨(some 6), .mov, [.t 0], none⟩,
  ⟨(some 7), .len 1 0, [.t 6], none⟩,
  ⟨(some 8), .mov, [.t 1], none⟩,
  ⟨(some 9), .len 1 0, [.t 8], none⟩,
  ⟨(some 10), .bin .neq, [.t 7, .t 9], none⟩])
 (AC.cond (.t 10)
  (AC.seq (AC.reg [
   ⟨(some 4), .mov, [.c (.bool false)], none⟩])
  AC.ret)
  AC.skip))
 (AC.seq (AC.seq (AC.reg [
  ⟨(some 11), .mov, [.t 0], none⟩,
  ⟨(some 12), .len 1 0, [.t 11], none⟩,
  ⟨(some 13), .mov, [.c (.int .i64 0)], none⟩])
 (AC.block 0
  (AC.loop
   (AC.seq (AC.reg [
    ⟨(some 14), .bin .lss, [.t 13, .t 12], none⟩])
   (AC.seq (AC.cond (.t 14)
    AC.skip
    (AC.exit 0))
   (AC.seq (AC.block 1
    (AC.seq (AC.reg [
     ⟨(some 15), .mov, [.t 13], none⟩,
     ⟨(some 5), .mov, [.t 15], none⟩])
    (AC.seq (AC.par
     (PT.step 0 ⟨(some 16), .mov, [.t 0], none⟩
     (PT.step 1 ⟨(some 17), .mov, [.t 5], none⟩
     (PT.step 4 ⟨(some 20), .mov, [.t 1], none⟩
     (PT.step 5 ⟨(some 21), .mov, [.t 5], none⟩
     (PT.step 2 ⟨(some 18), .idxp 3, [.t 16, .t 17], none⟩
     (PT.step 3 ⟨(some 19), .load true 3, [.t 18], none⟩
     (PT.step 6 ⟨(some 22), .idxp 3, [.t 20, .t 21], none⟩
     (PT.step 7 ⟨(some 23), .load true 3, [.t 22], none⟩
     (PT.step 8 ⟨(some 24), .eqv true (true, [.b, .i .u8, .i .u16]), [.t 19, .t 23], none⟩
     PT.done))))))))))
    (AC.cond (.t 24)
     (AC.seq (AC.reg [
      ⟨(some 4), .mov, [.c (.bool false)], none⟩])
     AC.ret)
     AC.skip))))
   (AC.reg [
    ⟨(some 25), .bin .add, [.t 13, .c (.int .i64 1)], none⟩,
    ⟨(some 13), .mov, [.t 25], none⟩])))))))
 (AC.seq (AC.reg [
  ⟨(some 4), .mov, [.c (.bool true)], none⟩])
 AC.ret))))
def r50 : AC × List RT × Nat := (c50, [.tmp 4], 26)
theorem ok50e : compF Tryz.prog Tryz.f118 ⟨false, false, []⟩ = some r50 := by kernel_rfl
/- slices.Equal[[]uint16,uint16] -/
def c52 : AC := (AC.seq (AC.reg [
  ⟨(some 4), .mov, [.c (.bool false)], none⟩])
 (AC.seq (AC.seq (AC.reg [
  ⟨(some 6), .mov, [.t 0], none⟩,
  ⟨(some 7), .len 1 0, [.t 6], none⟩,
  ⟨(some 8), .mov, [.t 1], none⟩,
  ⟨(some 9), .len 1 0, [.t 8], none⟩,
  ⟨(some 10), .bin .neq, [.t 7, .t 9], none⟩])
 (AC.cond (.t 10)
  (AC.seq (AC.reg [
   ⟨(some 4), .mov, [.c (.bool false)], none⟩])
  AC.ret)
  AC.skip))
 (AC.seq (AC.seq (AC.reg [
  ⟨(some 11), .mov, [.t 0], none⟩,
  ⟨(some 12), .len 1 0, [.t 11], none⟩,
  ⟨(some 13), .mov, [.c (.int .i64 0)], none⟩])
 (AC.block 0
  (AC.loop
   (AC.seq (AC.reg [
    ⟨(some 14), .bin .lss, [.t 13, .t 12], none⟩])
   (AC.seq (AC.cond (.t 14)
    AC.skip
    (AC.exit 0))
   (AC.seq (AC.block 1
    (AC.seq (AC.reg [
     ⟨(some 15), .mov, [.t 13], none⟩,
     ⟨(some 5), .mov, [.t 15], none⟩])
    (AC.seq (AC.par
     (PT.step 0 ⟨(some 16), .mov, [.t 0], none⟩
     (PT.step 1 ⟨(some 17), .mov, [.t 5], none⟩
     (PT.step 4 ⟨(some 20), .mov, [.t 1], none⟩
     (PT.step 5 ⟨(some 21), .mov, [.t 5], none⟩
     (PT.step 2 ⟨(some 18), .idxp 1, [.t 16, .t 17], none⟩
     (PT.step 3 ⟨(some 19), .load false 1, [.t 18], none⟩
     (PT.step 6 ⟨(some 22), .idxp 1, [.t 20, .t 21], none⟩
     (PT.step 7 ⟨(some 23), .load false 1, [.t 22], none⟩
     (PT.step 8 ⟨(some 24), .bin .neq, [.t 19, .t 23], none⟩
     PT.done))))))))))
    (AC.cond (.t 24)
     (AC.seq (AC.reg [
      ⟨(some 4), .mov, [.c (.bool false)], none⟩])
     AC.ret)
     AC.skip))))
   (AC.reg [
    ⟨(some 25), .bin .add, [.t 13, .c (.int .i64 1)], none⟩,
    ⟨(some 13), .mov, [.t 25], none⟩])))))))
 (AC.seq (AC.reg [
  ⟨(some 4), .mov, [.c (.bool true)], none⟩])
 AC.ret))))
def r52 : AC × List RT × Nat := (c52, [.tmp 4], 26)
theorem ok52e : compF Tryz.prog Tryz.f90 ⟨false, false, []⟩ = some r52 := by kernel_rfl
/- umpire/umpireref01.Same -/
def c56 : AC := (AC.seq (AC.reg [
  ⟨(some 4), .mov, [.c (.bool false)], none⟩])
 (AC.seq (AC.seq (AC.reg [
  ⟨(some 6), .mov, [.t 0], none⟩,
  ⟨(some 7), .len 1 0, [.t 6], none⟩,
  ⟨(some 8), .mov, [.t 1], none⟩,
  ⟨(some 9), .len 1 0, [.t 8], none⟩,
  ⟨(some 10), .bin .neq, [.t 7, .t 9], none⟩])
 (AC.cond (.t 10)
  (AC.seq (AC.reg [
   ⟨(some 4), .mov, [.c (.bool false)], none⟩])
  AC.ret)
  AC.skip))
 (AC.seq (AC.seq (AC.reg [
  ⟨(some 5), .mov, [.c (.int .i64 0)], none⟩])
 (AC.block 0
  (AC.loop
   (AC.seq (AC.seq (AC.reg [
    ⟨(some 11), .mov, [.t 5], none⟩,
    ⟨(some 12), .mov, [.t 0], none⟩,
    ⟨(some 13), .len 1 0, [.t 12], none⟩,
    ⟨(some 14), .bin .lss, [.t 11, .t 13], none⟩])
   (AC.cond (.t 14)
    AC.skip
    (AC.exit 0)))
   (AC.seq (AC.block 1
    (AC.seq (AC.par
     (PT.step 0 ⟨(some 17), .mov, [.t 0], none⟩
     (PT.step 1 ⟨(some 18), .mov, [.t 5], none⟩
     (PT.step 4 ⟨(some 21), .mov, [.t 1], none⟩
     (PT.step 5 ⟨(some 22), .mov, [.t 5], none⟩
     (PT.step 2 ⟨(some 19), .idxp 1, [.t 17, .t 18], none⟩
     (PT.step 3 ⟨(some 20), .load false 1, [.t 19], none⟩
     (PT.step 6 ⟨(some 23), .idxp 1, [.t 21, .t 22], none⟩
     (PT.step 7 ⟨(some 24), .load false 1, [.t 23], none⟩
     (PT.step 8 ⟨(some 25), .bin .neq, [.t 20, .t 24], none⟩
     PT.done))))))))))
    (AC.cond (.t 25)
     (AC.seq (AC.reg [
      ⟨(some 4), .mov, [.c (.bool false)], none⟩])
     AC.ret)
     AC.skip)))
   (AC.reg [
    ⟨(some 15), .mov, [.t 5], none⟩,
    ⟨(some 16), .bin .add, [.t 15, .c (.int .i64 1)], none⟩,
    ⟨(some 5), .mov, [.t 16], none⟩]))))))
 (AC.seq (AC.reg [
  ⟨(some 4), .mov, [.c (.bool true)], none⟩])
 AC.ret))))
def r56 : AC × List RT × Nat := (c56, [.tmp 4], 26)
theorem ok56e : compF Tryz.prog Tryz.f128 ⟨false, false, []⟩ = some r56 := by kernel_rfl
variable {E : Env}
theorem take_ext {α : Type} {l m : List α} {k : Nat} (h : l.take k = m.take k) (hl : k < l.length) (hm : k < m.length) (e : l[k] = m[k]) : l.take (k + 1) = m.take (k + 1) := by
  rw [List.take_add_one, List.take_add_one, h, List.getElem?_eq_getElem hl, List.getElem?_eq_getElem hm, e]
theorem ne_at {α : Type} {l m : List α} {k : Nat} (hl : k < l.length) (hm : k < m.length) (e : l[k] ≠ m[k]) : l ≠ m := by
  intro h; subst h; exact e rfl
theorem eqMi_c (hP : E.P = Tryz.prog) (W : AW) {v v' : V} {l l' : List Mi} (h : isMs v l) (h' : isMs v' l') (hk : ∀ m ∈ l, m.ok) (hk' : ∀ m ∈ l', m.ok) (hl : l.length < 2 ^ 40) : ACalls E 118 [v, v'] W fun X W' => X = .bool (decide (l = l')) ∧ W' = W := by
  refine ACalls.of hP Tryz.func118 ok50e (by simp) fun _ hok => ?_
  have f1 := h.frz (W := W)
  by_cases hlen : l.length = l'.length
  · simp only [c50, BS, BC, e_seq, cond_if, ↓reduceIte, Nat.reduceEqDiff, reduceCtorEq, h.len, h'.len, List.length_map, hlen, bne_self_eq_false]
    rw [e_loop]
    refine ALoop.go (B := awp E _) (fun h => awp_mono _ h) (fun (k : Nat) A1 W1 => A1 0 = some v ∧ A1 1 = some v' ∧ A1 12 = some (.int .i64 l'.length) ∧ A1 13 = some (.int .i64 k) ∧ k ≤ l'.length ∧ W1 = W ∧ l.take k = l'.take k) (fun k => l'.length - k) 0
      ⟨rfl, rfl, rfl, rfl, Nat.zero_le _, rfl, rfl⟩ ?_
    rintro k A1 W1 ⟨g0, g1, g12, g13, gk, rfl, ge⟩ _
    by_cases hk1 : k < l'.length
    · have hk2 : k < l.length := by omega
      have o1 := hk l[k] (List.getElem_mem hk2)
      have o2 := hk' l'[k] (List.getElem_mem hk1)
      by_cases he : l[k] = l'[k]
      · simp (config := { maxSteps := 2000000 }) (disch := omega) only [BS, BC, e_seq, cond_if, ↓reduceIte, Nat.reduceEqDiff, reduceCtorEq, BD, g0, g1, g12, g13, clt, hk1, decide_true, h.idx (mi_at hk2), h'.idx (mi_at hk1), mi_load, mi_eqv o1 o2, decide_eq_true he, wadd1]
        exact ⟨k + 1, ⟨(by first | trivial | rfl | omega), (by first | trivial | rfl | omega), (by first | trivial | rfl | omega), (by first | trivial | rfl | omega), (by first | trivial | rfl | omega), (by first | trivial | rfl | omega), take_ext ge hk2 hk1 he⟩, by omega, Nat.le_refl _⟩
      · simp (config := { maxSteps := 2000000 }) (disch := omega) only [BS, BC, e_seq, cond_if, ↓reduceIte, Nat.reduceEqDiff, reduceCtorEq, BD, g0, g1, g12, g13, clt, hk1, decide_true, h.idx (mi_at hk2), h'.idx (mi_at hk1), mi_load, mi_eqv o1 o2, decide_eq_false he]
        exact ⟨_, rfl, _, _, .weak weak_id, Nat.le_refl _, by simp [ne_at hk2 hk1 he], rfl⟩
    · obtain rfl : k = l'.length := by omega
      simp only [BS, BC, e_seq, cond_if, ↓reduceIte, g12, g13, clt, hk1, decide_false]
      refine ⟨_, rfl, _, _, .weak weak_id, Nat.le_refl _, ?_, rfl⟩
      rw [List.take_length, ← hlen, List.take_length] at ge
      simp [ge]
  · have hne : l ≠ l' := fun e => hlen (by rw [e])
    have hb : ((l.length : Int) != (l'.length : Int)) = true := by simp; omega
    simp only [c50, BS, BC, e_seq, cond_if, ↓reduceIte, Nat.reduceEqDiff, reduceCtorEq, h.len, h'.len, List.length_map, hb]
    exact ⟨_, rfl, _, _, .weak weak_id, Nat.le_refl _, by simp [hne], rfl⟩
theorem eqI_c (hP : E.P = Tryz.prog) (W : AW) {v v' : V} {l l' : List Int} (h : isS 1 v (intsV l)) (h' : isS 1 v' (intsV l')) (hl : l.length < 2 ^ 40) : ACalls E 90 [v, v'] W fun X W' => X = .bool (decide (l = l')) ∧ W' = W := by
  refine ACalls.of hP Tryz.func90 ok52e (by simp) fun _ hok => ?_
  have f1 := h.frz (W := W)
  by_cases hlen : l.length = l'.length
  · simp only [c52, BS, BC, e_seq, cond_if, ↓reduceIte, Nat.reduceEqDiff, reduceCtorEq, h.len, h'.len, ints_len, hlen, bne_self_eq_false]
    rw [e_loop]
    refine ALoop.go (B := awp E _) (fun h => awp_mono _ h) (fun (k : Nat) A1 W1 => A1 0 = some v ∧ A1 1 = some v' ∧ A1 12 = some (.int .i64 l'.length) ∧ A1 13 = some (.int .i64 k) ∧ k ≤ l'.length ∧ W1 = W ∧ l.take k = l'.take k) (fun k => l'.length - k) 0
      ⟨rfl, rfl, rfl, rfl, Nat.zero_le _, rfl, rfl⟩ ?_
    rintro k A1 W1 ⟨g0, g1, g12, g13, gk, rfl, ge⟩ _
    by_cases hk1 : k < l'.length
    · have hk2 : k < l.length := by omega
      by_cases he : l[k] = l'[k]
      · simp (config := { maxSteps := 2000000 }) (disch := omega) only [BS, BC, e_seq, cond_if, ↓reduceIte, Nat.reduceEqDiff, reduceCtorEq, BM, BD, g0, g1, g12, g13, clt, hk1, decide_true, h.idx (int_at hk2), h'.idx (int_at hk1), cmpne, decide_not, decide_eq_true he, wadd1]
        exact ⟨k + 1, ⟨(by first | trivial | rfl | omega), (by first | trivial | rfl | omega), (by first | trivial | rfl | omega), (by first | trivial | rfl | omega), (by first | trivial | rfl | omega), (by first | trivial | rfl | omega), take_ext ge hk2 hk1 he⟩, by omega, Nat.le_refl _⟩
      · simp (config := { maxSteps := 2000000 }) (disch := omega) only [BS, BC, e_seq, cond_if, ↓reduceIte, Nat.reduceEqDiff, reduceCtorEq, BM, BD, g0, g1, g12, g13, clt, hk1, decide_true, h.idx (int_at hk2), h'.idx (int_at hk1), cmpne, decide_not, decide_eq_false he]
        exact ⟨_, rfl, _, _, .weak weak_id, Nat.le_refl _, by simp [ne_at hk2 hk1 he], rfl⟩
    · obtain rfl : k = l'.length := by omega
      simp only [BS, BC, e_seq, cond_if, ↓reduceIte, g12, g13, clt, hk1, decide_false]
      refine ⟨_, rfl, _, _, .weak weak_id, Nat.le_refl _, ?_, rfl⟩
      rw [List.take_length, ← hlen, List.take_length] at ge
      simp [ge]
  · have hne : l ≠ l' := fun e => hlen (by rw [e])
    have hb : ((l.length : Int) != (l'.length : Int)) = true := by simp; omega
    simp only [c52, BS, BC, e_seq, cond_if, ↓reduceIte, Nat.reduceEqDiff, reduceCtorEq, h.len, h'.len, ints_len, hb]
    exact ⟨_, rfl, _, _, .weak weak_id, Nat.le_refl _, by simp [hne], rfl⟩
theorem same01_c (hP : E.P = Tryz.prog) (W : AW) {v v' : V} {l l' : List Int} (h : isS 1 v (intsV l)) (h' : isS 1 v' (intsV l')) (hl : l.length < 2 ^ 40) : ACalls E 128 [v, v'] W fun X W' => X = .bool (decide (l = l')) ∧ W' = W := by
  refine ACalls.of hP Tryz.func128 ok56e (by simp) fun _ hok => ?_
  have f1 := h.frz (W := W)
  by_cases hlen : l.length = l'.length
  · simp only [c56, BS, BC, e_seq, cond_if, ↓reduceIte, Nat.reduceEqDiff, reduceCtorEq, h.len, h'.len, ints_len, hlen, bne_self_eq_false]
    rw [e_loop]
    refine ALoop.go (B := awp E _) (fun h => awp_mono _ h) (fun (k : Nat) A1 W1 => A1 0 = some v ∧ A1 1 = some v' ∧ A1 5 = some (.int .i64 k) ∧ k ≤ l'.length ∧ W1 = W ∧ l.take k = l'.take k) (fun k => l'.length - k) 0
      ⟨rfl, rfl, rfl, Nat.zero_le _, rfl, rfl⟩ ?_
    rintro k A1 W1 ⟨g0, g1, g13, gk, rfl, ge⟩ _
    by_cases hk1 : k < l'.length
    · have hk2 : k < l.length := by omega
      by_cases he : l[k] = l'[k]
      · simp (config := { maxSteps := 2000000 }) (disch := omega) only [BS, BC, e_seq, cond_if, ↓reduceIte, Nat.reduceEqDiff, reduceCtorEq, BM, BD, h.len, ints_len, hlen, g0, g1, g13, clt, hk1, decide_true, h.idx (int_at hk2), h'.idx (int_at hk1), cmpne, decide_not, decide_eq_true he, wadd1]
        exact ⟨k + 1, ⟨(by first | trivial | rfl | omega), (by first | trivial | rfl | omega), (by first | trivial | rfl | omega), (by first | trivial | rfl | omega), (by first | trivial | rfl | omega), take_ext ge hk2 hk1 he⟩, by omega, Nat.le_refl _⟩
      · simp (config := { maxSteps := 2000000 }) (disch := omega) only [BS, BC, e_seq, cond_if, ↓reduceIte, Nat.reduceEqDiff, reduceCtorEq, BM, BD, h.len, ints_len, hlen, g0, g1, g13, clt, hk1, decide_true, h.idx (int_at hk2), h'.idx (int_at hk1), cmpne, decide_not, decide_eq_false he]
        exact ⟨_, rfl, _, _, .weak weak_id, Nat.le_refl _, by simp [ne_at hk2 hk1 he], rfl⟩
    · obtain rfl : k = l'.length := by omega
      simp only [BS, BC, e_seq, cond_if, ↓reduceIte, Nat.reduceEqDiff, reduceCtorEq, h.len, ints_len, hlen, g0, g13, clt, hk1, decide_false]
      refine ⟨_, rfl, _, _, .weak weak_id, Nat.le_refl _, ?_, rfl⟩
      rw [List.take_length, ← hlen, List.take_length] at ge
      simp [ge]
  · have hne : l ≠ l' := fun e => hlen (by rw [e])
    have hb : ((l.length : Int) != (l'.length : Int)) = true := by simp; omega
    simp only [c56, BS, BC, e_seq, cond_if, ↓reduceIte, Nat.reduceEqDiff, reduceCtorEq, h.len, h'.len, ints_len, hb]
    exact ⟨_, rfl, _, _, .weak weak_id, Nat.le_refl _, by simp [hne], rfl⟩
end Go.AL.S
set_option maxRecDepth 100000
namespace Go.AL.S
open Go Go.AL Go.Proofs
/- slices.EqualFunc[[][]uint16,[][]uint16,[]uint16,[]uint16] -/
def c51 : AC := (AC.seq (AC.reg [
  ⟨(some 6), .mov, [.c (.bool false)], none⟩])
 (AC.seq (AC.seq (AC.reg [
  ⟨(some 10), .mov, [.t 0], none⟩,
  ⟨(some 11), .len 1 0, [.t 10], none⟩,
  ⟨(some 12), .mov, [.t 1], none⟩,
  ⟨(some 13), .len 1 0, [.t 12], none⟩,
  ⟨(some 14), .bin .neq, [.t 11, .t 13], none⟩])
 (AC.cond (.t 14)
  (AC.seq (AC.reg [
   ⟨(some 6), .mov, [.c (.bool false)], none⟩])
  AC.ret)
  AC.skip))
 (AC.seq (AC.seq (AC.reg [
  ⟨(some 15), .mov, [.t 0], none⟩,
  ⟨(some 16), .len 1 0, [.t 15], none⟩,
  ⟨(some 17), .mov, [.c (.int .i64 0)], none⟩])
 (AC.block 0
  (AC.loop
   (AC.seq (AC.reg [
    ⟨(some 18), .bin .lss, [.t 17, .t 16], none⟩])
   (AC.seq (AC.cond (.t 18)
    AC.skip
    (AC.exit 0))
   (AC.seq (AC.block 1
    (AC.seq (AC.reg [
     ⟨(some 19), .mov, [.t 17], none⟩,
     ⟨(some 20), .idxp 1, [.t 15, .t 17], none⟩,
     ⟨(some 21), .load false 1, [.t 20], none⟩,
     ⟨(some 7), .mov, [.t 19], none⟩,
     ⟨(some 8), .mov, [.t 21], none⟩])
    (AC.seq (AC.reg [
     ⟨(some 22), .mov, [.t 1], none⟩,
     ⟨(some 23), .mov, [.t 7], none⟩,
     ⟨(some 24), .idxp 1, [.t 22, .t 23], none⟩,
     ⟨(some 25), .load false 1, [.t 24], none⟩,
     ⟨(some 9), .mov, [.t 25], none⟩])
    (AC.seq (AC.reg [
     ⟨(some 26), .mov, [.t 2], none⟩,
     ⟨(some 27), .mov, [.t 8], none⟩,
     ⟨(some 28), .mov, [.t 9], none⟩,
     ⟨(some 29), .callv, [.t 26, .t 27, .t 28], none⟩,
     ⟨(some 30), .un .not, [.t 29], none⟩])
    (AC.cond (.t 30)
     (AC.seq (AC.reg [
      ⟨(some 6), .mov, [.c (.bool false)], none⟩])
     AC.ret)
     AC.skip)))))
   (AC.reg [
    ⟨(some 31), .bin .add, [.t 17, .c (.int .i64 1)], none⟩,
    ⟨(some 17), .mov, [.t 31], none⟩])))))))
 (AC.seq (AC.reg [
  ⟨(some 6), .mov, [.c (.bool true)], none⟩])
 AC.ret))))
def r51 : AC × List RT × Nat := (c51, [.tmp 6], 32)
theorem ok51e : compF Tryz.prog Tryz.f119 ⟨false, false, []⟩ = some r51 := by kernel_rfl
/- slices.IndexFunc[[]umpire/api.Micro,umpire/api.Micro] -/
def c132 : AC := (AC.seq (AC.reg [
  ⟨(some 4), .mov, [.c (.int .i64 0)], none⟩])
 (AC.seq (AC.seq (AC.reg [
  ⟨(some 6), .mov, [.t 0], none⟩,
  ⟨(some 7), .len 1 0, [.t 6], none⟩,
  ⟨(some 8), .mov, [.c (.int .i64 0)], none⟩])
 (AC.block 0
  (AC.loop
   (AC.seq (AC.reg [
    ⟨(some 9), .bin .lss, [.t 8, .t 7], none⟩])
   (AC.seq (AC.cond (.t 9)
    AC.skip
    (AC.exit 0))
   (AC.seq (AC.block 1
    (AC.seq (AC.reg [
     ⟨(some 10), .mov, [.t 8], none⟩,
     ⟨(some 5), .mov, [.t 10], none⟩])
    (AC.seq (AC.reg [
     ⟨(some 11), .mov, [.t 1], none⟩,
     ⟨(some 12), .mov, [.t 0], none⟩,
     ⟨(some 13), .mov, [.t 5], none⟩,
     ⟨(some 14), .idxp 3, [.t 12, .t 13], none⟩,
     ⟨(some 15), .load true 3, [.t 14], none⟩,
     ⟨(some 16), .callv, [.t 11, .t 15], none⟩])
    (AC.cond (.t 16)
     (AC.seq (AC.reg [
      ⟨(some 17), .mov, [.t 5], none⟩,
      ⟨(some 4), .mov, [.t 17], none⟩])
     AC.ret)
     AC.skip))))
   (AC.reg [
    ⟨(some 18), .bin .add, [.t 8, .c (.int .i64 1)], none⟩,
    ⟨(some 8), .mov, [.t 18], none⟩])))))))
 (AC.seq (AC.reg [
  ⟨(some 4), .mov, [.c (.int .i64 (-1))], none⟩])
 AC.ret)))
def r132 : AC × List RT × Nat := (c132, [.tmp 4], 19)
theorem ok132e : compF Tryz.prog Tryz.f212 ⟨false, false, []⟩ = some r132 := by kernel_rfl
/- slices.IndexFunc[[][]uint16,[]uint16] -/
def c133 : AC := (AC.seq (AC.reg [
  ⟨(some 4), .mov, [.c (.int .i64 0)], none⟩])
 (AC.seq (AC.seq (AC.reg [
  ⟨(some 6), .mov, [.t 0], none⟩,
  ⟨(some 7), .len 1 0, [.t 6], none⟩,
  ⟨(some 8), .mov, [.c (.int .i64 0)], none⟩])
 (AC.block 0
  (AC.loop
   (AC.seq (AC.reg [
    ⟨(some 9), .bin .lss, [.t 8, .t 7], none⟩])
   (AC.seq (AC.cond (.t 9)
    AC.skip
    (AC.exit 0))
   (AC.seq (AC.block 1
    (AC.seq (AC.reg [
     ⟨(some 10), .mov, [.t 8], none⟩,
     ⟨(some 5), .mov, [.t 10], none⟩])
    (AC.seq (AC.reg [
     ⟨(some 11), .mov, [.t 1], none⟩,
     ⟨(some 12), .mov, [.t 0], none⟩,
     ⟨(some 13), .mov, [.t 5], none⟩,
     ⟨(some 14), .idxp 1, [.t 12, .t 13], none⟩,
     ⟨(some 15), .load false 1, [.t 14], none⟩,
     ⟨(some 16), .callv, [.t 11, .t 15], none⟩])
    (AC.cond (.t 16)
     (AC.seq (AC.reg [
      ⟨(some 17), .mov, [.t 5], none⟩,
      ⟨(some 4), .mov, [.t 17], none⟩])
     AC.ret)
     AC.skip))))
   (AC.reg [
    ⟨(some 18), .bin .add, [.t 8, .c (.int .i64 1)], none⟩,
    ⟨(some 8), .mov, [.t 18], none⟩])))))))
 (AC.seq (AC.reg [
  ⟨(some 4), .mov, [.c (.int .i64 (-1))], none⟩])
 AC.ret)))
def r133 : AC × List RT × Nat := (c133, [.tmp 4], 19)
theorem ok133e : compF Tryz.prog Tryz.f213 ⟨false, false, []⟩ = some r133 := by kernel_rfl
/- umpire/event.within -/
def c92 : AC := (AC.seq (AC.reg [
  ⟨(some 6), .mov, [.c (.bool false)], none⟩])
 (AC.seq (AC.reg [
  ⟨(some 7), .mov, [.t 0], none⟩,
  ⟨(some 8), .mov, [.t 1], none⟩,
  ⟨(some 9), .bin .geq, [.t 7, .t 8], none⟩,
  ⟨(some 10), .mov, [.t 9], none⟩,
  ⟨(some 11), .mov, [.t 0], (some (10, true))⟩,
  ⟨(some 12), .mov, [.t 2], (some (10, true))⟩,
  ⟨(some 13), .bin .leq, [.t 11, .t 12], (some (10, true))⟩,
  ⟨(some 14), .pick, [.t 10, .t 13, .c (.bool false)], none⟩,
  ⟨(some 6), .mov, [.t 14], none⟩])
 AC.ret))
def r92 : AC × List RT × Nat := (c92, [.tmp 6], 15)
theorem ok92e : compF Tryz.prog Tryz.f165 ⟨false, false, []⟩ = some r92 := by kernel_rfl
/- umpire/event.mayTxn$1 -/
def c108 : AC := (AC.seq (AC.reg [
  ⟨(some 1), .box, [.t 0], none⟩,
  ⟨(some 2), .mov, [.c (.bool false)], none⟩])
 (AC.seq (AC.reg [
  ⟨(some 3), .fld 1, [.t 1], none⟩,
  ⟨(some 4), .load false 1, [.t 3], none⟩,
  ⟨(some 5), .bin .geq, [.t 4, .c (.int .u8 8)], none⟩,
  ⟨(some 6), .mov, [.t 5], none⟩,
  ⟨(some 7), .fld 0, [.t 1], (some (6, false))⟩,
  ⟨(some 8), .load false 1, [.t 7], (some (6, false))⟩,
  ⟨(some 9), .mov, [.t 8], (some (6, false))⟩,
  ⟨(some 10), .fld 2, [.t 1], (some (9, true))⟩,
  ⟨(some 11), .load false 1, [.t 10], (some (9, true))⟩,
  ⟨(some 12), .bin .neq, [.t 11, .c (.int .u16 0)], (some (9, true))⟩,
  ⟨(some 13), .pick, [.t 9, .t 12, .c (.bool false)], (some (6, false))⟩,
  ⟨(some 14), .pick, [.t 6, .c (.bool true), .t 13], none⟩,
  ⟨(some 2), .mov, [.t 14], none⟩])
 AC.ret))
def r108 : AC × List RT × Nat := (c108, [.tmp 2], 15)
theorem ok108e : compF Tryz.prog Tryz.f181 ⟨false, false, []⟩ = some r108 := by kernel_rfl
/- umpire/event.mayReads$1 -/
def c110 : AC := (AC.seq (AC.reg [
  ⟨(some 2), .mov, [.c (.bool false)], none⟩])
 (AC.seq (AC.reg [
  ⟨(some 3), .mov, [.t 0], none⟩,
  ⟨(some 4), .len 1 0, [.t 3], none⟩,
  ⟨(some 5), .bin .gtr, [.t 4, .c (.int .i64 32)], none⟩,
  ⟨(some 2), .mov, [.t 5], none⟩])
 AC.ret))
def r110 : AC × List RT × Nat := (c110, [.tmp 2], 6)
theorem ok110e : compF Tryz.prog Tryz.f183 ⟨false, false, []⟩ = some r110 := by kernel_rfl
/- slices.ContainsFunc[[]umpire/api.Micro,umpire/api.Micro] -/
def c109 : AC := (AC.seq (AC.reg [
  ⟨(some 4), .mov, [.c (.bool false)], none⟩])
 (AC.seq (AC.reg [
  ⟨(some 5), .mov, [.t 0], none⟩,
  ⟨(some 6), .mov, [.t 1], none⟩,
  ⟨(some 7), .call 212, [.t 5, .t 6], none⟩,
  ⟨(some 8), .bin .geq, [.t 7, .c (.int .i64 0)], none⟩,
  ⟨(some 4), .mov, [.t 8], none⟩])
 AC.ret))
def r109 : AC × List RT × Nat := (c109, [.tmp 4], 9)
theorem ok109e : compF Tryz.prog Tryz.f182 ⟨false, false, []⟩ = some r109 := by kernel_rfl
/- slices.ContainsFunc[[][]uint16,[]uint16] -/
def c111 : AC := (AC.seq (AC.reg [
  ⟨(some 4), .mov, [.c (.bool false)], none⟩])
 (AC.seq (AC.reg [
  ⟨(some 5), .mov, [.t 0], none⟩,
  ⟨(some 6), .mov, [.t 1], none⟩,
  ⟨(some 7), .call 213, [.t 5, .t 6], none⟩,
  ⟨(some 8), .bin .geq, [.t 7, .c (.int .i64 0)], none⟩,
  ⟨(some 4), .mov, [.t 8], none⟩])
 AC.ret))
def r111 : AC × List RT × Nat := (c111, [.tmp 4], 9)
theorem ok111e : compF Tryz.prog Tryz.f184 ⟨false, false, []⟩ = some r111 := by kernel_rfl
variable {E : Env}
/-- Two lists of lists hold the same numbers. -/
def sameLs (a b : List (Option (List Int))) : Bool := decide (a.map nums = b.map nums)
theorem eqFunc_c (hP : E.P = Tryz.prog) (W : AW) {v v' : V} {l l' : List (Option (List Int))} (h : isLs v l) (h' : isLs v' l') (hl : l.length < 2 ^ 40) (hs : ∀ x ∈ l, (nums x).length < 2 ^ 40) :
    ACalls E 119 [v, v', .fn (.func 90) [] []] W fun X W' => X = .bool (sameLs l l') ∧ W' = W := by
  obtain ⟨xs, i1, i2, i3⟩ := h
  obtain ⟨ys, j1, j2, j3⟩ := h'
  refine ACalls.of hP Tryz.func119 ok51e (by simp) fun _ hok => ?_
  have f1 := i1.frz (W := W)
  by_cases hlen : l.length = l'.length
  · simp only [c51, BS, BC, e_seq, cond_if, ↓reduceIte, Nat.reduceEqDiff, reduceCtorEq, i1.len, j1.len, i2, j2, hlen, bne_self_eq_false]
    rw [e_loop]
    refine ALoop.go (B := awp E _) (fun h => awp_mono _ h) (fun (k : Nat) A1 W1 => A1 0 = some v ∧ A1 1 = some v' ∧ A1 2 = some (.fn (.func 90) [] []) ∧ A1 15 = some v ∧ A1 16 = some (.int .i64 l'.length) ∧ A1 17 = some (.int .i64 k) ∧ k ≤ l'.length ∧ W1 = W ∧ (l.map nums).take k = (l'.map nums).take k) (fun k => l'.length - k) 0
      ⟨rfl, rfl, rfl, rfl, rfl, rfl, Nat.zero_le _, rfl, rfl⟩ ?_
    rintro k A1 W1 ⟨g0, g1, g2, g15, g16, g17, gk, rfl, ge⟩ _
    by_cases hk1 : k < l'.length
    · have hk2 : k < l.length := by omega
      have e1 : xs[k]? = some (xs[k]'(by omega)) := List.getElem?_eq_getElem _
      have e2 : ys[k]? = some (ys[k]'(by omega)) := List.getElem?_eq_getElem _
      have t1 := (i3 k (by omega) hk2).isS
      have t2 := (j3 k (by omega) hk1).isS
      have n1 : k < (l.map nums).length := by simpa using hk2
      have n2 : k < (l'.map nums).length := by simpa using hk1
      simp (config := { maxSteps := 2000000 }) (disch := omega) only [BS, BC, e_seq, cond_if, ↓reduceIte, Nat.reduceEqDiff, BD, g1, g2, g15, g16, g17, clt, hk1, decide_true, i1.idx e1, j1.idx e2, t1.loadf, t2.loadf, t1.frz, t2.frz]
      refine pc (eqI_c hP W1 t1 t2 (hs _ (List.getElem_mem hk2))) ?_
      by_cases he : nums l[k] = nums l'[k]
      · simp (config := { maxSteps := 2000000 }) (disch := omega) only [BS, BC, cond_if, ↓reduceIte, Nat.reduceEqDiff, reduceCtorEq, BD, g0, g1, g2, g15, g16, g17, decide_eq_true he, wadd1]
        exact ⟨k + 1, ⟨(by first | trivial | rfl | omega), (by first | trivial | rfl | omega), (by first | trivial | rfl | omega), (by first | trivial | rfl | omega), (by first | trivial | rfl | omega), (by first | trivial | rfl | omega), (by first | trivial | rfl | omega), (by first | trivial | rfl | omega), take_ext ge n1 n2 (by simpa using he)⟩, by omega, Nat.le_refl _⟩
      · simp (config := { maxSteps := 2000000 }) (disch := omega) only [BS, BC, e_seq, cond_if, ↓reduceIte, BD, decide_eq_false he]
        refine ⟨_, rfl, _, _, .weak weak_id, Nat.le_refl _, ?_, rfl⟩
        have := ne_at n1 n2 (by simpa using he)
        simp [sameLs, this]
    · obtain rfl : k = l'.length := by omega
      simp only [BS, BC, e_seq, cond_if, ↓reduceIte, g16, g17, clt, hk1, decide_false]
      refine ⟨_, rfl, _, _, .weak weak_id, Nat.le_refl _, ?_, rfl⟩
      rw [List.take_of_length_le (by simp; omega), List.take_of_length_le (by simp)] at ge
      simp [sameLs, ge]
  · have hne : l.map nums ≠ l'.map nums := fun e => hlen (by have := congrArg List.length e; simpa using this)
    have hb : ((l.length : Int) != (l'.length : Int)) = true := by simp; omega
    simp only [c51, BS, BC, e_seq, cond_if, ↓reduceIte, Nat.reduceEqDiff, reduceCtorEq, i1.len, j1.len, i2, j2, hb]
    exact ⟨_, rfl, _, _, .weak weak_id, Nat.le_refl _, by simp [sameLs, hne], rfl⟩
/-- The first place where something holds, as a number. -/
def idxV {α : Type} (p : α → Bool) (l : List α) : Int := match l.findIdx? p with
  | some i => i
  | none => -1
theorem idxV_hit {α : Type} {p : α → Bool} {l : List α} {k : Nat} (h : k < l.length) (hp : p l[k] = true) (hb : ∀ i (hi : i < l.length), i < k → p l[i] = false) : idxV p l = k := by
  have : l.findIdx? p = some k := by
    rw [List.findIdx?_eq_some_iff_getElem]
    exact ⟨h, hp, fun i hi => by simp [hb i (by omega) hi]⟩
  simp [idxV, this]
theorem idxV_none {α : Type} {p : α → Bool} {l : List α} (hb : ∀ i (hi : i < l.length), p l[i] = false) : idxV p l = -1 := by
  have : l.findIdx? p = none := by
    rw [List.findIdx?_eq_none_iff]
    intro x hx
    obtain ⟨i, hi, rfl⟩ := List.mem_iff_getElem.1 hx
    exact hb i hi
  simp [idxV, this]
theorem idxV_ge {α : Type} {p : α → Bool} {l : List α} : decide (idxV p l ≥ 0) = l.any p := by
  cases h : l.findIdx? p with
  | none =>
    simp only [idxV, h]
    rw [List.findIdx?_eq_none_iff] at h
    have : l.any p = false := by simpa using h
    rw [this]; rfl
  | some i =>
    simp only [idxV, h]
    obtain ⟨h1, h2, _⟩ := List.findIdx?_eq_some_iff_getElem.1 h
    have : l.any p = true := List.any_eq_true.2 ⟨_, List.getElem_mem h1, h2⟩
    rw [this]
    simp
def badMi (m : Mi) : Bool := decide (m.key ≥ 8) || (m.read && decide (m.v ≠ 0))
theorem bad_c (hP : E.P = Tryz.prog) (W : AW) (m : Mi) : ACalls E 181 [m.V] W fun X W' => X = .bool (badMi m) ∧ W' = W := by
  refine ACalls.of hP Tryz.func181 ok108e (by simp) fun _ hok => ?_
  refine awp_start hok ?_
  obtain ⟨r, k, v⟩ := m
  by_cases h1 : k ≥ 8
  · simp only [c108, BS, BC, e_seq, guard_if, ↓reduceIte, Nat.reduceEqDiff, BM, BD, Mi.V, h1, decide_true]
    exact ⟨_, rfl, _, W, backX hok rfl, Nat.le_refl _, by simp [badMi, h1], rfl⟩
  · cases r <;> simp only [c108, BS, BC, e_seq, guard_if, ↓reduceIte, Nat.reduceEqDiff, BM, BD, Mi.V, h1, decide_false, cmpne]
    · exact ⟨_, rfl, _, W, backX hok rfl, Nat.le_refl _, by simp [badMi, h1], rfl⟩
    · exact ⟨_, rfl, _, W, backX hok rfl, Nat.le_refl _, by simp [badMi, h1], rfl⟩
theorem idxMi_c (hP : E.P = Tryz.prog) (W : AW) {v : V} {l : List Mi} (h : isMs v l) (hl : l.length < 2 ^ 40) :
    ACalls E 212 [v, .fn (.func 181) [] []] W fun X W' => X = .int .i64 (idxV badMi l) ∧ W' = W := by
  refine ACalls.of hP Tryz.func212 ok132e (by simp) fun _ hok => ?_
  simp only [c132, BS, BC, e_seq, ↓reduceIte, reduceCtorEq, h.len, List.length_map]
  rw [e_loop]
  refine ALoop.go (B := awp E _) (fun h => awp_mono _ h) (fun (k : Nat) A1 W1 => A1 0 = some v ∧ A1 1 = some (.fn (.func 181) [] []) ∧ A1 7 = some (.int .i64 l.length) ∧ A1 8 = some (.int .i64 k) ∧ k ≤ l.length ∧ W1 = W ∧ ∀ i (hi : i < l.length), i < k → badMi l[i] = false) (fun k => l.length - k) 0
    ⟨rfl, rfl, rfl, rfl, Nat.zero_le _, rfl, fun _ _ h => by omega⟩ ?_
  rintro k A1 W1 ⟨g0, g1, g7, g8, gk, rfl, ge⟩ _
  by_cases hk1 : k < l.length
  · simp (config := { maxSteps := 2000000 }) (disch := omega) only [BS, BC, e_seq, cond_if, ↓reduceIte, Nat.reduceEqDiff, reduceCtorEq, BD, g0, g1, g7, g8, clt, hk1, decide_true, h.idx (mi_at hk1), mi_load, mi_frz]
    refine pc (bad_c hP W1 _) ?_
    cases hb : badMi l[k]
    · simp (config := { maxSteps := 2000000 }) (disch := omega) only [BS, BC, cond_if, ↓reduceIte, Nat.reduceEqDiff, reduceCtorEq, g0, g1, g7, g8, wadd1]
      refine ⟨k + 1, ⟨(by first | trivial | rfl | omega), (by first | trivial | rfl | omega), (by first | trivial | rfl | omega), (by first | trivial | rfl | omega), (by first | trivial | rfl | omega), (by first | trivial | rfl | omega), fun i hi hk => ?_⟩, by omega, Nat.le_refl _⟩
      by_cases e : i = k
      · subst e; exact hb
      · exact ge i hi (by omega)
    · simp (config := { maxSteps := 2000000 }) (disch := omega) only [BS, BC, e_seq, cond_if, ↓reduceIte, Nat.reduceEqDiff]
      exact ⟨_, rfl, _, _, .weak weak_id, Nat.le_refl _, by rw [idxV_hit hk1 hb ge], rfl⟩
  · obtain rfl : k = l.length := by omega
    simp only [BS, BC, e_seq, cond_if, ↓reduceIte, g7, g8, clt, hk1, decide_false]
    exact ⟨_, rfl, _, _, .weak weak_id, Nat.le_refl _, by rw [idxV_none fun i hi => ge i hi hi], rfl⟩
theorem long_c (hP : E.P = Tryz.prog) (W : AW) {v : V} {o : Option (List Int)} (h : isEl v o) : ACalls E 183 [v] W fun X W' => X = .bool (decide ((nums o).length > 32)) ∧ W' = W := by
  refine ACalls.of hP Tryz.func183 ok110e (by simp) fun _ hok => ?_
  have h32 : decide (((nums o).length : Int) > 32) = decide ((nums o).length > 32) := by simp; omega
  simp only [c110, BS, BC, e_seq, ↓reduceIte, reduceCtorEq, h.isS.len, ints_len, h32]
  exact ⟨_, rfl, _, _, .weak weak_id, Nat.le_refl _, rfl, rfl⟩
def longL (o : Option (List Int)) : Bool := decide ((nums o).length > 32)
theorem idxLs_c (hP : E.P = Tryz.prog) (W : AW) {v : V} {l : List (Option (List Int))} (h : isLs v l) (hl : l.length < 2 ^ 40) :
    ACalls E 213 [v, .fn (.func 183) [] []] W fun X W' => X = .int .i64 (idxV longL l) ∧ W' = W := by
  obtain ⟨xs, i1, i2, i3⟩ := h
  refine ACalls.of hP Tryz.func213 ok133e (by simp) fun _ hok => ?_
  simp only [c133, BS, BC, e_seq, ↓reduceIte, reduceCtorEq, i1.len, i2]
  rw [e_loop]
  refine ALoop.go (B := awp E _) (fun h => awp_mono _ h) (fun (k : Nat) A1 W1 => A1 0 = some v ∧ A1 1 = some (.fn (.func 183) [] []) ∧ A1 7 = some (.int .i64 l.length) ∧ A1 8 = some (.int .i64 k) ∧ k ≤ l.length ∧ W1 = W ∧ ∀ i (hi : i < l.length), i < k → longL l[i] = false) (fun k => l.length - k) 0
    ⟨rfl, rfl, rfl, rfl, Nat.zero_le _, rfl, fun _ _ h => by omega⟩ ?_
  rintro k A1 W1 ⟨g0, g1, g7, g8, gk, rfl, ge⟩ _
  by_cases hk1 : k < l.length
  · have e1 : xs[k]? = some (xs[k]'(by omega)) := List.getElem?_eq_getElem _
    have t := i3 k (by omega) hk1
    simp (config := { maxSteps := 2000000 }) (disch := omega) only [BS, BC, e_seq, cond_if, ↓reduceIte, Nat.reduceEqDiff, reduceCtorEq, BD, g0, g1, g7, g8, clt, hk1, decide_true, i1.idx e1, t.isS.loadf, t.isS.frz]
    refine pc (long_c hP W1 t) ?_
    cases hb : longL l[k]
    · simp (config := { maxSteps := 2000000 }) (disch := omega) only [BS, BC, cond_if, ↓reduceIte, Nat.reduceEqDiff, reduceCtorEq, g0, g1, g7, g8, wadd1, show decide ((nums l[k]).length > 32) = false from hb]
      refine ⟨k + 1, ⟨(by first | trivial | rfl | omega), (by first | trivial | rfl | omega), (by first | trivial | rfl | omega), (by first | trivial | rfl | omega), (by first | trivial | rfl | omega), (by first | trivial | rfl | omega), fun i hi hk => ?_⟩, by omega, Nat.le_refl _⟩
      by_cases e : i = k
      · subst e; exact hb
      · exact ge i hi (by omega)
    · simp (config := { maxSteps := 2000000 }) (disch := omega) only [BS, BC, e_seq, cond_if, ↓reduceIte, Nat.reduceEqDiff, show decide ((nums l[k]).length > 32) = true from hb]
      exact ⟨_, rfl, _, _, .weak weak_id, Nat.le_refl _, by rw [idxV_hit hk1 hb ge], rfl⟩
  · obtain rfl : k = l.length := by omega
    simp only [BS, BC, e_seq, cond_if, ↓reduceIte, g7, g8, clt, hk1, decide_false]
    exact ⟨_, rfl, _, _, .weak weak_id, Nat.le_refl _, by rw [idxV_none fun i hi => ge i hi hi], rfl⟩
theorem anyMi_c (hP : E.P = Tryz.prog) (W : AW) {v : V} {l : List Mi} (h : isMs v l) (hl : l.length < 2 ^ 40) :
    ACalls E 182 [v, .fn (.func 181) [] []] W fun X W' => X = .bool (l.any badMi) ∧ W' = W := by
  refine ACalls.of hP Tryz.func182 ok109e (by simp) fun _ hok => ?_
  simp only [c109, BS, BC, e_seq, ↓reduceIte, Nat.reduceEqDiff, reduceCtorEq, h.frz]
  refine pc (idxMi_c hP W h hl) ?_
  simp only [BS, BC, ↓reduceIte, idxV_ge]
  exact ⟨_, rfl, _, _, .weak weak_id, Nat.le_refl _, rfl, rfl⟩
theorem anyLs_c (hP : E.P = Tryz.prog) (W : AW) {v : V} {l : List (Option (List Int))} (h : isLs v l) (hl : l.length < 2 ^ 40) :
    ACalls E 184 [v, .fn (.func 183) [] []] W fun X W' => X = .bool (l.any longL) ∧ W' = W := by
  have hs := h
  obtain ⟨xs, i1, _, _⟩ := hs
  refine ACalls.of hP Tryz.func184 ok111e (by simp) fun _ hok => ?_
  simp only [c111, BS, BC, e_seq, ↓reduceIte, Nat.reduceEqDiff, reduceCtorEq, i1.frz]
  refine pc (idxLs_c hP W h hl) ?_
  simp only [BS, BC, ↓reduceIte, idxV_ge]
  exact ⟨_, rfl, _, _, .weak weak_id, Nat.le_refl _, rfl, rfl⟩
theorem within_c (hP : E.P = Tryz.prog) (W : AW) (a b c : Int) : ACalls E 165 [.int .i64 a, .int .i64 b, .int .i64 c] W fun X W' => X = .bool (decide (b ≤ a) && decide (a ≤ c)) ∧ W' = W := by
  refine ACalls.of hP Tryz.func165 ok92e (by simp) fun _ hok => ?_
  by_cases h : a ≥ b
  · simp only [c92, BS, BC, e_seq, guard_if, ↓reduceIte, Nat.reduceEqDiff, reduceCtorEq, BD, decide_eq_true h]
    exact ⟨_, rfl, _, _, .weak weak_id, Nat.le_refl _, by simp, rfl⟩
  · simp only [c92, BS, BC, e_seq, guard_if, ↓reduceIte, Nat.reduceEqDiff, reduceCtorEq, BM, decide_eq_false h]
    exact ⟨_, rfl, _, _, .weak weak_id, Nat.le_refl _, by simp, rfl⟩
end Go.AL.S
set_option maxRecDepth 100000
namespace Go.AL.S
open Go Go.AL Go.Proofs
/- umpire/event.of -/
def c42 : AC := (AC.seq (AC.reg [
  ⟨(some 2), .alloc [.nilfn, .nilfn, .nilfn, .nilfn], [], none⟩,
  ⟨(some 3), .mov, [.c (.bool false)], none⟩])
 (AC.seq (AC.seq (AC.reg [
  ⟨(some 4), .mov, [.t 0], none⟩,
  ⟨(some 5), .bin .lss, [.t 4, .c (.int .u8 1)], none⟩,
  ⟨(some 6), .mov, [.t 5], none⟩,
  ⟨(some 7), .mov, [.t 0], (some (6, false))⟩,
  ⟨(some 8), .bin .gtr, [.t 7, .c (.int .u8 7)], (some (6, false))⟩,
  ⟨(some 9), .pick, [.t 6, .c (.bool true), .t 8], none⟩])
 (AC.cond (.t 9)
  (AC.seq (AC.reg [
   ⟨(some 10), .build [.nilfn, .nilfn, .nilfn, .nilfn] [], [], none⟩,
   ⟨none, .store 4, [.t 2, .t 10], none⟩,
   ⟨(some 3), .mov, [.c (.bool false)], none⟩])
  AC.ret)
  AC.skip))
 (AC.seq (AC.reg [
  ⟨(some 11), .call 117, [], none⟩,
  ⟨(some 12), .mov, [.t 0], none⟩,
  ⟨(some 13), .idxv 8 4 true, [.t 11, .t 12], none⟩,
  ⟨none, .store 4, [.t 2, .t 13], none⟩,
  ⟨(some 3), .mov, [.c (.bool true)], none⟩])
 AC.ret)))
def r42 : AC × List RT × Nat := (c42, [.cell 2 true 4, .tmp 3], 14)
theorem ok42e : compF Tryz.prog Tryz.f100 ⟨false, false, []⟩ = some r42 := by kernel_rfl
/- umpire/event.kinds -/
def c49 : AC := (AC.seq (AC.reg [
  ⟨(some 0), .alloc [.nilfn, .nilfn, .nilfn, .nilfn, .nilfn, .nilfn, .nilfn, .nilfn, .nilfn, .nilfn, .nilfn, .nilfn, .nilfn, .nilfn, .nilfn, .nilfn, .nilfn, .nilfn, .nilfn, .nilfn, .nilfn, .nilfn, .nilfn, .nilfn, .nilfn, .nilfn, .nilfn, .nilfn, .nilfn, .nilfn, .nilfn, .nilfn], [], none⟩])
 (AC.seq (AC.reg [
  ⟨(some 1), .build [.nilfn, .nilfn, .nilfn, .nilfn] [(0, 1), (1, 1), (2, 1), (3, 1)], [.f 129, .f 130, .f 131, .f 132], none⟩,
  ⟨(some 2), .build [.nilfn, .nilfn, .nilfn, .nilfn] [(0, 1), (1, 1), (2, 1), (3, 1)], [.f 133, .f 134, .f 135, .f 136], none⟩,
  ⟨(some 3), .build [.nilfn, .nilfn, .nilfn, .nilfn] [(0, 1), (1, 1), (2, 1), (3, 1)], [.f 137, .f 138, .f 139, .f 140], none⟩,
  ⟨(some 4), .build [.nilfn, .nilfn, .nilfn, .nilfn] [(0, 1), (1, 1), (2, 1), (3, 1)], [.f 141, .f 142, .f 143, .f 144], none⟩,
  ⟨(some 5), .build [.nilfn, .nilfn, .nilfn, .nilfn] [(0, 1), (1, 1), (2, 1), (3, 1)], [.f 145, .f 146, .f 147, .f 148], none⟩,
  ⟨(some 6), .build [.nilfn, .nilfn, .nilfn, .nilfn] [(0, 1), (1, 1), (2, 1), (3, 1)], [.f 149, .f 150, .f 151, .f 152], none⟩,
  ⟨(some 7), .build [.nilfn, .nilfn, .nilfn, .nilfn] [(0, 1), (1, 1), (2, 1), (3, 1)], [.f 141, .f 142, .f 143, .f 144], none⟩,
  ⟨(some 8), .build [.nilfn, .nilfn, .nilfn, .nilfn, .nilfn, .nilfn, .nilfn, .nilfn, .nilfn, .nilfn, .nilfn, .nilfn, .nilfn, .nilfn, .nilfn, .nilfn, .nilfn, .nilfn, .nilfn, .nilfn, .nilfn, .nilfn, .nilfn, .nilfn, .nilfn, .nilfn, .nilfn, .nilfn, .nilfn, .nilfn, .nilfn, .nilfn] [(4, 4), (8, 4), (12, 4), (16, 4), (20, 4), (24, 4), (28, 4)], [.t 1, .t 2, .t 3, .t 4, .t 5, .t 6, .t 7], none⟩,
  ⟨none, .store 32, [.t 0, .t 8], none⟩])
 AC.ret))
def r49 : AC × List RT × Nat := (c49, [.cell 0 true 32], 9)
theorem ok49e : compF Tryz.prog Tryz.f117 ⟨false, false, []⟩ = some r49 := by kernel_rfl
/- umpire/event.begun -/
def c73 : AC := (AC.seq (AC.reg [
  ⟨(some 1), .box, [.t 0], none⟩,
  ⟨(some 2), .alloc [.int .u8 0, .int .u8 0, .int .u16 0, .int .u8 0, .int .u8 0, .int .u8 0, .int .u16 0, .int .u16 0, .int .u8 0, .int .u16 0, .nilsl, .nilsl, .int .u8 0, .int .i64 0, .int .i64 0, .int .i64 0, .bool false, .bool false, .bool false], [], none⟩])
 (AC.seq (AC.reg [
  ⟨(some 3), .fld 10, [.t 1], none⟩,
  ⟨(some 4), .load false 1, [.t 3], none⟩,
  ⟨(some 5), .build [.int .u8 0, .int .u8 0, .int .u16 0, .int .u8 0, .int .u8 0, .int .u8 0, .int .u16 0, .int .u16 0, .int .u8 0, .int .u16 0, .nilsl, .nilsl, .int .u8 0, .int .i64 0, .int .i64 0, .int .i64 0, .bool false, .bool false, .bool false] [(10, 1)], [.t 4], none⟩,
  ⟨none, .store 19, [.t 2, .t 5], none⟩])
 AC.ret))
def r73 : AC × List RT × Nat := (c73, [.cell 2 true 19], 6)
theorem ok73e : compF Tryz.prog Tryz.f145 ⟨false, false, []⟩ = some r73 := by kernel_rfl
/- umpire/event.committed -/
def c77 : AC := (AC.seq (AC.reg [
  ⟨(some 1), .box, [.t 0], none⟩,
  ⟨(some 2), .alloc [.int .u8 0, .int .u8 0, .int .u16 0, .int .u8 0, .int .u8 0, .int .u8 0, .int .u16 0, .int .u16 0, .int .u8 0, .int .u16 0, .nilsl, .nilsl, .int .u8 0, .int .i64 0, .int .i64 0, .int .i64 0, .bool false, .bool false, .bool false], [], none⟩])
 (AC.seq (AC.reg [
  ⟨(some 3), .fld 11, [.t 1], none⟩,
  ⟨(some 4), .load false 1, [.t 3], none⟩,
  ⟨(some 5), .build [.int .u8 0, .int .u8 0, .int .u16 0, .int .u8 0, .int .u8 0, .int .u8 0, .int .u16 0, .int .u16 0, .int .u8 0, .int .u16 0, .nilsl, .nilsl, .int .u8 0, .int .i64 0, .int .i64 0, .int .i64 0, .bool false, .bool false, .bool false] [(11, 1)], [.t 4], none⟩,
  ⟨none, .store 19, [.t 2, .t 5], none⟩])
 AC.ret))
def r77 : AC × List RT × Nat := (c77, [.cell 2 true 19], 6)
theorem ok77e : compF Tryz.prog Tryz.f149 ⟨false, false, []⟩ = some r77 := by kernel_rfl
/- umpire/event.mayTxn -/
def c74 : AC := (AC.seq (AC.reg [
  ⟨(some 1), .box, [.t 0], none⟩,
  ⟨(some 2), .mov, [.c (.bool false)], none⟩])
 (AC.seq (AC.reg [
  ⟨(some 3), .mov, [.f 181], none⟩])
 (AC.seq (AC.reg [
  ⟨(some 4), .fld 10, [.t 1], none⟩,
  ⟨(some 5), .load false 1, [.t 4], none⟩,
  ⟨(some 6), .len 1 0, [.t 5], none⟩,
  ⟨(some 7), .call 165, [.t 6, .c (.int .i64 1), .c (.int .i64 8)], none⟩,
  ⟨(some 8), .mov, [.t 7], none⟩,
  ⟨(some 9), .fld 10, [.t 1], (some (8, true))⟩,
  ⟨(some 10), .load false 1, [.t 9], (some (8, true))⟩,
  ⟨(some 11), .mov, [.t 3], (some (8, true))⟩,
  ⟨(some 12), .call 182, [.t 10, .t 11], (some (8, true))⟩,
  ⟨(some 13), .un .not, [.t 12], (some (8, true))⟩,
  ⟨(some 14), .pick, [.t 8, .t 13, .c (.bool false)], none⟩,
  ⟨(some 2), .mov, [.t 14], none⟩])
 AC.ret)))
def r74 : AC × List RT × Nat := (c74, [.tmp 2], 15)
theorem ok74e : compF Tryz.prog Tryz.f146 ⟨false, false, []⟩ = some r74 := by kernel_rfl
/- umpire/event.mayReads -/
def c78 : AC := (AC.seq (AC.reg [
  ⟨(some 1), .box, [.t 0], none⟩,
  ⟨(some 2), .mov, [.c (.bool false)], none⟩])
 (AC.seq (AC.reg [
  ⟨(some 3), .mov, [.f 183], none⟩])
 (AC.seq (AC.reg [
  ⟨(some 4), .fld 11, [.t 1], none⟩,
  ⟨(some 5), .load false 1, [.t 4], none⟩,
  ⟨(some 6), .len 1 0, [.t 5], none⟩,
  ⟨(some 7), .bin .leq, [.t 6, .c (.int .i64 8)], none⟩,
  ⟨(some 8), .mov, [.t 7], none⟩,
  ⟨(some 9), .fld 11, [.t 1], (some (8, true))⟩,
  ⟨(some 10), .load false 1, [.t 9], (some (8, true))⟩,
  ⟨(some 11), .mov, [.t 3], (some (8, true))⟩,
  ⟨(some 12), .call 184, [.t 10, .t 11], (some (8, true))⟩,
  ⟨(some 13), .un .not, [.t 12], (some (8, true))⟩,
  ⟨(some 14), .pick, [.t 8, .t 13, .c (.bool false)], none⟩,
  ⟨(some 2), .mov, [.t 14], none⟩])
 AC.ret)))
def r78 : AC × List RT × Nat := (c78, [.tmp 2], 15)
theorem ok78e : compF Tryz.prog Tryz.f150 ⟨false, false, []⟩ = some r78 := by kernel_rfl
/- umpire/event.Same -/
def c43 : AC := (AC.seq (AC.reg [
  ⟨(some 2), .box, [.t 0], none⟩,
  ⟨(some 3), .box, [.t 1], none⟩,
  ⟨(some 4), .mov, [.c (.bool false)], none⟩])
 (AC.seq (AC.reg [
  ⟨(some 5), .fld 0, [.t 2], none⟩,
  ⟨(some 6), .load false 1, [.t 5], none⟩,
  ⟨(some 7), .fld 0, [.t 3], none⟩,
  ⟨(some 8), .load false 1, [.t 7], none⟩,
  ⟨(some 9), .bin .eql, [.t 6, .t 8], none⟩,
  ⟨(some 10), .mov, [.t 9], none⟩,
  ⟨(some 11), .fld 1, [.t 2], (some (10, true))⟩,
  ⟨(some 12), .load false 1, [.t 11], (some (10, true))⟩,
  ⟨(some 13), .fld 1, [.t 3], (some (10, true))⟩,
  ⟨(some 14), .load false 1, [.t 13], (some (10, true))⟩,
  ⟨(some 15), .bin .eql, [.t 12, .t 14], (some (10, true))⟩,
  ⟨(some 16), .pick, [.t 10, .t 15, .c (.bool false)], none⟩,
  ⟨(some 17), .mov, [.t 16], none⟩,
  ⟨(some 18), .fld 2, [.t 2], (some (17, true))⟩,
  ⟨(some 19), .load false 1, [.t 18], (some (17, true))⟩,
  ⟨(some 20), .fld 2, [.t 3], (some (17, true))⟩,
  ⟨(some 21), .load false 1, [.t 20], (some (17, true))⟩,
  ⟨(some 22), .bin .eql, [.t 19, .t 21], (some (17, true))⟩,
  ⟨(some 23), .pick, [.t 17, .t 22, .c (.bool false)], none⟩,
  ⟨(some 24), .mov, [.t 23], none⟩,
  ⟨(some 25), .fld 3, [.t 2], (some (24, true))⟩,
  ⟨(some 26), .load true 5, [.t 25], (some (24, true))⟩,
  ⟨(some 27), .fld 3, [.t 3], (some (24, true))⟩,
  ⟨(some 28), .load true 5, [.t 27], (some (24, true))⟩,
  ⟨(some 29), .eqv false (true, [.i .u8, .i .u8, .i .u8, .i .u16, .i .u16]), [.t 26, .t 28], (some (24, true))⟩,
  ⟨(some 30), .pick, [.t 24, .t 29, .c (.bool false)], none⟩,
  ⟨(some 31), .mov, [.t 30], none⟩,
  ⟨(some 32), .fld 8, [.t 2], (some (31, true))⟩,
  ⟨(some 33), .load true 2, [.t 32], (some (31, true))⟩,
  ⟨(some 34), .fld 8, [.t 3], (some (31, true))⟩,
  ⟨(some 35), .load true 2, [.t 34], (some (31, true))⟩,
  ⟨(some 36), .eqv false (true, [.i .u8, .i .u16]), [.t 33, .t 35], (some (31, true))⟩,
  ⟨(some 37), .pick, [.t 31, .t 36, .c (.bool false)], none⟩,
  ⟨(some 38), .mov, [.t 37], none⟩,
  ⟨(some 39), .fld 10, [.t 2], (some (38, true))⟩,
  ⟨(some 40), .load false 1, [.t 39], (some (38, true))⟩,
  ⟨(some 41), .fld 10, [.t 3], (some (38, true))⟩,
  ⟨(some 42), .load false 1, [.t 41], (some (38, true))⟩,
  ⟨(some 43), .call 118, [.t 40, .t 42], (some (38, true))⟩,
  ⟨(some 44), .pick, [.t 38, .t 43, .c (.bool false)], none⟩,
  ⟨(some 45), .mov, [.t 44], none⟩,
  ⟨(some 46), .fld 11, [.t 2], (some (45, true))⟩,
  ⟨(some 47), .load false 1, [.t 46], (some (45, true))⟩,
  ⟨(some 48), .fld 11, [.t 3], (some (45, true))⟩,
  ⟨(some 49), .load false 1, [.t 48], (some (45, true))⟩,
  ⟨(some 50), .call 119, [.t 47, .t 49, .f 90], (some (45, true))⟩,
  ⟨(some 51), .pick, [.t 45, .t 50, .c (.bool false)], none⟩,
  ⟨(some 52), .mov, [.t 51], none⟩,
  ⟨(some 53), .fld 12, [.t 2], (some (52, true))⟩,
  ⟨(some 54), .load true 7, [.t 53], (some (52, true))⟩,
  ⟨(some 55), .fld 12, [.t 3], (some (52, true))⟩,
  ⟨(some 56), .load true 7, [.t 55], (some (52, true))⟩,
  ⟨(some 57), .eqv false (true, [.i .u8, .i .i64, .i .i64, .i .i64, .b, .b, .b]), [.t 54, .t 56], (some (52, true))⟩,
  ⟨(some 58), .pick, [.t 52, .t 57, .c (.bool false)], none⟩,
  ⟨(some 4), .mov, [.t 58], none⟩])
 AC.ret))
def r43 : AC × List RT × Nat := (c43, [.tmp 4], 59)
theorem ok43e : compF Tryz.prog Tryz.f101 ⟨false, false, []⟩ = some r43 := by kernel_rfl
/- umpire/event.Check -/
def c27 : AC := (AC.seq (AC.reg [
  ⟨(some 1), .box, [.t 0], none⟩,
  ⟨(some 2), .mov, [.c (.int .i64 0)], none⟩])
 (AC.seq (AC.reg [
  ⟨(some 7), .fld 0, [.t 1], none⟩,
  ⟨(some 8), .load false 1, [.t 7], none⟩,
  ⟨(some 9), .call 100, [.t 8], none⟩,
  ⟨(some 6), .mov, [.t 9], none⟩,
  ⟨(some 10), .ext 0, [.t 6], none⟩,
  ⟨(some 11), .ext 1, [.t 6], none⟩,
  ⟨(some 3), .alloc [.nilfn, .nilfn, .nilfn, .nilfn], [], none⟩,
  ⟨none, .store 4, [.t 3, .t 10], none⟩,
  ⟨(some 4), .mov, [.t 11], none⟩])
 (AC.seq (AC.seq (AC.reg [
  ⟨(some 12), .mov, [.t 4], none⟩,
  ⟨(some 13), .un .not, [.t 12], none⟩,
  ⟨(some 14), .mov, [.t 13], none⟩,
  ⟨(some 15), .fld 1, [.t 3], (some (14, false))⟩,
  ⟨(some 16), .load false 1, [.t 15], (some (14, false))⟩,
  ⟨(some 17), .load true 19, [.t 1], (some (14, false))⟩,
  ⟨(some 18), .callv, [.t 16, .t 17], (some (14, false))⟩,
  ⟨(some 19), .un .not, [.t 18], (some (14, false))⟩,
  ⟨(some 20), .pick, [.t 14, .c (.bool true), .t 19], none⟩,
  ⟨(some 21), .mov, [.t 20], none⟩,
  ⟨(some 22), .fld 1, [.t 1], (some (21, false))⟩,
  ⟨(some 23), .load false 1, [.t 22], (some (21, false))⟩,
  ⟨(some 24), .bin .geq, [.t 23, .c (.int .u8 16)], (some (21, false))⟩,
  ⟨(some 25), .pick, [.t 21, .c (.bool true), .t 24], none⟩])
 (AC.cond (.t 25)
  (AC.seq (AC.reg [
   ⟨(some 2), .mov, [.c (.int .i64 4)], none⟩])
  AC.ret)
  AC.skip))
 (AC.seq (AC.reg [
  ⟨(some 26), .fld 0, [.t 3], none⟩,
  ⟨(some 27), .load false 1, [.t 26], none⟩,
  ⟨(some 28), .load true 19, [.t 1], none⟩,
  ⟨(some 29), .callv, [.t 27, .t 28], none⟩,
  ⟨(some 5), .alloc [.int .u8 0, .int .u8 0, .int .u16 0, .int .u8 0, .int .u8 0, .int .u8 0, .int .u16 0, .int .u16 0, .int .u8 0, .int .u16 0, .nilsl, .nilsl, .int .u8 0, .int .i64 0, .int .i64 0, .int .i64 0, .bool false, .bool false, .bool false], [], none⟩,
  ⟨none, .store 19, [.t 5, .t 29], none⟩])
 (AC.seq (AC.reg [
  ⟨(some 30), .fld 0, [.t 1], none⟩,
  ⟨(some 31), .load false 1, [.t 30], none⟩,
  ⟨(some 32), .fld 0, [.t 5], none⟩,
  ⟨none, .store 1, [.t 32, .t 31], none⟩])
 (AC.seq (AC.seq (AC.reg [
  ⟨(some 33), .fld 0, [.t 1], none⟩,
  ⟨(some 34), .load false 1, [.t 33], none⟩,
  ⟨(some 35), .bin .neq, [.t 34, .c (.int .u8 1)], none⟩])
 (AC.cond (.t 35)
  (AC.par
   (PT.step 0 ⟨(some 36), .fld 1, [.t 1], none⟩
   (PT.step 2 ⟨(some 38), .fld 2, [.t 1], none⟩
   (PT.step 1 ⟨(some 37), .load false 1, [.t 36], none⟩
   (PT.step 4 ⟨(some 40), .fld 1, [.t 5], none⟩
   (PT.alt
    (PT.step 3 ⟨(some 39), .load false 1, [.t 38], none⟩
    (PT.step 5 ⟨none, .store 1, [.t 40, .t 37], none⟩
    (PT.step 6 ⟨(some 41), .fld 2, [.t 5], none⟩
    (PT.step 7 ⟨none, .store 1, [.t 41, .t 39], none⟩
    PT.done))))
    (PT.step 5 ⟨none, .store 1, [.t 40, .t 37], none⟩
    (PT.step 3 ⟨(some 39), .load false 1, [.t 38], none⟩
    (PT.step 6 ⟨(some 41), .fld 2, [.t 5], none⟩
    (PT.step 7 ⟨none, .store 1, [.t 41, .t 39], none⟩
    PT.done))))))))))
  AC.skip))
 (AC.seq (AC.seq (AC.reg [
  ⟨(some 42), .load true 19, [.t 1], none⟩,
  ⟨(some 43), .load true 19, [.t 5], none⟩,
  ⟨(some 44), .call 101, [.t 42, .t 43], none⟩,
  ⟨(some 45), .un .not, [.t 44], none⟩])
 (AC.cond (.t 45)
  (AC.seq (AC.reg [
   ⟨(some 2), .mov, [.c (.int .i64 4)], none⟩])
  AC.ret)
  AC.skip))
 (AC.seq (AC.reg [
  ⟨(some 2), .mov, [.c (.int .i64 0)], none⟩])
 AC.ret))))))))
def r27 : AC × List RT × Nat := (c27, [.tmp 2], 46)
theorem ok27e : compF Tryz.prog Tryz.f73 ⟨false, false, []⟩ = some r27 := by kernel_rfl
variable {E : Env}
def evV (kind client id : Int) (t r : V) : V := .agg [.int .u8 kind, .int .u8 client, .int .u16 id, .int .u8 0, .int .u8 0, .int .u8 0, .int .u16 0, .int .u16 0, .int .u8 0, .int .u16 0, t, r, .int .u8 0, .int .i64 0, .int .i64 0, .int .i64 0, .bool false, .bool false, .bool false]
theorem m_idxv {W : AW} {K : V → AW → Prop} {n s : Nat} {g : Bool} {cs : List V} {k : IntKind} {i : Int} : sem E (.idxv n s g) [.agg cs, .int k i] W K = if 0 ≤ i ∧ i < n then optK (partV cs (i.toNat * s) s g) (fun v => K v W) else False := by
  by_cases h : 0 ≤ i ∧ i < n
  · simp only [sem, rsem, tsem, h, if_true, and_self]
    cases partV cs (i.toNat * s) s g <;> rfl
  · simp only [sem, rsem, tsem, h, if_false]
def kindB : V := .agg [.fn (.func 145) [] [], .fn (.func 146) [] [], .fn (.func 147) [] [], .fn (.func 148) [] []]
def kindC : V := .agg [.fn (.func 149) [] [], .fn (.func 150) [] [], .fn (.func 151) [] [], .fn (.func 152) [] []]
def kindsL : List V := [.nilfn, .nilfn, .nilfn, .nilfn, .fn (.func 129) [] [], .fn (.func 130) [] [], .fn (.func 131) [] [], .fn (.func 132) [] [], .fn (.func 133) [] [], .fn (.func 134) [] [], .fn (.func 135) [] [], .fn (.func 136) [] [], .fn (.func 137) [] [], .fn (.func 138) [] [], .fn (.func 139) [] [], .fn (.func 140) [] [], .fn (.func 141) [] [], .fn (.func 142) [] [], .fn (.func 143) [] [], .fn (.func 144) [] [], .fn (.func 145) [] [], .fn (.func 146) [] [], .fn (.func 147) [] [], .fn (.func 148) [] [], .fn (.func 149) [] [], .fn (.func 150) [] [], .fn (.func 151) [] [], .fn (.func 152) [] [], .fn (.func 141) [] [], .fn (.func 142) [] [], .fn (.func 143) [] [], .fn (.func 144) [] []]
theorem kinds_c (hP : E.P = Tryz.prog) (W : AW) : ACalls E 117 [] W fun X W' => X = .agg kindsL ∧ W' = W := by
  refine ACalls.of hP Tryz.func117 ok49e (by simp) fun _ hok => ?_
  refine awp_start hok ?_
  simp only [c49, BS, BC, e_seq, ↓reduceIte, Nat.reduceEqDiff, reduceCtorEq, BM, BD, Nat.reduceAdd, Nat.reduceLeDiff, Nat.reduceLT]
  exact ⟨_, rfl, _, W, backX hok rfl, Nat.le_refl _, rfl, rfl⟩
theorem of_c (hP : E.P = Tryz.prog) (W : AW) (k : Int) (hk : k = 5 ∨ k = 6) : ACalls E 100 [.int .u8 k] W fun X W' => X = .tuple [if k = 5 then kindB else kindC, .bool true] ∧ W' = W := by
  refine ACalls.of hP Tryz.func100 ok42e (by simp) fun _ hok => ?_
  refine awp_start hok ?_
  have h1 : decide (k < 1) = false := by simp; omega
  have h2 : decide (k > 7) = false := by simp; omega
  simp only [c42, BS, BC, e_seq, cond_if, guard_if, ↓reduceIte, Nat.reduceEqDiff, reduceCtorEq, BM, BD, h1, h2]
  refine pc (kinds_c hP _) ?_
  have e5 : partV kindsL (k.toNat * 4) 4 true = some (if k = 5 then kindB else kindC) := by
    rcases hk with rfl | rfl <;> rfl
  have h3 : (0 ≤ k ∧ k < ((8 : Nat) : Int)) = True := by simp; omega
  simp only [BS, BC, ↓reduceIte, Nat.reduceEqDiff, reduceCtorEq, BM, BD, Nat.reduceAdd, Nat.reduceLeDiff, Nat.reduceLT, m_idxv, h3, e5]
  rcases hk with rfl | rfl
  · simp only [BS, BC, ↓reduceIte, BM, BD, Nat.reduceAdd, Nat.reduceLeDiff, kindB]
    exact ⟨_, rfl, _, W, backX hok rfl, Nat.le_refl _, rfl, rfl⟩
  · simp only [BS, BC, ↓reduceIte, BM, BD, Nat.reduceAdd, Nat.reduceLeDiff, kindC, show ((6 : Int) = 5) = False by simp]
    exact ⟨_, rfl, _, W, backX hok rfl, Nat.le_refl _, rfl, rfl⟩
theorem begun_c (hP : E.P = Tryz.prog) (W : AW) (k c i : Int) {t r : V} {l : List Mi} {s : List V} (h : isMs t l) (_ : isS 1 r s) : ACalls E 145 [evV k c i t r] W fun X W' => X = evV 0 0 0 t .nilsl ∧ W' = W := by
  refine ACalls.of hP Tryz.func145 ok73e (by simp) fun _ hok => ?_
  refine awp_start hok ?_
  simp only [c73, BS, BC, e_seq, ↓reduceIte, Nat.reduceEqDiff, BM, BD, Nat.reduceAdd, Nat.reduceLeDiff, Nat.reduceLT, evV, h.cells, h.one]
  refine ⟨_, rfl, _, W, backX hok ?_, Nat.le_refl _, rfl, rfl⟩
  simp only [V.bel, V.belL, h.lens (belL_mi l _), Bool.and_true]
theorem committed_c (hP : E.P = Tryz.prog) (W : AW) (k c i : Int) {t r : V} {l : List Mi} {s : List V} (_ : isMs t l) (hr : isS 1 r s) (hb : V.belL W.nx s = true) : ACalls E 149 [evV k c i t r] W fun X W' => X = evV 0 0 0 .nilsl r ∧ W' = W := by
  refine ACalls.of hP Tryz.func149 ok77e (by simp) fun _ hok => ?_
  refine awp_start hok ?_
  simp only [c77, BS, BC, e_seq, ↓reduceIte, Nat.reduceEqDiff, BM, BD, Nat.reduceAdd, Nat.reduceLeDiff, Nat.reduceLT, evV, hr.cells, hr.one]
  refine ⟨_, rfl, _, W, backX hok ?_, Nat.le_refl _, rfl, rfl⟩
  simp only [V.bel, V.belL, hr.lens hb, Bool.and_true]
theorem mayTxn_c (hP : E.P = Tryz.prog) (W : AW) (k c i : Int) {t r : V} {l : List Mi} {s : List V} (h : isMs t l) (_ : isS 1 r s) (hl : l.length < 2 ^ 40) : ACalls E 146 [evV k c i t r] W fun X W' => X = .bool (decide (1 ≤ l.length) && decide (l.length ≤ 8) && !l.any badMi) ∧ W' = W := by
  refine ACalls.of hP Tryz.func146 ok74e (by simp) fun _ hok => ?_
  refine awp_start hok ?_
  have e1 : decide ((1 : Int) ≤ (l.length : Int)) = decide (1 ≤ l.length) := by simp; omega
  have e2 : decide ((l.length : Int) ≤ 8) = decide (l.length ≤ 8) := by simp; omega
  simp only [c74, BS, BC, e_seq, ↓reduceIte, Nat.reduceEqDiff, BM, BD, evV, h.len, List.length_map]
  refine pc (within_c hP _ _ _ _) ?_
  cases hb : decide (1 ≤ l.length) && decide (l.length ≤ 8) with
  | false =>
    simp only [BS, BC, guard_if, ↓reduceIte, Nat.reduceEqDiff, BM, e1, e2, hb]
    exact ⟨_, rfl, _, W, backX hok rfl, Nat.le_refl _, by simp, rfl⟩
  | true =>
    simp only [BS, BC, guard_if, ↓reduceIte, Nat.reduceEqDiff, BM, BD, e1, e2, hb, h.frz]
    refine pc (anyMi_c hP _ h hl) ?_
    simp only [BS, BC, guard_if, ↓reduceIte, Nat.reduceEqDiff]
    exact ⟨_, rfl, _, W, backX hok rfl, Nat.le_refl _, by simp, rfl⟩
theorem mayReads_c (hP : E.P = Tryz.prog) (W : AW) (k c i : Int) {t r : V} {l : List Mi} {ls : List (Option (List Int))} (_ : isMs t l) (hr : isLs r ls) (hl : ls.length < 2 ^ 40) : ACalls E 150 [evV k c i t r] W fun X W' => X = .bool (decide (ls.length ≤ 8) && !ls.any longL) ∧ W' = W := by
  obtain ⟨xs, i1, i2, _⟩ := id hr
  refine ACalls.of hP Tryz.func150 ok78e (by simp) fun _ hok => ?_
  refine awp_start hok ?_
  have e2 : decide ((ls.length : Int) ≤ 8) = decide (ls.length ≤ 8) := by simp; omega
  cases hb : decide (ls.length ≤ 8) with
  | false =>
    simp only [c78, BS, BC, e_seq, guard_if, ↓reduceIte, Nat.reduceEqDiff, BM, BD, evV, i1.len, i2, e2, hb]
    exact ⟨_, rfl, _, W, backX hok rfl, Nat.le_refl _, by simp, rfl⟩
  | true =>
    simp only [c78, BS, BC, e_seq, guard_if, ↓reduceIte, Nat.reduceEqDiff, BM, BD, evV, i1.len, i2, e2, hb, i1.frz]
    refine pc (anyLs_c hP _ hr hl) ?_
    simp only [BS, BC, guard_if, ↓reduceIte, Nat.reduceEqDiff]
    exact ⟨_, rfl, _, W, backX hok rfl, Nat.le_refl _, by simp, rfl⟩
theorem eqv_op {W : AW} {K : V → AW → Prop} : sem E (.eqv false (true, [.i .u8, .i .u8, .i .u8, .i .u16, .i .u16])) [.agg [.int .u8 0, .int .u8 0, .int .u8 0, .int .u16 0, .int .u16 0], .agg [.int .u8 0, .int .u8 0, .int .u8 0, .int .u16 0, .int .u16 0]] W K = K (.bool true) W := id rfl
theorem eqv_res {W : AW} {K : V → AW → Prop} : sem E (.eqv false (true, [.i .u8, .i .u16])) [.agg [.int .u8 0, .int .u16 0], .agg [.int .u8 0, .int .u16 0]] W K = K (.bool true) W := id rfl
theorem eqv_cf {W : AW} {K : V → AW → Prop} : sem E (.eqv false (true, [.i .u8, .i .i64, .i .i64, .i .i64, .b, .b, .b])) [.agg [.int .u8 0, .int .i64 0, .int .i64 0, .int .i64 0, .bool false, .bool false, .bool false], .agg [.int .u8 0, .int .i64 0, .int .i64 0, .int .i64 0, .bool false, .bool false, .bool false]] W K = K (.bool true) W := id rfl
theorem sameEv_c (hP : E.P = Tryz.prog) (W : AW) (k c i : Int) {t r : V} {l : List Mi} {ls : List (Option (List Int))} (h : isMs t l) (hr : isLs r ls) (ho : ∀ m ∈ l, m.ok) (hl : l.length < 2 ^ 40) (hls : ls.length < 2 ^ 40) (hs : ∀ x ∈ ls, (nums x).length < 2 ^ 40) :
    ACalls E 101 [evV k c i t r, evV k c i t r] W fun X W' => X = .bool true ∧ W' = W := by
  obtain ⟨xs, i1, i2, _⟩ := id hr
  refine ACalls.of hP Tryz.func101 ok43e (by simp) fun _ hok => ?_
  refine awp_start hok ?_
  simp only [c43, BS, BC, e_seq, guard_if, ↓reduceIte, Nat.reduceEqDiff, BM, BD, Nat.reduceAdd, Nat.reduceLeDiff, evV, beq_self_eq_true, eqv_op, eqv_res, h.frz]
  refine pc (eqMi_c hP _ h h ho ho hl) ?_
  simp only [BS, BC, guard_if, ↓reduceIte, Nat.reduceEqDiff, BM, BD, decide_true, i1.frz]
  refine pc (eqFunc_c hP _ hr hr hls hs) ?_
  simp only [BS, BC, guard_if, ↓reduceIte, Nat.reduceEqDiff, BM, BD, Nat.reduceAdd, Nat.reduceLeDiff, sameLs, decide_true, eqv_cf]
  exact ⟨_, rfl, _, W, backX hok rfl, Nat.le_refl _, rfl, rfl⟩
end Go.AL.S
set_option maxRecDepth 100000
namespace Go.AL.S
open Go Go.AL Go.Proofs
variable {E : Env}
def okB (c : Int) (l : List Mi) : Bool := (decide (1 ≤ l.length) && decide (l.length ≤ 8) && !l.any badMi) && decide (c < 16)
def okC (ls : List (Option (List Int))) : Bool := decide (ls.length ≤ 8) && !ls.any longL
theorem checkB_c (hP : E.P = Tryz.prog) (W : AW) (c i : Int) {t : V} {l : List Mi} (h : isMs t l) (ho : ∀ m ∈ l, m.ok) (hl : l.length < 2 ^ 40) :
    ACalls E 73 [evV 5 c i t .nilsl] W fun X W' => X = .int .i64 (if okB c l then 0 else 4) ∧ W' = W := by
  refine ACalls.of hP Tryz.func73 ok27e (by simp) fun _ hok => ?_
  refine awp_start hok ?_
  have hn : isLs .nilsl [] := ⟨[], .inl ⟨rfl, rfl⟩, rfl, fun k h => by simp at h⟩
  have hs : isS 1 .nilsl ([] : List V) := .inl ⟨rfl, rfl⟩
  simp only [c27, BS, BC, e_seq, ↓reduceIte, Nat.reduceEqDiff, BM, BD, evV]
  refine pc (of_c hP _ 5 (.inl rfl)) ?_
  simp only [BS, BC, e_seq, guard_if, ↓reduceIte, Nat.reduceEqDiff, BM, BD, Nat.reduceAdd, Nat.reduceLeDiff, Nat.reduceLT, kindB]
  refine pc (mayTxn_c hP _ 5 c i h hs hl) ?_
  cases hm : (decide (1 ≤ l.length) && decide (l.length ≤ 8) && !l.any badMi) with
  | false =>
    simp only [BS, BC, e_seq, cond_if, guard_if, ↓reduceIte, Nat.reduceEqDiff, BM, BD]
    exact ⟨_, rfl, _, W, backX hok rfl, Nat.le_refl _, by simp [okB, hm], rfl⟩
  | true =>
    by_cases hc : c ≥ 16
    · simp only [BS, BC, e_seq, cond_if, guard_if, ↓reduceIte, Nat.reduceEqDiff, BM, BD, decide_eq_true hc]
      exact ⟨_, rfl, _, W, backX hok rfl, Nat.le_refl _, by simp [okB, hm]; omega, rfl⟩
    · simp only [BS, BC, e_seq, cond_if, guard_if, ↓reduceIte, Nat.reduceEqDiff, BM, BD, Nat.reduceAdd, Nat.reduceLeDiff, decide_eq_false hc]
      refine pc (begun_c hP _ 5 c i h hs) ?_
      simp only [BS, BC, e_seq, cond_if, ↓reduceIte, Nat.reduceEqDiff, BM, BD, Nat.reduceAdd, Nat.reduceLeDiff, Nat.reduceLT, evV, h.one, show ((5 : Int) != 1) = true by decide]
      simp only [and_self]
      refine pc (sameEv_c hP _ 5 c i h hn ho hl (by simp) (by simp)) ?_
      simp only [BS, BC, e_seq, cond_if, ↓reduceIte, BD]
      exact ⟨_, rfl, _, W, backX hok rfl, Nat.le_refl _, by simp [okB, hm]; omega, rfl⟩
theorem checkC_c (hP : E.P = Tryz.prog) (W : AW) (i : Int) {r : V} {ls : List (Option (List Int))} (hr : isLs r ls) (hl : ls.length < 2 ^ 40) (hs : ∀ x ∈ ls, (nums x).length < 2 ^ 40) (hb : r.bel 0 = true) :
    ACalls E 73 [evV 6 0 i .nilsl r] W fun X W' => X = .int .i64 (if okC ls then 0 else 4) ∧ W' = W := by
  refine ACalls.of hP Tryz.func73 ok27e (by simp) fun _ hok => ?_
  refine awp_start hok ?_
  obtain ⟨xs, i1, i2, i3⟩ := id hr
  have hn : isMs .nilsl [] := .inl ⟨rfl, rfl⟩
  simp only [c27, BS, BC, e_seq, ↓reduceIte, Nat.reduceEqDiff, BM, BD, evV]
  refine pc (of_c hP _ 6 (.inr rfl)) ?_
  simp only [BS, BC, e_seq, guard_if, ↓reduceIte, Nat.reduceEqDiff, BM, BD, Nat.reduceAdd, Nat.reduceLeDiff, Nat.reduceLT, kindC, show ((6 : Int) = 5) = False by simp]
  refine pc (mayReads_c hP _ 6 0 i hn hr hl) ?_
  cases hm : (decide (ls.length ≤ 8) && !ls.any longL) with
  | false =>
    simp only [BS, BC, e_seq, cond_if, guard_if, ↓reduceIte, Nat.reduceEqDiff, BM, BD]
    exact ⟨_, rfl, _, W, backX hok rfl, Nat.le_refl _, by simp [okC, hm], rfl⟩
  | true =>
    simp only [BS, BC, e_seq, cond_if, guard_if, ↓reduceIte, Nat.reduceEqDiff, BM, BD, Nat.reduceAdd, Nat.reduceLeDiff, show decide ((0 : Int) ≥ 16) = false by decide]
    have hb2 : ∀ n, V.belL n xs = true := by
      intro n
      rcases i1 with ⟨_, rfl⟩ | ⟨_, rfl⟩ | ⟨f, rfl⟩
      · rfl
      · rfl
      · exact belL_up (Nat.zero_le n) _ hb
    refine pc (committed_c hP _ 6 0 i hn i1 (hb2 _)) ?_
    simp only [BS, BC, e_seq, cond_if, ↓reduceIte, Nat.reduceEqDiff, BM, BD, Nat.reduceAdd, Nat.reduceLeDiff, Nat.reduceLT, evV, i1.one, show ((6 : Int) != 1) = true by decide]
    simp only [and_self]
    refine pc (sameEv_c hP _ 6 0 i hn hr (by simp) (by simp) hl hs) ?_
    simp only [BS, BC, e_seq, cond_if, ↓reduceIte, BD]
    exact ⟨_, rfl, _, W, backX hok rfl, Nat.le_refl _, by simp [okC, hm], rfl⟩
end Go.AL.S
set_option maxRecDepth 100000
namespace Go.AL.S
open Go Go.AL Go.Proofs
/- (*umpire/txn.Store).is -/
def c30 : AC := (AC.seq (AC.reg [
  ⟨(some 2), .mov, [.c (.bool false)], none⟩])
 (AC.seq (AC.reg [
  ⟨(some 3), .mov, [.t 0], none⟩,
  ⟨(some 4), .eqn true 0, [.t 3, .c (.nilptr)], none⟩,
  ⟨(some 5), .mov, [.t 4], none⟩,
  ⟨(some 6), .mov, [.t 0], (some (5, true))⟩,
  ⟨(some 7), .nilck, [.t 6], (some (5, true))⟩,
  ⟨(some 8), .fld 0, [.t 7], (some (5, true))⟩,
  ⟨(some 9), .load false 1, [.t 8], (some (5, true))⟩,
  ⟨(some 10), .eqn true 2, [.t 9, .c (.nilmap)], (some (5, true))⟩,
  ⟨(some 11), .pick, [.t 5, .t 10, .c (.bool false)], none⟩,
  ⟨(some 2), .mov, [.t 11], none⟩])
 AC.ret))
def r30 : AC × List RT × Nat := (c30, [.tmp 2], 12)
theorem ok30e : compF Tryz.prog Tryz.f48 ⟨false, false, []⟩ = some r30 := by kernel_rfl
/- umpire/txn.New -/
def c7 : AC := (AC.seq (AC.reg [
  ⟨(some 0), .mov, [.c (.nilptr)], none⟩])
 (AC.seq (AC.reg [
  ⟨(some 1), .mkmap, [], none⟩,
  ⟨(some 2), .mkmap, [], none⟩,
  ⟨(some 3), .build [.nilmap, .nilmap, .int .i64 0] [(0, 1), (1, 1), (2, 1)], [.t 1, .t 2, .c (.int .i64 (-1))], none⟩,
  ⟨(some 4), .box, [.t 3], none⟩,
  ⟨(some 0), .mov, [.t 4], none⟩])
 AC.ret))
def r7 : AC × List RT × Nat := (c7, [.tmp 0], 5)
theorem ok7e : compF Tryz.prog Tryz.f33 ⟨false, false, []⟩ = some r7 := by kernel_rfl
/- (*umpire/txn.Store).open -/
def c26 : AC := (AC.seq (AC.reg [
  ⟨(some 4), .alloc [.int .u16 0, .int .u8 0, .nilsl, .nilsl, .int .u8 0], [], none⟩,
  ⟨(some 5), .mov, [.c (.int .i64 0)], none⟩])
 (AC.seq (AC.seq (AC.reg [
  ⟨(some 8), .mov, [.t 0], none⟩,
  ⟨(some 9), .call 48, [.t 8], none⟩,
  ⟨(some 10), .un .not, [.t 9], none⟩])
 (AC.cond (.t 10)
  (AC.seq (AC.reg [
   ⟨(some 11), .build [.int .u16 0, .int .u8 0, .nilsl, .nilsl, .int .u8 0] [], [], none⟩,
   ⟨none, .store 5, [.t 4, .t 11], none⟩,
   ⟨(some 5), .mov, [.c (.int .i64 1)], none⟩])
  AC.ret)
  AC.skip))
 (AC.seq (AC.reg [
  ⟨(some 13), .mov, [.t 0], none⟩,
  ⟨(some 14), .nilck, [.t 13], none⟩,
  ⟨(some 15), .fld 0, [.t 14], none⟩,
  ⟨(some 16), .load false 1, [.t 15], none⟩,
  ⟨(some 17), .mov, [.t 1], none⟩,
  ⟨(some 18), .lookup (false, [.i .u16]) (.agg [.int .u16 0, .int .u8 0, .nilsl, .nilsl, .int .u8 0]) true, [.t 16, .t 17], none⟩,
  ⟨(some 12), .mov, [.t 18], none⟩,
  ⟨(some 19), .ext 0, [.t 12], none⟩,
  ⟨(some 20), .ext 1, [.t 12], none⟩,
  ⟨(some 6), .alloc [.int .u16 0, .int .u8 0, .nilsl, .nilsl, .int .u8 0], [], none⟩,
  ⟨none, .store 5, [.t 6, .t 19], none⟩,
  ⟨(some 7), .mov, [.t 20], none⟩])
 (AC.seq (AC.seq (AC.reg [
  ⟨(some 21), .mov, [.t 7], none⟩,
  ⟨(some 22), .un .not, [.t 21], none⟩,
  ⟨(some 23), .mov, [.t 22], none⟩,
  ⟨(some 24), .fld 4, [.t 6], (some (23, false))⟩,
  ⟨(some 25), .load false 1, [.t 24], (some (23, false))⟩,
  ⟨(some 26), .bin .neq, [.t 25, .c (.int .u8 0)], (some (23, false))⟩,
  ⟨(some 27), .pick, [.t 23, .c (.bool true), .t 26], none⟩])
 (AC.cond (.t 27)
  (AC.seq (AC.reg [
   ⟨(some 28), .build [.int .u16 0, .int .u8 0, .nilsl, .nilsl, .int .u8 0] [], [], none⟩,
   ⟨none, .store 5, [.t 4, .t 28], none⟩,
   ⟨(some 5), .mov, [.c (.int .i64 7)], none⟩])
  AC.ret)
  AC.skip))
 (AC.seq (AC.reg [
  ⟨(some 29), .load true 5, [.t 6], none⟩,
  ⟨none, .store 5, [.t 4, .t 29], none⟩,
  ⟨(some 5), .mov, [.c (.int .i64 0)], none⟩])
 AC.ret)))))
def r26 : AC × List RT × Nat := (c26, [.cell 4 true 5, .tmp 5], 30)
theorem ok26e : compF Tryz.prog Tryz.f72 ⟨false, false, []⟩ = some r26 := by kernel_rfl
/- (*umpire/txn.Store).end -/
def c29 : AC := (AC.seq (AC.reg [
  ⟨(some 6), .mov, [.c (.int .i64 0)], none⟩])
 (AC.seq (AC.reg [
  ⟨(some 10), .mov, [.t 0], none⟩,
  ⟨(some 11), .mov, [.t 1], none⟩,
  ⟨(some 12), .call 72, [.t 10, .t 11], none⟩,
  ⟨(some 9), .mov, [.t 12], none⟩,
  ⟨(some 13), .ext 0, [.t 9], none⟩,
  ⟨(some 14), .ext 1, [.t 9], none⟩,
  ⟨(some 7), .alloc [.int .u16 0, .int .u8 0, .nilsl, .nilsl, .int .u8 0], [], none⟩,
  ⟨none, .store 5, [.t 7, .t 13], none⟩,
  ⟨(some 8), .mov, [.t 14], none⟩])
 (AC.seq (AC.seq (AC.reg [
  ⟨(some 15), .mov, [.t 8], none⟩,
  ⟨(some 16), .bin .eql, [.t 15, .c (.int .i64 0)], none⟩])
 (AC.cond (.t 16)
  (AC.seq (AC.reg [
   ⟨(some 17), .mov, [.t 2], none⟩,
   ⟨(some 18), .fld 4, [.t 7], none⟩,
   ⟨none, .store 1, [.t 18, .t 17], none⟩])
  (AC.par
   (PT.step 0 ⟨(some 19), .mov, [.t 0], none⟩
   (PT.step 1 ⟨(some 20), .nilck, [.t 19], none⟩
   (PT.step 2 ⟨(some 21), .fld 0, [.t 20], none⟩
   (PT.step 4 ⟨(some 23), .mov, [.t 1], none⟩
   (PT.step 3 ⟨(some 22), .load false 1, [.t 21], none⟩
   (PT.step 5 ⟨(some 24), .load true 5, [.t 7], none⟩
   (PT.step 6 ⟨none, .mupd (false, [.i .u16]), [.t 22, .t 23, .t 24], none⟩
   PT.done)))))))))
  AC.skip))
 (AC.seq (AC.reg [
  ⟨(some 25), .mov, [.t 8], none⟩,
  ⟨(some 6), .mov, [.t 25], none⟩])
 AC.ret))))
def r29 : AC × List RT × Nat := (c29, [.tmp 6], 26)
theorem ok29e : compF Tryz.prog Tryz.f71 ⟨false, false, []⟩ = some r29 := by kernel_rfl
/- (*umpire/txn.Store).Abort -/
def c9 : AC := (AC.seq (AC.reg [
  ⟨(some 4), .mov, [.c (.int .i64 0)], none⟩])
 (AC.seq (AC.reg [
  ⟨(some 5), .mov, [.t 0], none⟩,
  ⟨(some 6), .mov, [.t 1], none⟩,
  ⟨(some 7), .call 71, [.t 5, .t 6, .c (.int .u8 2)], none⟩,
  ⟨(some 4), .mov, [.t 7], none⟩])
 AC.ret))
def r9 : AC × List RT × Nat := (c9, [.tmp 4], 8)
theorem ok9e : compF Tryz.prog Tryz.f32 ⟨false, false, []⟩ = some r9 := by kernel_rfl
/- (*umpire/txn.Store).Info -/
def c10 : AC := (AC.seq (AC.reg [
  ⟨(some 4), .mov, [.c (.int .i64 0)], none⟩])
 (AC.seq (AC.reg [
  ⟨(some 5), .mov, [.t 0], none⟩,
  ⟨(some 6), .mov, [.t 1], none⟩,
  ⟨(some 7), .call 71, [.t 5, .t 6, .c (.int .u8 3)], none⟩,
  ⟨(some 4), .mov, [.t 7], none⟩])
 AC.ret))
def r10 : AC × List RT × Nat := (c10, [.tmp 4], 8)
theorem ok10e : compF Tryz.prog Tryz.f38 ⟨false, false, []⟩ = some r10 := by kernel_rfl
/- (*umpire/txn.Store).Find -/
def c16 : AC := (AC.seq (AC.reg [
  ⟨(some 4), .alloc [.int .u16 0, .int .u8 0, .nilsl, .nilsl, .int .u8 0], [], none⟩,
  ⟨(some 5), .mov, [.c (.bool false)], none⟩])
 (AC.seq (AC.seq (AC.reg [
  ⟨(some 8), .mov, [.t 0], none⟩,
  ⟨(some 9), .call 48, [.t 8], none⟩,
  ⟨(some 10), .un .not, [.t 9], none⟩])
 (AC.cond (.t 10)
  (AC.seq (AC.reg [
   ⟨(some 11), .build [.int .u16 0, .int .u8 0, .nilsl, .nilsl, .int .u8 0] [], [], none⟩,
   ⟨none, .store 5, [.t 4, .t 11], none⟩,
   ⟨(some 5), .mov, [.c (.bool false)], none⟩])
  AC.ret)
  AC.skip))
 (AC.seq (AC.reg [
  ⟨(some 13), .mov, [.t 0], none⟩,
  ⟨(some 14), .nilck, [.t 13], none⟩,
  ⟨(some 15), .fld 0, [.t 14], none⟩,
  ⟨(some 16), .load false 1, [.t 15], none⟩,
  ⟨(some 17), .mov, [.t 1], none⟩,
  ⟨(some 18), .lookup (false, [.i .u16]) (.agg [.int .u16 0, .int .u8 0, .nilsl, .nilsl, .int .u8 0]) true, [.t 16, .t 17], none⟩,
  ⟨(some 12), .mov, [.t 18], none⟩,
  ⟨(some 19), .ext 0, [.t 12], none⟩,
  ⟨(some 20), .ext 1, [.t 12], none⟩,
  ⟨(some 6), .alloc [.int .u16 0, .int .u8 0, .nilsl, .nilsl, .int .u8 0], [], none⟩,
  ⟨none, .store 5, [.t 6, .t 19], none⟩,
  ⟨(some 7), .mov, [.t 20], none⟩])
 (AC.seq (AC.reg [
  ⟨(some 21), .load true 5, [.t 6], none⟩,
  ⟨(some 22), .call 49, [.t 21], none⟩,
  ⟨(some 23), .mov, [.t 7], none⟩,
  ⟨none, .store 5, [.t 4, .t 22], none⟩,
  ⟨(some 5), .mov, [.t 23], none⟩])
 AC.ret))))
def r16 : AC × List RT × Nat := (c16, [.cell 4 true 5, .tmp 5], 24)
theorem ok16e : compF Tryz.prog Tryz.f18 ⟨false, false, []⟩ = some r16 := by kernel_rfl
/- (*umpire/txn.Store).Who -/
def c21 : AC := (AC.seq (AC.reg [
  ⟨(some 6), .alloc [.int .u16 0, .int .u8 0, .nilsl, .nilsl, .int .u8 0], [], none⟩,
  ⟨(some 7), .mov, [.c (.bool false)], none⟩])
 (AC.seq (AC.seq (AC.reg [
  ⟨(some 10), .mov, [.t 0], none⟩,
  ⟨(some 11), .call 48, [.t 10], none⟩,
  ⟨(some 12), .un .not, [.t 11], none⟩])
 (AC.cond (.t 12)
  (AC.seq (AC.reg [
   ⟨(some 13), .build [.int .u16 0, .int .u8 0, .nilsl, .nilsl, .int .u8 0] [], [], none⟩,
   ⟨none, .store 5, [.t 6, .t 13], none⟩,
   ⟨(some 7), .mov, [.c (.bool false)], none⟩])
  AC.ret)
  AC.skip))
 (AC.seq (AC.reg [
  ⟨(some 15), .mov, [.t 0], none⟩,
  ⟨(some 16), .nilck, [.t 15], none⟩,
  ⟨(some 17), .fld 1, [.t 16], none⟩,
  ⟨(some 18), .load false 1, [.t 17], none⟩,
  ⟨(some 19), .mov, [.t 1], none⟩,
  ⟨(some 20), .mov, [.t 2], none⟩,
  ⟨(some 21), .build [.int .u8 0, .int .u16 0] [(0, 1), (1, 1)], [.t 19, .t 20], none⟩,
  ⟨(some 22), .lookup (true, [.i .u8, .i .u16]) (.int .u16 0) true, [.t 18, .t 21], none⟩,
  ⟨(some 14), .mov, [.t 22], none⟩,
  ⟨(some 23), .ext 0, [.t 14], none⟩,
  ⟨(some 24), .ext 1, [.t 14], none⟩,
  ⟨(some 8), .mov, [.t 23], none⟩,
  ⟨(some 9), .mov, [.t 24], none⟩])
 (AC.seq (AC.seq (AC.reg [
  ⟨(some 25), .mov, [.t 9], none⟩,
  ⟨(some 26), .un .not, [.t 25], none⟩])
 (AC.cond (.t 26)
  (AC.seq (AC.reg [
   ⟨(some 27), .build [.int .u16 0, .int .u8 0, .nilsl, .nilsl, .int .u8 0] [], [], none⟩,
   ⟨none, .store 5, [.t 6, .t 27], none⟩,
   ⟨(some 7), .mov, [.c (.bool false)], none⟩])
  AC.ret)
  AC.skip))
 (AC.seq (AC.reg [
  ⟨(some 28), .mov, [.t 0], none⟩,
  ⟨(some 29), .mov, [.t 8], none⟩,
  ⟨(some 30), .call 18, [.t 28, .t 29], none⟩,
  ⟨(some 31), .ext 0, [.t 30], none⟩,
  ⟨(some 32), .ext 1, [.t 30], none⟩,
  ⟨none, .store 5, [.t 6, .t 31], none⟩,
  ⟨(some 7), .mov, [.t 32], none⟩])
 AC.ret)))))
def r21 : AC × List RT × Nat := (c21, [.cell 6 true 5, .tmp 7], 33)
theorem ok21e : compF Tryz.prog Tryz.f60 ⟨false, false, []⟩ = some r21 := by kernel_rfl
variable {E : Env}
/-! the store, in plain words -/
structure Tx where
  id : Int
  client : Int
  ms : List Mi
  ls : List (Option (List Int))
  st : Int
  deriving DecidableEq
def Tx.V (t : Tx) : V := .agg [.int .u16 t.id, .int .u8 t.client, msV t.ms, lsV t.ls, .int .u8 t.st]
def Tx.zero : Tx := ⟨0, 0, [], [], 0⟩
structure Tx.ok (t : Tx) : Prop where
  id0 : 0 ≤ t.id
  id1 : t.id < 65536
  cl0 : 0 ≤ t.client
  cl1 : t.client < 256
  ms : ∀ m ∈ t.ms, m.ok
  msl : t.ms.length ≤ 8
  lsl : t.ls.length ≤ 8
  ls : ∀ o ∈ t.ls, (nums o).length ≤ 32 ∧ ∀ n ∈ nums o, 0 ≤ n ∧ n < 65536
  st : 0 ≤ t.st ∧ t.st < 4
abbrev Str := List Tx
def lastId (s : Str) : Int := match s.getLast? with
  | some t => t.id
  | none => -1
def find (s : Str) (i : Int) : Option Tx := s.find? fun t => decide (t.id = i)
def has (t : Tx) (k v : Int) : Bool := t.ms.any fun m => !m.read && (decide (m.key = k) && decide (m.v = v))
def who (s : Str) (k v : Int) : Option Tx := s.find? fun t => has t k v
def upd (s : Str) (x : Tx) : Str := match s with
  | [] => []
  | t :: s => if t.id = x.id then x :: s else t :: upd s x
def esFrom : Nat → Str → List En
  | _, [] => []
  | n, t :: s => (.int .u16 t.id, t.V, n) :: esFrom (n + 1) s
structure SOk (s : Str) : Prop where
  ok : ∀ t ∈ s, t.ok
  lt : s.Pairwise fun a b => a.id < b.id
def kV (k v : Int) : V := .agg [.int .u8 k, .int .u16 v]
def KeysK (ws : List En) : Prop := ∀ e ∈ ws, ∃ k v n, e.1 = kV k v ∧ e.2.1 = .int .u16 n ∧ 0 ≤ k ∧ k < 256 ∧ 0 ≤ v ∧ v < 65536
structure WsOk (ws : List En) (s : Str) : Prop where
  key : KeysK ws
  val : ∀ k v, (findK (kV k v) ws).map (·.2.1) = (who s k v).map fun t => .int .u16 t.id
structure St (W : AW) (p ra rw : Nat) (s : Str) : Prop where
  hp : W.get p = some (.row [.map ra, .map rw, .int .i64 (lastId s)])
  ha : W.get ra = some (.map (esFrom 0 s) s.length)
  hw : ∃ ws cw, W.get rw = some (.map ws cw) ∧ WsOk ws s
  ne : ra ≠ rw
  lp : p < W.nx
  la : ra < W.nx
  lw : rw < W.nx
  ok : SOk s
theorem u16_has {i : Int} (h0 : 0 ≤ i) (h1 : i < 65536) : (V.int .u16 i).has (false, [.i .u16]) = true := by
  simp [V.has, V.isAgg, V.cells, V.hasKs, V.hasK, Lit.wf, IntKind.min, IntKind.max, IntKind.signed, IntKind.bits]
  omega
theorem kV_has {k v : Int} (h0 : 0 ≤ k) (h1 : k < 256) (h2 : 0 ≤ v) (h3 : v < 65536) : (kV k v).has (true, [.i .u8, .i .u16]) = true := by
  simp [kV, V.has, V.isAgg, V.cells, V.hasKs, V.hasK, Lit.wf, IntKind.min, IntKind.max, IntKind.signed, IntKind.bits]
  omega
theorem keq_int {k k' : IntKind} {a b : Int} : (V.int k a).keq (.int k' b) = decide (a = b) := by
  simp only [V.keq, V.cells, V.eqs, V.eq1, Bool.and_true, cmpeq]
theorem keq_kV {k v k' v' : Int} : (kV k v).keq (kV k' v') = (decide (k = k') && decide (v = v')) := by
  simp only [kV, V.keq, V.cells, V.eqs, V.eq1, Bool.and_true, cmpeq]
theorem es_keys {s : Str} (h : ∀ t ∈ s, t.ok) {i : Int} (h0 : 0 ≤ i) (h1 : i < 65536) : ∀ n, keysOk (false, [.i .u16]) (.int .u16 i) (esFrom n s) := by
  intro n
  refine ⟨u16_has h0 h1, ?_⟩
  induction s generalizing n with
  | nil => intro e he; simp [esFrom] at he
  | cons t s ih =>
    intro e he
    rcases List.mem_cons.1 he with rfl | he
    · exact u16_has (h t (by simp)).id0 (h t (by simp)).id1
    · exact ih (fun x hx => h x (by simp [hx])) _ e he
theorem es_find (s : Str) (i : Int) : ∀ n, (findK (.int .u16 i) (esFrom n s)).map (·.2.1) = (find s i).map Tx.V := by
  induction s with
  | nil => intro n; rfl
  | cons t s ih =>
    intro n
    simp only [esFrom, findK, find, List.find?_cons, keq_int]
    by_cases h : t.id = i
    · have h' : i = t.id := h.symm
      simp [h']
    · have h' : ¬ (i = t.id) := fun e => h e.symm
      simp only [decide_eq_false h, decide_eq_false h', Bool.false_eq_true, if_false]
      exact ih (n + 1)
theorem es_upd (s : Str) (x : Tx) : ∀ n, updK (.int .u16 x.id) x.V (esFrom n s) = esFrom n (upd s x) := by
  induction s with
  | nil => intro n; rfl
  | cons t s ih =>
    intro n
    simp only [esFrom, updK, upd, keq_int]
    by_cases h : t.id = x.id
    · have h' : x.id = t.id := h.symm
      simp [h', esFrom]
    · have h' : ¬ (x.id = t.id) := fun e => h e.symm
      simp only [decide_eq_false h', h, Bool.false_eq_true, if_false, esFrom, ih]
theorem es_app (s : Str) (x : Tx) : ∀ n, esFrom n (s ++ [x]) = esFrom n s ++ [(.int .u16 x.id, x.V, n + s.length)] := by
  induction s with
  | nil => intro n; simp [esFrom]
  | cons t s ih =>
    intro n
    simp only [List.cons_append, esFrom, ih, List.length_cons]
    rw [show n + 1 + s.length = n + (s.length + 1) by omega]
theorem es_len (s : Str) : ∀ n, (esFrom n s).length = s.length := by
  induction s with
  | nil => intro n; rfl
  | cons t s ih => intro n; simp [esFrom, ih]
/-! reading a map -/
def lookK (_ : Bool × List SK) (z : V) (ok : Bool) (key : V) (es : List En) (k : V → Prop) : Prop := match (findK key es).map (·.2.1) with
  | some v => k (if ok = true then .tuple [v, .bool true] else v)
  | none => k (if ok = true then .tuple [z, .bool false] else z)
theorem m_lookup {W : AW} {K : V → AW → Prop} {sh : Bool × List SK} {z key : V} {ok : Bool} {r c : Nat} {es : List En} (h : W.get r = some (.map es c)) (hk : keysOk sh key es) : sem E (.lookup sh z ok) [.map r, key] W K = lookK sh z ok key es (fun v => K v W) := by
  simp only [sem, h, lookK]
  cases hf : findK key es with
  | none => exact propext ⟨fun h => h.2, fun h => ⟨hk, h⟩⟩
  | some e => exact propext ⟨fun h => h.2, fun h => ⟨hk, h⟩⟩
theorem lookK_all {sh : Bool × List SK} {z : V} {ok : Bool} {s : Str} {n : Nat} {i : Int} {k : V → Prop} : lookK sh z ok (.int .u16 i) (esFrom n s) k = (match find s i with
    | some t => k (if ok = true then .tuple [t.V, .bool true] else t.V)
    | none => k (if ok = true then .tuple [z, .bool false] else z)) := by
  simp only [lookK, es_find]
  cases find s i <;> rfl
theorem lookK_who {sh : Bool × List SK} {z : V} {ok : Bool} {s : Str} {ws : List En} {a b : Int} {k : V → Prop} (h : WsOk ws s) : lookK sh z ok (kV a b) ws k = (match who s a b with
    | some t => k (if ok = true then .tuple [.int .u16 t.id, .bool true] else .int .u16 t.id)
    | none => k (if ok = true then .tuple [z, .bool false] else z)) := by
  simp only [lookK, h.val]
  cases who s a b <;> rfl
theorem ws_keys' {ws : List En} (h : KeysK ws) {k v : Int} (h0 : 0 ≤ k) (h1 : k < 256) (h2 : 0 ≤ v) (h3 : v < 65536) : keysOk (true, [.i .u8, .i .u16]) (kV k v) ws := by
  refine ⟨kV_has h0 h1 h2 h3, fun e he => ?_⟩
  obtain ⟨k, v, n, e1, _, a, b, c, d⟩ := h e he
  rw [e1]; exact kV_has a b c d
theorem ws_keys {ws : List En} {s : Str} (h : WsOk ws s) {k v : Int} (h0 : 0 ≤ k) (h1 : k < 256) (h2 : 0 ≤ v) (h3 : v < 65536) : keysOk (true, [.i .u8, .i .u16]) (kV k v) ws := ws_keys' h.key h0 h1 h2 h3
/-! transactions as values -/
theorem msV_cells (l : List Mi) : (msV l).cells = [msV l] := (msV_isMs l).cells
theorem msV_one (l : List Mi) : (msV l).one = true := (msV_isMs l).one
theorem msV_bel (l : List Mi) (n : Nat) : (msV l).bel n = true := (msV_isMs l).lens (belL_mi l n)
theorem lsV_S (l : List (Option (List Int))) : ∃ xs, isS 1 (lsV l) xs := by
  obtain ⟨xs, h, _⟩ := lsV_isLs l; exact ⟨xs, h⟩
theorem lsV_cells (l : List (Option (List Int))) : (lsV l).cells = [lsV l] := by
  obtain ⟨xs, h⟩ := lsV_S l; exact h.cells
theorem lsV_one (l : List (Option (List Int))) : (lsV l).one = true := by
  obtain ⟨xs, h⟩ := lsV_S l; exact h.one
theorem elV_bel (o : Option (List Int)) (n : Nat) : (elV o).bel n = true := by
  cases o with
  | none => rfl
  | some l => exact belL_ints l n
theorem lsV_bel (l : List (Option (List Int))) (n : Nat) : (lsV l).bel n = true := by
  unfold lsV
  split
  · rfl
  · rename_i h; clear h
    show V.belL n (l.map elV) = true
    induction l with
    | nil => rfl
    | cons x l ih =>
      simp only [List.map_cons, V.belL, Bool.and_eq_true]
      exact ⟨elV_bel x n, ih⟩
theorem tx_bel (t : Tx) (n : Nat) : t.V.bel n = true := by
  simp only [Tx.V, V.bel, V.belL, msV_bel, lsV_bel, Bool.and_true]
theorem msV_frz {W : AW} (l : List Mi) : W.frz (msV l) = msV l := (msV_isMs l).frz
theorem lsV_frz {W : AW} (l : List (Option (List Int))) : W.frz (lsV l) = lsV l := by
  obtain ⟨xs, h⟩ := lsV_S l; exact h.frz
theorem zero_V : V.agg [.int .u16 0, .int .u8 0, .nilsl, .nilsl, .int .u8 0] = Tx.zero.V := id rfl
theorem find_ok {s : Str} {i : Int} {t : Tx} (hs : SOk s) (h : find s i = some t) : t ∈ s ∧ t.id = i ∧ t.ok := by
  have h1 := List.mem_of_find?_eq_some h
  have h2 := List.find?_some h
  exact ⟨h1, by simpa using h2, hs.ok t h1⟩
end Go.AL.S
set_option maxRecDepth 100000
namespace Go.AL.S
open Go Go.AL Go.Proofs
variable {E : Env}
theorem new_c (hP : E.P = Tryz.prog) (W : AW) : ACalls E 33 [] W fun Y W' => ∃ p ra rw, Y = .ptr p 0 ∧ St W' p ra rw [] ∧ W.nx ≤ p ∧ W.nx ≤ ra ∧ W.nx ≤ rw ∧ W.nx ≤ W'.nx ∧ ∀ x, x < W.nx → W'.get x = W.get x := by
  refine ACalls.of hP Tryz.func33 ok7e (by simp) fun _ hok => ?_
  refine awp_start hok ?_
  simp only [c7, BS, BC, e_seq, ↓reduceIte, Nat.reduceEqDiff, BM, BD, Nat.reduceAdd, Nat.reduceLeDiff]
  refine ⟨_, rfl, _, _, .weak weak_id, ?_, rf W.nx 2, rf W.nx 0, rf W.nx 1, rfl, ⟨?_, ?_, ⟨[], 0, ?_, ⟨(fun _ h => by cases h), fun _ _ => rfl⟩⟩, ?_, ?_, ?_, ?_, ⟨by simp, List.Pairwise.nil⟩⟩, ?_, ?_, ?_, ?_, fun x hx => X_old hx⟩
  · simp [X_nx, rf]
  · simp only [BC, BM]; rfl
  · simp only [BC, BM, BD]; rfl
  · simp only [BC, BM]
  all_goals simp [rf, X_nx]
theorem is_c (hP : E.P = Tryz.prog) (W : AW) {p ra : Nat} {r : List V} (h : W.get p = some (.row (.map ra :: r))) : ACalls E 48 [.ptr p 0] W fun Y W' => Y = .bool true ∧ W' = W := by
  refine ACalls.of hP Tryz.func48 ok30e (by simp) fun _ hok => ?_
  simp only [c30, BS, BC, e_seq, guard_if, ↓reduceIte, Nat.reduceEqDiff, reduceCtorEq, BM, BD, h]
  exact ⟨_, rfl, _, _, .weak weak_id, Nat.le_refl _, rfl, rfl⟩
theorem own_c (hP : E.P = Tryz.prog) (W : AW) {t : Tx} (h : t.ok) : ACalls E 49 [t.V] W fun Y W' => Y = t.V ∧ W' = W := by
  refine ACalls.of hP Tryz.func49 ok36e (by simp) fun _ hok => ?_
  refine awp_start hok ?_
  have hm := msV_isMs t.ms
  have hc : cloneV 3 (msV t.ms) = msV t.ms := by
    unfold msV
    split
    · rfl
    · cases h : t.ms with
      | nil => contradiction
      | cons a l => rfl
  obtain ⟨xs, hx⟩ : ∃ xs, xs = t.ls.map elV := ⟨_, rfl⟩
  have i1 : isS 1 (lsV t.ls) xs := by
    rw [hx]; unfold lsV
    split
    · rename_i h; rw [h]; exact .nil
    · exact .mk
  have i2 : xs.length = t.ls.length := by rw [hx]; simp
  have hL : ∀ x ∈ xs, isL x := by
    intro x hx'
    rw [hx] at hx'
    obtain ⟨o, ho, rfl⟩ := List.mem_map.1 hx'
    cases o with
    | none => exact .inl rfl
    | some l =>
      refine .inr (.inr ⟨_, intsV l, rfl, belL_ints l 0, ?_⟩)
      rw [ints_len]
      have := (h.ls _ ho).1
      simp only [nums, Option.getD_some] at this
      omega
  have hlv : listsV xs = lsV t.ls := by
    rw [hx]
    unfold listsV lsV
    by_cases h0 : t.ls = []
    · simp [h0]
    · simp only [List.map_eq_nil_iff, h0, if_false, List.map_map]
      congr 1
      apply List.map_congr_left
      intro o _
      cases o with
      | none => rfl
      | some l => cases l <;> rfl
  have hll : xs.length < 2 ^ 40 := by have := h.lsl; omega
  have hml : (t.ms.map Mi.V).length < 2 ^ 40 := by have := h.msl; simp; omega
  simp only [c36, BS, BC, e_seq, ↓reduceIte, Nat.reduceEqDiff, BM, BD, m_pcall, Nat.reduceAdd, Nat.reduceLeDiff, Nat.reduceLT, msV_frz, lsV_frz, Tx.V]
  refine ⟨_, (clone32_c hP _ _ _ hm (belL_mi _ _) hml), ?_⟩
  rw [hc]
  simp only [↓reduceIte, Nat.reduceEqDiff, BD, Nat.reduceLeDiff, msV_cells, msV_one]
  refine ⟨_, (lists_c hP _ _ xs i1 hL hll), ?_⟩
  rw [hlv]
  simp only [BS, BC, ↓reduceIte, BM, BD, Nat.reduceAdd, Nat.reduceLeDiff, lsV_cells, lsV_one]
  exact ⟨_, rfl, _, W, backX hok (tx_bel t _), Nat.le_refl _, rfl, rfl⟩
theorem find_c (hP : E.P = Tryz.prog) (W : AW) {p ra rw : Nat} {s : Str} (h : St W p ra rw s) (i : Int) (h0 : 0 ≤ i) (h1 : i < 65536) :
    ACalls E 18 [.ptr p 0, .int .u16 i] W fun Y W' => Y = .tuple [((find s i).getD Tx.zero).V, .bool (find s i).isSome] ∧ W' = W := by
  refine ACalls.of hP Tryz.func18 ok16e (by simp) fun _ hok => ?_
  refine awp_start hok ?_
  have hla := h.la
  have hlp := h.lp
  simp only [c16, BS, BC, e_seq, ↓reduceIte, reduceCtorEq, BM, BD]
  refine pc (is_c hP _ (r := [.map rw, .int .i64 (lastId s)]) (by rw [X_old h.lp]; exact h.hp)) ?_
  have hr : ∀ l, (X W W.nx l).get ra = some (.map (esFrom 0 s) s.length) := fun l => by rw [X_old h.la]; exact h.ha
  simp (config := { maxSteps := 2000000 }) (disch := omega) only [BS, BC, e_seq, cond_if, ↓reduceIte, Nat.reduceEqDiff, reduceCtorEq, BM, BD, Nat.reduceAdd, Nat.reduceLeDiff, Nat.reduceLT, h.hp, m_lookup (hr _) (es_keys h.ok.ok h0 h1 0), lookK_all]
  cases hf : find s i with
  | none =>
    simp only [zero_V]
    refine pc (own_c hP _ (t := Tx.zero) ⟨by decide, by decide, by decide, by decide, by simp [Tx.zero], by decide, by decide, by simp [Tx.zero], by decide⟩) ?_
    simp only [BS, BC, ↓reduceIte, Nat.reduceEqDiff, BM, BD, Nat.reduceAdd, Nat.reduceLeDiff, Nat.reduceLT, msV_one, lsV_one, Tx.V]
    exact ⟨_, rfl, _, W, backX hok rfl, Nat.le_refl _, rfl, rfl⟩
  | some t =>
    simp only [↓reduceIte, BM, BD, Nat.reduceAdd, Nat.reduceLeDiff, msV_one, lsV_one, Tx.V]
    refine pc (own_c hP _ (t := t) (find_ok h.ok hf).2.2) ?_
    simp only [BS, BC, ↓reduceIte, Nat.reduceEqDiff, BM, BD, Nat.reduceAdd, Nat.reduceLeDiff, Nat.reduceLT, msV_one, lsV_one, Tx.V]
    refine ⟨_, rfl, _, W, backX hok ?_, Nat.le_refl _, rfl, rfl⟩
    simp only [V.bel, V.belL, msV_bel, lsV_bel, Bool.and_true]
end Go.AL.S
set_option maxRecDepth 100000
namespace Go.AL.S
open Go Go.AL Go.Proofs
variable {E : Env}
theorem find_self {s : Str} (h : s.Pairwise fun a b => a.id < b.id) {t : Tx} (ht : t ∈ s) : find s t.id = some t := by
  induction s with
  | nil => simp at ht
  | cons x s ih =>
    have hp := List.pairwise_cons.1 h
    simp only [find, List.find?_cons]
    rcases List.mem_cons.1 ht with rfl | ht
    · simp
    · have hne : x.id ≠ t.id := by have := hp.1 t ht; omega
      simp only [decide_eq_false hne]
      exact ih hp.2 ht
theorem who_mem {s : Str} {k v : Int} {t : Tx} (h : who s k v = some t) : t ∈ s ∧ S.has t k v = true := by
  unfold who at h
  exact ⟨List.mem_of_find?_eq_some h, by simpa using List.find?_some h⟩
theorem who_c (hP : E.P = Tryz.prog) (W : AW) {p ra rw : Nat} {s : Str} (h : St W p ra rw s) (k v : Int) (h0 : 0 ≤ k) (h1 : k < 256) (h2 : 0 ≤ v) (h3 : v < 65536) :
    ACalls E 60 [.ptr p 0, .int .u8 k, .int .u16 v] W fun Y W' => Y = .tuple [((who s k v).getD Tx.zero).V, .bool (who s k v).isSome] ∧ W' = W := by
  refine ACalls.of hP Tryz.func60 ok21e (by simp) fun _ hok => ?_
  refine awp_start hok ?_
  have hlw := h.lw
  have hlp := h.lp
  obtain ⟨ws, cw, hw, hws⟩ := h.hw
  simp only [c21, BS, BC, e_seq, ↓reduceIte, reduceCtorEq, BM, BD]
  refine pc (is_c hP _ (r := [.map rw, .int .i64 (lastId s)]) (by rw [X_old h.lp]; exact h.hp)) ?_
  have hr : ∀ l, (X W W.nx l).get rw = some (.map ws cw) := fun l => by rw [X_old h.lw]; exact hw
  have hk : ∀ (l : List AObj) K, sem E (.lookup (true, [.i .u8, .i .u16]) (.int .u16 0) true) [.map rw, .agg [.int .u8 k, .int .u16 v]] (X W W.nx l) K = lookK (true, [.i .u8, .i .u16]) (.int .u16 0) true (kV k v) ws (fun v => K v (X W W.nx l)) := fun l K => m_lookup (hr l) (ws_keys hws h0 h1 h2 h3)
  simp (config := { maxSteps := 2000000 }) (disch := omega) only [BS, BC, e_seq, cond_if, ↓reduceIte, Nat.reduceEqDiff, reduceCtorEq, BM, BD, Nat.reduceAdd, Nat.reduceLeDiff, Nat.reduceLT, h.hp, hk, lookK_who hws]
  cases hf : who s k v with
  | none =>
    simp only []
    exact ⟨_, rfl, _, W, backX hok rfl, Nat.le_refl _, rfl, rfl⟩
  | some t =>
    have ht := who_mem hf
    have hto := h.ok.ok t ht.1
    have hX : ∀ l, St (X W W.nx l) p ra rw s := fun l => ⟨by rw [X_old h.lp]; exact h.hp, by rw [X_old h.la]; exact h.ha, ⟨ws, cw, hr l, hws⟩, h.ne, by simp [X_nx, rf]; omega, by have := h.la; simp [X_nx, rf]; omega, by simp [X_nx, rf]; omega, h.ok⟩
    simp only []
    refine pc (find_c hP _ (hX _) t.id hto.id0 hto.id1) ?_
    simp only [find_self h.ok.lt ht.1, Option.getD_some, Option.isSome_some, BS, BC, ↓reduceIte, Nat.reduceEqDiff, BM, BD, Nat.reduceAdd, Nat.reduceLeDiff, Nat.reduceLT, msV_one, lsV_one, Tx.V]
    refine ⟨_, rfl, _, W, backX hok ?_, Nat.le_refl _, rfl, rfl⟩
    simp only [V.bel, V.belL, msV_bel, lsV_bel, Bool.and_true]
def openR (s : Str) (i : Int) : Tx × Int := match find s i with
  | some t => if t.st = 0 then (t, 0) else (Tx.zero, 7)
  | none => (Tx.zero, 7)
theorem open_c (hP : E.P = Tryz.prog) (W : AW) {p ra rw : Nat} {s : Str} (h : St W p ra rw s) (i : Int) (h0 : 0 ≤ i) (h1 : i < 65536) :
    ACalls E 72 [.ptr p 0, .int .u16 i] W fun Y W' => Y = .tuple [(openR s i).1.V, .int .i64 (openR s i).2] ∧ W' = W := by
  refine ACalls.of hP Tryz.func72 ok26e (by simp) fun _ hok => ?_
  refine awp_start hok ?_
  have hla := h.la
  have hlp := h.lp
  simp only [c26, BS, BC, e_seq, ↓reduceIte, reduceCtorEq, BM, BD]
  refine pc (is_c hP _ (r := [.map rw, .int .i64 (lastId s)]) (by rw [X_old h.lp]; exact h.hp)) ?_
  have hr : ∀ l, (X W W.nx l).get ra = some (.map (esFrom 0 s) s.length) := fun l => by rw [X_old h.la]; exact h.ha
  simp (config := { maxSteps := 2000000 }) (disch := omega) only [BS, BC, e_seq, cond_if, guard_if, ↓reduceIte, Nat.reduceEqDiff, reduceCtorEq, BM, BD, Nat.reduceAdd, Nat.reduceLeDiff, Nat.reduceLT, h.hp, m_lookup (hr _) (es_keys h.ok.ok h0 h1 0), lookK_all]
  cases hf : find s i with
  | none =>
    simp only [openR, hf]
    exact ⟨_, rfl, _, W, backX hok rfl, Nat.le_refl _, rfl, rfl⟩
  | some t =>
    by_cases hst : t.st = 0
    · simp only [BS, BC, e_seq, cond_if, ↓reduceIte, Nat.reduceEqDiff, BM, BD, Nat.reduceAdd, Nat.reduceLeDiff, Nat.reduceLT, msV_one, lsV_one, Tx.V, openR, hf, cmpne, show decide (t.st ≠ 0) = false by simp [hst], if_pos hst]
      refine ⟨_, rfl, _, W, backX hok ?_, Nat.le_refl _, rfl, rfl⟩
      simp only [V.bel, V.belL, msV_bel, lsV_bel, Bool.and_true]
    · simp only [BS, BC, e_seq, cond_if, ↓reduceIte, Nat.reduceEqDiff, BM, BD, Nat.reduceAdd, Nat.reduceLeDiff, Nat.reduceLT, msV_one, lsV_one, Tx.V, openR, hf, cmpne, show decide (t.st ≠ 0) = true by simp [hst], if_neg hst]
      exact ⟨_, rfl, _, W, backX hok rfl, Nat.le_refl _, rfl, rfl⟩
/-! what changes a store -/
structure Fr (W W' : AW) (p ra rw : Nat) : Prop where
  nx : W'.nx = W.nx
  get : ∀ x, x ≠ p → x ≠ ra → x ≠ rw → W'.get x = W.get x
theorem Fr.refl (W : AW) (p ra rw : Nat) : Fr W W p ra rw := ⟨rfl, fun _ _ _ _ => rfl⟩
theorem St.pra {W : AW} {p ra rw : Nat} {s : Str} (h : St W p ra rw s) : p ≠ ra := by
  rintro rfl
  have := h.hp.symm.trans h.ha
  cases this
theorem St.prw {W : AW} {p ra rw : Nat} {s : Str} (h : St W p ra rw s) : p ≠ rw := by
  rintro rfl
  obtain ⟨ws, cw, hw, _⟩ := h.hw
  have := h.hp.symm.trans hw
  cases this
theorem ok_put {W : AW} {r : Nat} {o : AObj} (h : W.ok) (hr : r < W.nx) (ho : o.bel W.nx = true) : (W.put r o).ok := by
  intro x o' hx
  rw [pu_gets] at hx
  split at hx
  · rename_i e; subst e; cases hx; exact ⟨hr, ho⟩
  · exact h x o' hx
theorem es_bel (s : Str) (m : Nat) : ∀ n, ((esFrom n s).all fun e => e.1.bel m && e.2.1.bel m) = true := by
  induction s with
  | nil => intro n; rfl
  | cons t s ih => intro n; simp only [esFrom, List.all_cons, ih, tx_bel, Bool.and_true]; rfl
theorem backX' {x : V} {W1 : AW} {n : Nat} {l : List AObj} (hn : W1.nx = n) (hok : W1.ok) (hx : x.bel n = true) : RetV x (X W1 n l) x W1 := by
  subst hn
  exact .weak (weak_back hok hx fun _ h => X_old h)
/-- No object beyond the count. -/
def Cl (W : AW) : Prop := ∀ r, W.nx ≤ r → W.get r = none
theorem Cl.start {W : AW} (h : Cl W) : W = X W W.nx [] := by
  refine aw_ext (fun r => ?_) rfl
  rw [X_gets]
  by_cases hr : r < W.nx
  · simp [hr]
  · simp only [hr, if_false]
    rw [h r (by omega)]; simp
theorem Cl.X {W : AW} {n : Nat} {l : List AObj} : Cl (S.X W n l) := by
  intro r hr
  simp only [S.X] at hr ⊢
  rw [if_neg (by omega), List.getElem?_eq_none (by omega)]
theorem ok_Cl {W : AW} (h : W.ok) : Cl W := by
  intro r hr
  cases hg : W.get r with
  | none => rfl
  | some o => have := (h r o hg).1; omega
theorem Cl.put {W : AW} {r : Nat} {o : AObj} (h : Cl W) (hr : r < W.nx) : Cl (W.put r o) := by
  intro x hx
  rw [pu_gets, if_neg (by have : W.nx ≤ x := hx; omega)]
  exact h x hx
theorem awp_startC {W : AW} {c : AC} {Q : Exit → AFr → AW → Prop} {A : AFr} (h : Cl W) (g : awp E c Q A (S.X W W.nx [])) : awp E c Q A W := by
  rw [h.start]; exact g
/-- A world that goes on from another one. -/
structure Ex (W W1 : AW) : Prop where
  cl : Cl W1
  nx : W.nx ≤ W1.nx
  get : ∀ x, x < W.nx → W1.get x = W.get x
theorem Ex.refl {W : AW} (h : Cl W) : Ex W W := ⟨h, Nat.le_refl _, fun _ _ => rfl⟩
theorem Ex.X {W W1 : AW} {l : List AObj} (h : Ex W W1) : Ex W (S.X W1 W1.nx l) :=
  ⟨Cl.X, by have := h.nx; simp only [S.X]; omega, fun x hx => by rw [X_old (by have := h.nx; omega)]; exact h.get x hx⟩
theorem Ex.trans {W W1 W2 : AW} (h : Ex W W1) (h' : Ex W1 W2) : Ex W W2 :=
  ⟨h'.cl, Nat.le_trans h.nx h'.nx, fun x hx => by rw [h'.get x (by have := h.nx; omega)]; exact h.get x hx⟩
theorem Ex.x0 {W : AW} {l : List AObj} : Ex W (S.X W W.nx l) := ⟨Cl.X, by simp [S.X], fun _ h => X_old h⟩
theorem Ex.back {W W1 : AW} {x : V} (h : Ex W W1) (hok : W.ok) (hx : x.bel W.nx = true) : RetV x W1 x W := .weak (weak_back hok hx h.get)
theorem m_mupd {W : AW} {K : V → AW → Prop} {sh : Bool × List SK} {key x : V} {r c : Nat} {es : List En} (h : W.get r = some (.map es c)) (hk : keysOk sh key es) : sem E (.mupd sh) [.map r, key, x] W K = (match findK key es with
    | some _ => K .undef (W.put r (.map (updK key x es) c))
    | none => K .undef (W.put r (.map (es ++ [(key, x, c)]) (c + 1)))) := by
  simp only [sem, h]
  cases hf : findK key es with
  | none => exact propext ⟨fun h => h.2, fun h => ⟨hk, h⟩⟩
  | some e => exact propext ⟨fun h => h.2, fun h => ⟨hk, h⟩⟩
theorem es_some {s : Str} {i : Int} {t : Tx} (h : find s i = some t) (n : Nat) : ∃ e, findK (.int .u16 i) (esFrom n s) = some e := by
  have := es_find s i n
  rw [h] at this
  cases hf : findK (.int .u16 i) (esFrom n s) with
  | none => rw [hf] at this; cases this
  | some e => exact ⟨e, rfl⟩
theorem es_none {s : Str} {i : Int} (h : find s i = none) (n : Nat) : findK (.int .u16 i) (esFrom n s) = none := by
  have := es_find s i n
  rw [h] at this
  cases hf : findK (.int .u16 i) (esFrom n s) with
  | none => rfl
  | some e => rw [hf] at this; cases this
theorem upd_ids (s : Str) (x : Tx) : (upd s x).map (·.id) = s.map (·.id) := by
  induction s with
  | nil => rfl
  | cons t s ih =>
    simp only [upd]
    split
    · rename_i h; simp [h]
    · simp [ih]
theorem upd_len (s : Str) (x : Tx) : (upd s x).length = s.length := by
  have := congrArg List.length (upd_ids s x); simpa using this
theorem upd_last (s : Str) (x : Tx) : lastId (upd s x) = lastId s := by
  have h : ∀ l : Str, lastId l = ((l.map (·.id)).getLast?).getD (-1) := by
    intro l
    simp only [lastId, List.getLast?_map]
    cases l.getLast? <;> rfl
  rw [h, h, upd_ids]
theorem upd_mem {s : Str} {x y : Tx} (h : y ∈ upd s x) : y = x ∨ y ∈ s := by
  induction s with
  | nil => simp [upd] at h
  | cons t s ih =>
    simp only [upd] at h
    split at h
    · rcases List.mem_cons.1 h with h | h
      · exact .inl h
      · exact .inr (by simp [h])
    · rcases List.mem_cons.1 h with h | h
      · exact .inr (by simp [h])
      · rcases ih h with h | h
        · exact .inl h
        · exact .inr (by simp [h])
theorem upd_ok {s : Str} {x : Tx} (h : SOk s) (hx : x.ok) : SOk (upd s x) := by
  refine ⟨fun t ht => ?_, ?_⟩
  · rcases upd_mem ht with rfl | ht
    · exact hx
    · exact h.ok t ht
  · have := h.lt
    rw [← List.pairwise_map (f := Tx.id) (R := fun a b => a < b)] at this ⊢
    rwa [upd_ids]
theorem upd_who {s : Str} (hs : s.Pairwise fun a b => a.id < b.id) {t x : Tx} (ht : t ∈ s) (hi : x.id = t.id) (hm : x.ms = t.ms) (k v : Int) : (who (upd s x) k v).map Tx.id = (who s k v).map Tx.id := by
  induction s with
  | nil => rfl
  | cons y s ih =>
    have hp := List.pairwise_cons.1 hs
    simp only [upd]
    by_cases e : y.id = x.id
    · have hy : y = t := by
        rcases List.mem_cons.1 ht with h | h
        · exact h.symm
        · have := hp.1 t h; omega
      subst hy
      have hh : S.has x k v = S.has y k v := by simp only [S.has, hm]
      simp only [if_pos e, who, List.find?_cons, hh]
      split
      · simp [hi]
      · rfl
    · rw [if_neg e]
      have ht' : t ∈ s := by
        rcases List.mem_cons.1 ht with h | h
        · subst h; exact absurd hi.symm e
        · exact h
      simp only [who, List.find?_cons]
      split
      · rfl
      · exact ih hp.2 ht'
theorem ws_upd {ws : List En} {s : Str} (h : WsOk ws s) (hs : s.Pairwise fun a b => a.id < b.id) {t x : Tx} (ht : t ∈ s) (hi : x.id = t.id) (hm : x.ms = t.ms) : WsOk ws (upd s x) := by
  refine ⟨h.key, fun k v => ?_⟩
  rw [h.val k v]
  have := upd_who hs ht hi hm k v
  cases h1 : who (upd s x) k v <;> cases h2 : who s k v <;> simp [h1, h2] at this ⊢
  exact this.symm
/-- A store whose entry of one transaction was written anew. -/
theorem St.upd {W : AW} {p ra rw : Nat} {s : Str} (h : St W p ra rw s) {t x : Tx} (ht : t ∈ s) (hi : x.id = t.id) (hm : x.ms = t.ms) (hx : x.ok) : St (W.put ra (.map (esFrom 0 (upd s x)) s.length)) p ra rw (S.upd s x) := by
  obtain ⟨ws, cw, hw, hws⟩ := h.hw
  refine ⟨?_, ?_, ⟨ws, cw, ?_, ws_upd hws h.ok.lt ht hi hm⟩, h.ne, h.lp, h.la, h.lw, upd_ok h.ok hx⟩
  · rw [put_ne h.pra, upd_last]; exact h.hp
  · rw [put_at, upd_len]
  · rw [put_ne h.ne.symm]; exact hw
theorem Fr.put {W : AW} {p ra rw : Nat} {o : AObj} : Fr W (W.put ra o) p ra rw := ⟨rfl, fun _ _ h2 _ => put_ne h2⟩
end Go.AL.S
set_option maxRecDepth 100000
namespace Go.AL.S
open Go Go.AL Go.Proofs
/- (*umpire/txn.Store).Commit -/
def c8 : AC := (AC.seq (AC.reg [
  ⟨(some 6), .mov, [.c (.int .i64 0)], none⟩])
 (AC.seq (AC.reg [
  ⟨(some 13), .mov, [.t 0], none⟩,
  ⟨(some 14), .mov, [.t 1], none⟩,
  ⟨(some 15), .call 72, [.t 13, .t 14], none⟩,
  ⟨(some 12), .mov, [.t 15], none⟩,
  ⟨(some 16), .ext 0, [.t 12], none⟩,
  ⟨(some 17), .ext 1, [.t 12], none⟩,
  ⟨(some 7), .alloc [.int .u16 0, .int .u8 0, .nilsl, .nilsl, .int .u8 0], [], none⟩,
  ⟨none, .store 5, [.t 7, .t 16], none⟩,
  ⟨(some 8), .mov, [.t 17], none⟩])
 (AC.seq (AC.seq (AC.reg [
  ⟨(some 18), .mov, [.t 8], none⟩,
  ⟨(some 19), .bin .neq, [.t 18, .c (.int .i64 0)], none⟩])
 (AC.cond (.t 19)
  (AC.seq (AC.reg [
   ⟨(some 20), .mov, [.t 8], none⟩,
   ⟨(some 6), .mov, [.t 20], none⟩])
  AC.ret)
  AC.skip))
 (AC.seq (AC.seq (AC.reg [
  ⟨(some 21), .mov, [.t 1], none⟩,
  ⟨(some 22), .mov, [.t 2], none⟩,
  ⟨(some 23), .build [.int .u8 0, .int .u8 0, .int .u16 0, .int .u8 0, .int .u8 0, .int .u8 0, .int .u16 0, .int .u16 0, .int .u8 0, .int .u16 0, .nilsl, .nilsl, .int .u8 0, .int .i64 0, .int .i64 0, .int .i64 0, .bool false, .bool false, .bool false] [(0, 1), (2, 1), (11, 1)], [.c (.int .u8 6), .t 21, .t 22], none⟩,
  ⟨(some 24), .call 73, [.t 23], none⟩,
  ⟨(some 25), .bin .neq, [.t 24, .c (.int .i64 0)], none⟩])
 (AC.cond (.t 25)
  (AC.seq (AC.reg [
   ⟨(some 6), .mov, [.c (.int .i64 4)], none⟩])
  AC.ret)
  AC.skip))
 (AC.seq (AC.reg [
  ⟨(some 26), .mov, [.t 2], none⟩,
  ⟨(some 27), .call 74, [.t 26], none⟩,
  ⟨(some 28), .fld 4, [.t 7], none⟩,
  ⟨none, .store 1, [.t 28, .c (.int .u8 1)], none⟩,
  ⟨(some 29), .fld 3, [.t 7], none⟩,
  ⟨none, .store 1, [.t 29, .t 27], none⟩])
 (AC.seq (AC.reg [
  ⟨(some 9), .mov, [.c (.int .i64 0)], none⟩])
 (AC.seq (AC.seq (AC.reg [
  ⟨(some 30), .fld 2, [.t 7], none⟩,
  ⟨(some 31), .load false 1, [.t 30], none⟩,
  ⟨(some 32), .len 1 0, [.t 31], none⟩,
  ⟨(some 33), .mov, [.c (.int .i64 0)], none⟩])
 (AC.block 0
  (AC.loop
   (AC.seq (AC.reg [
    ⟨(some 34), .bin .lss, [.t 33, .t 32], none⟩])
   (AC.seq (AC.cond (.t 34)
    AC.skip
    (AC.exit 0))
   (AC.seq (AC.block 1
    (AC.seq (AC.reg [
     ⟨(some 35), .idxp 3, [.t 31, .t 33], none⟩,
     ⟨(some 36), .load true 3, [.t 35], none⟩,
     ⟨(some 11), .alloc [.bool false, .int .u8 0, .int .u16 0], [], none⟩,
     ⟨none, .store 3, [.t 11, .t 36], none⟩])
    (AC.seq (AC.reg [
     ⟨(some 37), .fld 0, [.t 11], none⟩,
     ⟨(some 38), .load false 1, [.t 37], none⟩])
    (AC.cond (.t 38)
     (AC.reg [
      ⟨(some 39), .mov, [.t 9], none⟩,
      ⟨(some 40), .bin .add, [.t 39, .c (.int .i64 1)], none⟩,
      ⟨(some 9), .mov, [.t 40], none⟩])
     AC.skip))))
   (AC.reg [
    ⟨(some 41), .bin .add, [.t 33, .c (.int .i64 1)], none⟩,
    ⟨(some 33), .mov, [.t 41], none⟩])))))))
 (AC.seq (AC.seq (AC.reg [
  ⟨(some 42), .mov, [.t 9], none⟩,
  ⟨(some 43), .mov, [.t 2], none⟩,
  ⟨(some 44), .len 1 0, [.t 43], none⟩,
  ⟨(some 45), .bin .neq, [.t 42, .t 44], none⟩])
 (AC.cond (.t 45)
  (AC.seq (AC.reg [
   ⟨(some 6), .mov, [.c (.int .i64 10)], none⟩])
  AC.ret)
  AC.skip))
 (AC.seq (AC.par
  (PT.step 0 ⟨(some 46), .mov, [.t 0], none⟩
  (PT.step 1 ⟨(some 47), .nilck, [.t 46], none⟩
  (PT.step 2 ⟨(some 48), .fld 0, [.t 47], none⟩
  (PT.step 4 ⟨(some 50), .mov, [.t 1], none⟩
  (PT.step 3 ⟨(some 49), .load false 1, [.t 48], none⟩
  (PT.step 5 ⟨(some 51), .load true 5, [.t 7], none⟩
  (PT.step 6 ⟨none, .mupd (false, [.i .u16]), [.t 49, .t 50, .t 51], none⟩
  PT.done))))))))
 (AC.seq (AC.reg [
  ⟨(some 6), .mov, [.c (.int .i64 0)], none⟩])
 AC.ret))))))))))
def r8 : AC × List RT × Nat := (c8, [.tmp 6], 52)
theorem ok8e : compF Tryz.prog Tryz.f35 ⟨false, false, []⟩ = some r8 := by kernel_rfl
variable {E : Env}
def endR (s : Str) (i st : Int) : Str × Int := match find s i with
  | some t => if t.st = 0 then (upd s { t with st := st }, 0) else (s, 7)
  | none => (s, 7)
theorem openR_cases (s : Str) (i : Int) : (∃ t, find s i = some t ∧ t.st = 0 ∧ openR s i = (t, 0) ∧ ∀ st, endR s i st = (upd s { t with st := st }, 0)) ∨ (openR s i = (Tx.zero, 7) ∧ ∀ st, endR s i st = (s, 7)) := by
  cases hf : find s i with
  | none => exact .inr ⟨by simp [openR, hf], fun st => by simp [endR, hf]⟩
  | some t =>
    by_cases h : t.st = 0
    · exact .inl ⟨t, rfl, h, by simp [openR, hf, h], fun st => by simp [endR, hf, h]⟩
    · exact .inr ⟨by simp [openR, hf, h], fun st => by simp [endR, hf, h]⟩
theorem end_c (hP : E.P = Tryz.prog) (W : AW) {p ra rw : Nat} {s : Str} (h : St W p ra rw s) (i st : Int) (h0 : 0 ≤ i) (h1 : i < 65536) (hst : 0 ≤ st ∧ st < 4) :
    ACalls E 71 [.ptr p 0, .int .u16 i, .int .u8 st] W fun Y W' => Y = .int .i64 (endR s i st).2 ∧ St W' p ra rw (endR s i st).1 ∧ Fr W W' p ra rw := by
  refine ACalls.of hP Tryz.func71 ok29e (by simp) fun _ hok => ?_
  refine awp_start hok ?_
  have hla := h.la
  have hlp := h.lp
  have hX : ∀ l, St (X W W.nx l) p ra rw s := fun l => ⟨by rw [X_old h.lp]; exact h.hp, by rw [X_old h.la]; exact h.ha, by obtain ⟨ws, cw, a, b⟩ := h.hw; exact ⟨ws, cw, by rw [X_old h.lw]; exact a, b⟩, h.ne, by simp [X_nx, rf]; omega, by have := h.la; simp [X_nx, rf]; omega, by have := h.lw; simp [X_nx, rf]; omega, h.ok⟩
  simp only [c29, BS, BC, e_seq, ↓reduceIte, Nat.reduceEqDiff, reduceCtorEq]
  refine pc (open_c hP _ (hX _) i h0 h1) ?_
  rcases openR_cases s i with ⟨t, hf, ht0, ho, he⟩ | ⟨ho, he⟩
  · obtain ⟨tm, ti, tok⟩ := find_ok h.ok hf
    have hr : ∀ l, (X W W.nx l).get ra = some (.map (esFrom 0 s) s.length) := fun l => by rw [X_old h.la]; exact h.ha
    obtain ⟨e, he2⟩ := es_some hf 0
    simp (config := { maxSteps := 2000000 }) (disch := omega) only [ho, BS, BC, e_seq, cond_if, ↓reduceIte, Nat.reduceEqDiff, reduceCtorEq, BM, BD, Nat.reduceAdd, Nat.reduceLeDiff, Nat.reduceLT, msV_one, lsV_one, Tx.V, beq_self_eq_true, h.hp, m_mupd (hr _) (es_keys h.ok.ok h0 h1 0), he2]
    have hx : ({ t with st := st } : Tx).ok := ⟨tok.id0, tok.id1, tok.cl0, tok.cl1, tok.ms, tok.msl, tok.lsl, tok.ls, hst⟩
    have hu : updK (V.int IntKind.u16 i) (V.agg [V.int IntKind.u16 t.id, V.int IntKind.u8 t.client, msV t.ms, lsV t.ls, V.int IntKind.u8 st]) (esFrom 0 s) = esFrom 0 (upd s { t with st := st }) := by
      rw [← es_upd, ← ti]; rfl
    have hW := h.upd (x := { t with st := st }) tm rfl rfl hx
    refine ⟨_, rfl, _, W.put ra (.map (esFrom 0 (upd s { t with st := st })) s.length), ?_, Nat.le_refl _, by rw [he], by rw [he]; exact hW, Fr.put⟩
    rw [hu]
    exact backX' rfl (ok_put hok h.la (es_bel _ _ _)) rfl
  · simp (config := { maxSteps := 2000000 }) (disch := omega) only [ho, BS, BC, e_seq, cond_if, ↓reduceIte, Nat.reduceEqDiff, BM, BD, Nat.reduceAdd, Nat.reduceLeDiff, Nat.reduceLT, msV_one, lsV_one, Tx.V, Tx.zero, show ((7 : Int) == 0) = false by decide]
    exact ⟨_, rfl, _, W, backX hok rfl, Nat.le_refl _, by rw [he], by rw [he]; exact h, Fr.refl _ _ _ _⟩
theorem abort_c (hP : E.P = Tryz.prog) (W : AW) {p ra rw : Nat} {s : Str} (h : St W p ra rw s) (i : Int) (h0 : 0 ≤ i) (h1 : i < 65536) :
    ACalls E 32 [.ptr p 0, .int .u16 i] W fun Y W' => Y = .int .i64 (endR s i 2).2 ∧ St W' p ra rw (endR s i 2).1 ∧ Fr W W' p ra rw := by
  refine ACalls.of hP Tryz.func32 ok9e (by simp) fun _ hok => ?_
  simp only [c9, BS, BC, e_seq, ↓reduceIte, Nat.reduceEqDiff, reduceCtorEq]
  refine (end_c hP _ h i 2 h0 h1 (by decide)).mono ?_
  rintro Y W' ⟨rfl, h1, h2⟩
  simp only [BS, BC, ↓reduceIte]
  exact ⟨_, rfl, _, _, .weak weak_id, by rw [h2.nx]; exact Nat.le_refl _, rfl, h1, h2⟩
theorem info_c (hP : E.P = Tryz.prog) (W : AW) {p ra rw : Nat} {s : Str} (h : St W p ra rw s) (i : Int) (h0 : 0 ≤ i) (h1 : i < 65536) :
    ACalls E 38 [.ptr p 0, .int .u16 i] W fun Y W' => Y = .int .i64 (endR s i 3).2 ∧ St W' p ra rw (endR s i 3).1 ∧ Fr W W' p ra rw := by
  refine ACalls.of hP Tryz.func38 ok10e (by simp) fun _ hok => ?_
  simp only [c10, BS, BC, e_seq, ↓reduceIte, Nat.reduceEqDiff, reduceCtorEq]
  refine (end_c hP _ h i 3 h0 h1 (by decide)).mono ?_
  rintro Y W' ⟨rfl, h1, h2⟩
  simp only [BS, BC, ↓reduceIte]
  exact ⟨_, rfl, _, _, .weak weak_id, by rw [h2.nx]; exact Nat.le_refl _, rfl, h1, h2⟩


theorem St.ex {W W1 : AW} {p ra rw : Nat} {s : Str} (h : St W p ra rw s) (x : Ex W W1) : St W1 p ra rw s := by
  obtain ⟨ws, cw, a, b⟩ := h.hw
  have := x.nx
  have := h.lp
  have := h.la
  have := h.lw
  exact ⟨by rw [x.get _ h.lp]; exact h.hp, by rw [x.get _ h.la]; exact h.ha, ⟨ws, cw, by rw [x.get _ h.lw]; exact a, b⟩, h.ne, by omega, by omega, by omega, h.ok⟩
def reads (l : List Mi) : Nat := (l.filter (·.read)).length
def commitR (s : Str) (i : Int) (ls : List (Option (List Int))) : Str × Int := match find s i with
  | some t => if t.st = 0 then (if okC ls = true then (if reads t.ms = ls.length then (upd s { t with st := 1, ls := ls }, 0) else (s, 10)) else (s, 4)) else (s, 7)
  | none => (s, 7)
theorem reads_take {l : List Mi} {k : Nat} (h : k < l.length) : reads (l.take (k + 1)) = reads (l.take k) + (if l[k].read = true then 1 else 0) := by
  rw [List.take_add_one, List.getElem?_eq_getElem h]
  simp only [reads, Option.toList_some, List.filter_append, List.length_append]
  cases hr : l[k].read <;> simp [hr]
theorem reads_le (l : List Mi) : reads l ≤ l.length := List.length_filter_le _ _
theorem lists_r (hP : E.P = Tryz.prog) (W : AW) {r : V} {ls : List (Option (List Int))} (h : isLs r ls) (_ : r.bel 0 = true) (hl : ls.length < 2 ^ 40) (hs : ∀ x ∈ ls, (nums x).length < 2 ^ 40) : ACalls E 74 [r] W fun Y W' => Y = lsV ls ∧ W' = W := by
  obtain ⟨xs, i1, i2, i3⟩ := h
  have hL : ∀ x ∈ xs, isL x := by
    intro x hx
    obtain ⟨k, hk, rfl⟩ := List.mem_iff_getElem.1 hx
    rcases i3 k hk (by omega) with ⟨e, _⟩ | ⟨e, _⟩ | ⟨f, l, e1, e2⟩
    · exact .inl e
    · exact .inr (.inl e)
    · refine .inr (.inr ⟨f, intsV l, e2, belL_ints l 0, ?_⟩)
      rw [ints_len]
      have := hs _ (List.getElem_mem (l := ls) (by omega : k < ls.length))
      rw [e1] at this; simpa [nums] using this
  have hv : listsV xs = lsV ls := by
    unfold listsV lsV
    by_cases h0 : ls = []
    · have : xs = [] := List.length_eq_zero_iff.1 (by rw [i2, h0]; rfl)
      simp [h0, this]
    · have : xs ≠ [] := by rintro rfl; exact h0 (List.length_eq_zero_iff.1 (by rw [← i2]; rfl))
      simp only [h0, this, if_false]
      congr 1
      refine List.ext_getElem (by simp [i2]) fun k h1 h2 => ?_
      rw [List.getElem_map, List.getElem_map]
      rcases i3 k (by simpa using h1) (by simpa using h2) with ⟨e, e'⟩ | ⟨e, e'⟩ | ⟨f, l, e1, e2⟩
      · rw [e, e']; rfl
      · rw [e, e']; rfl
      · rw [e1, e2]; cases l <;> rfl
  rw [← hv]
  exact lists_c hP W r xs i1 hL (by omega)
theorem commit_c (hP : E.P = Tryz.prog) (W : AW) {p ra rw : Nat} {s : Str} (h : St W p ra rw s) (i : Int) (h0 : 0 ≤ i) (h1 : i < 65536) {r : V} {ls : List (Option (List Int))} (hr : isLs r ls) (hb : r.bel 0 = true) (hl : ls.length < 2 ^ 40) (hs : ∀ x ∈ ls, (nums x).length < 2 ^ 40 ∧ ∀ n ∈ nums x, 0 ≤ n ∧ n < 65536) :
    ACalls E 35 [.ptr p 0, .int .u16 i, r] W fun Y W' => Y = .int .i64 (commitR s i ls).2 ∧ St W' p ra rw (commitR s i ls).1 ∧ Fr W W' p ra rw := by
  refine ACalls.of hP Tryz.func35 ok8e (by simp) fun _ hok => ?_
  refine awp_start hok ?_
  have hla := h.la
  have hlp := h.lp
  obtain ⟨xs, i1, i2, i3⟩ := id hr
  simp only [c8, BS, BC, e_seq, ↓reduceIte, Nat.reduceEqDiff, reduceCtorEq]
  refine pc (open_c hP _ (h.ex .x0) i h0 h1) ?_
  rcases openR_cases s i with ⟨t, hf, ht0, ho, he⟩ | ⟨ho, he⟩
  · obtain ⟨tm, ti, tok⟩ := find_ok h.ok hf
    simp only [ho, BS, BC, e_seq, cond_if, ↓reduceIte, Nat.reduceEqDiff, BM, BD, Nat.reduceAdd, Nat.reduceLeDiff, Nat.reduceLT, msV_one, lsV_one, Tx.V, show ((0 : Int) != 0) = false by decide, i1.cells]
    refine pc (checkC_c hP _ i hr hl (fun x hx => (hs x hx).1) hb) ?_
    by_cases hc : okC ls = true
    · simp only [if_pos hc, BS, BC, e_seq, cond_if, ↓reduceIte, Nat.reduceEqDiff, show ((0 : Int) != 0) = false by decide, i1.frz]
      refine pc (lists_r hP _ hr hb hl (fun x hx => (hs x hx).1)) ?_
      simp only [BS, BC, e_seq, ↓reduceIte, Nat.reduceEqDiff, BM, BD, Nat.reduceAdd, Nat.reduceLeDiff, Nat.reduceLT, lsV_cells, lsV_one, (msV_isMs t.ms).len, List.length_map]
      rw [e_loop]
      obtain ⟨W0, hW0⟩ : ∃ W0, W0 = X W W.nx [AObj.row [V.int IntKind.u16 t.id, V.int IntKind.u8 t.client, msV t.ms, lsV ls, V.int IntKind.u8 1]] := ⟨_, rfl⟩
      rw [← hW0]
      have hC0 : Cl W0 := by rw [hW0]; exact Cl.X
      have hn0 : W0.nx = W.nx + 1 := by rw [hW0]; rfl
      have hg0 : W0.get (rf W.nx 0) = some (AObj.row [V.int IntKind.u16 t.id, V.int IntKind.u8 t.client, msV t.ms, lsV ls, V.int IntKind.u8 1]) := by rw [hW0, X_get]; rfl
      have hE0 : Ex W W0 := by rw [hW0]; exact .x0
      have hrf : rf W.nx 0 < W0.nx := by rw [hn0]; simp [rf]
      have hml := tok.msl
      refine ALoop.go (B := awp E _) (fun h => awp_mono _ h) (fun (k : Nat) A1 W1 => A1 0 = some (.ptr p 0) ∧ A1 1 = some (.int .u16 i) ∧ A1 2 = some r ∧ A1 7 = some (.ptr (rf W.nx 0) 0) ∧ A1 9 = some (.int .i64 (reads (t.ms.take k))) ∧ A1 31 = some (msV t.ms) ∧ A1 32 = some (.int .i64 t.ms.length) ∧ A1 33 = some (.int .i64 k) ∧ k ≤ t.ms.length ∧ Ex W0 W1) (fun k => t.ms.length - k) 0
        ⟨rfl, rfl, rfl, rfl, rfl, rfl, rfl, rfl, Nat.zero_le _, Ex.refl hC0⟩ ?_
      rintro k A1 W1 ⟨g0, g1, g2, g7, g9, g31, g32, g33, gk, gE⟩ _
      by_cases hk1 : k < t.ms.length
      · have hrt := reads_take hk1
        have hrl := reads_le (t.ms.take k)
        have hrl' : (t.ms.take k).length ≤ k := by simp; omega
        have hnx := gE.nx
        refine awp_startC gE.cl ?_
        cases hm : (t.ms[k]).read with
        | true =>
          simp (config := { maxSteps := 2000000 }) (disch := omega) only [BS, BC, e_seq, cond_if, ↓reduceIte, Nat.reduceEqDiff, reduceCtorEq, BM, BD, Nat.reduceAdd, Nat.reduceLeDiff, Nat.reduceLT, g0, g1, g2, g7, g9, g31, g32, g33, clt, hk1, decide_true, (msV_isMs t.ms).idx (mi_at hk1), Mi.V, hm, wadd1]
          exact ⟨k + 1, ⟨(by first | trivial | rfl | omega), (by first | trivial | rfl | omega), (by first | trivial | rfl | omega), (by first | trivial | rfl | omega), by rw [hrt, hm]; rfl, (by first | trivial | rfl | omega), (by first | trivial | rfl | omega), (by first | trivial | rfl | omega), (by first | trivial | rfl | omega), gE.X⟩, by omega, by simp only [rf]; omega⟩
        | false =>
          simp (config := { maxSteps := 2000000 }) (disch := omega) only [BS, BC, e_seq, cond_if, ↓reduceIte, Nat.reduceEqDiff, reduceCtorEq, BM, BD, Nat.reduceAdd, Nat.reduceLeDiff, Nat.reduceLT, g0, g1, g2, g7, g9, g31, g32, g33, clt, hk1, decide_true, (msV_isMs t.ms).idx (mi_at hk1), Mi.V, hm, wadd1]
          exact ⟨k + 1, ⟨(by first | trivial | rfl | omega), (by first | trivial | rfl | omega), (by first | trivial | rfl | omega), (by first | trivial | rfl | omega), by rw [hrt, hm]; rfl, (by first | trivial | rfl | omega), (by first | trivial | rfl | omega), (by first | trivial | rfl | omega), (by first | trivial | rfl | omega), gE.X⟩, by omega, by simp only [rf]; omega⟩
      · obtain rfl : k = t.ms.length := by omega
        rw [List.take_length] at g9
        by_cases hq : reads t.ms = ls.length
        · obtain ⟨e, he2⟩ := es_some hf 0
          have hE1 := hE0.trans gE
          have hlen0 : ((reads t.ms : Int) != (ls.length : Int)) = false := by simp [hq]
          have hx : ({ t with st := 1, ls := ls } : Tx).ok := by
            refine ⟨tok.id0, tok.id1, tok.cl0, tok.cl1, tok.ms, tok.msl, ?_, ?_, by show (0 : Int) ≤ 1 ∧ (1 : Int) < 4; decide⟩
            · simp only [okC, Bool.and_eq_true, decide_eq_true_eq] at hc; exact hc.1
            · intro o ho'
              refine ⟨?_, (hs o ho').2⟩
              simp only [okC, Bool.and_eq_true, Bool.not_eq_true', List.any_eq_false] at hc
              have := hc.2 o ho'
              simp only [longL, decide_eq_true_eq] at this
              omega
          have hu : updK (V.int IntKind.u16 i) (V.agg [V.int IntKind.u16 t.id, V.int IntKind.u8 t.client, msV t.ms, lsV ls, V.int IntKind.u8 1]) (esFrom 0 s) = esFrom 0 (upd s { t with st := 1, ls := ls }) := by
            rw [← es_upd, ← ti]; rfl
          have eR : commitR s i ls = (upd s { t with st := 1, ls := ls }, 0) := by simp [commitR, hf, ht0, hc, hq]
          have hr1 : W1.get ra = some (.map (esFrom 0 s) s.length) := by rw [hE1.get _ h.la]; exact h.ha
          have hp1 := (hE1.get _ h.lp).trans h.hp
          have h71 := (gE.get _ hrf).trans hg0
          simp (config := { maxSteps := 2000000 }) (disch := omega) only [BS, BC, e_seq, cond_if, ↓reduceIte, Nat.reduceEqDiff, reduceCtorEq, BM, BD, Nat.reduceAdd, Nat.reduceLeDiff, g0, g1, g2, g7, g9, g32, g33, clt, hk1, decide_false, i1.len, i2, hlen0, hp1, h71, m_mupd hr1 (es_keys h.ok.ok h0 h1 0), he2, hu]
          have hW := h.upd (x := { t with st := 1, ls := ls }) tm rfl rfl hx
          refine ⟨_, rfl, _, W.put ra (.map (esFrom 0 (upd s { t with st := 1, ls := ls })) s.length), ?_, Nat.le_refl _, by rw [eR], by rw [eR]; exact hW, Fr.put⟩
          refine .weak (weak_back (ok_put hok h.la (es_bel _ _ _)) rfl fun x hx => ?_)
          by_cases e : x = ra
          · subst e; rw [put_at, put_at]
          · rw [put_ne e, put_ne e]; exact hE1.get x hx
        · have hlen0 : ((reads t.ms : Int) != (ls.length : Int)) = true := by simp; omega
          have e : commitR s i ls = (s, 10) := by simp [commitR, hf, ht0, hc, hq]
          simp (config := { maxSteps := 2000000 }) (disch := omega) only [BS, BC, e_seq, cond_if, ↓reduceIte, Nat.reduceEqDiff, g2, g9, g32, g33, clt, hk1, decide_false, i1.len, i2, hlen0]
          exact ⟨_, rfl, _, W, (hE0.trans gE).back hok rfl, Nat.le_refl _, by rw [e], by rw [e]; exact h, Fr.refl _ _ _ _⟩
    · simp only [if_neg hc, BS, BC, e_seq, cond_if, ↓reduceIte, show ((4 : Int) != 0) = true by decide]
      have e : commitR s i ls = (s, 4) := by simp [commitR, hf, ht0, hc]
      exact ⟨_, rfl, _, W, backX hok rfl, Nat.le_refl _, by rw [e], by rw [e]; exact h, Fr.refl _ _ _ _⟩
  · have e : commitR s i ls = (s, 7) := by
      have := he 0
      unfold commitR; unfold endR at this
      cases hf : find s i with
      | none => rfl
      | some t =>
        rw [hf] at this
        by_cases h0 : t.st = 0
        · simp [h0] at this
        · simp [h0]
    simp (config := { maxSteps := 2000000 }) (disch := omega) only [ho, BS, BC, e_seq, cond_if, ↓reduceIte, Nat.reduceEqDiff, BM, BD, Nat.reduceAdd, Nat.reduceLeDiff, Nat.reduceLT, msV_one, lsV_one, Tx.V, Tx.zero, show ((7 : Int) != 0) = true by decide]
    exact ⟨_, rfl, _, W, backX hok rfl, Nat.le_refl _, by rw [e], by rw [e]; exact h, Fr.refl _ _ _ _⟩
end Go.AL.S
set_option maxRecDepth 100000
namespace Go.AL.S
open Go Go.AL Go.Proofs
/- maps.Copy[map[umpire/txn.element]uint16,map[umpire/txn.element]uint16,umpire/txn.element,uint16] -/
def c31 : AC := (AC.seq (AC.reg [
  ⟨(some 6), .mov, [.t 1], none⟩,
  ⟨(some 7), .rangem, [.t 6], none⟩])
 (AC.block 0
  (AC.loop
   (AC.seq (AC.reg [
    ⟨(some 8), .nextm, [.t 7], none⟩,
    ⟨(some 9), .ext 0, [.t 8], none⟩])
   (AC.seq (AC.cond (.t 9)
    AC.skip
    (AC.exit 0))
   (AC.block 1
    (AC.seq (AC.reg [
     ⟨(some 10), .entry, [.t 7], none⟩,
     ⟨(some 11), .ext 0, [.t 10], none⟩,
     ⟨(some 12), .ext 1, [.t 10], none⟩,
     ⟨(some 4), .alloc [.int .u8 0, .int .u16 0], [], none⟩,
     ⟨none, .store 2, [.t 4, .t 11], none⟩,
     ⟨(some 5), .mov, [.t 12], none⟩])
    (AC.reg [
     ⟨(some 13), .mov, [.t 0], none⟩,
     ⟨(some 14), .load true 2, [.t 4], none⟩,
     ⟨(some 15), .mov, [.t 5], none⟩,
     ⟨none, .mupd (true, [.i .u8, .i .u16]), [.t 13, .t 14, .t 15], none⟩]))))))))
def r31 : AC × List RT × Nat := (c31, [], 16)
theorem ok31e : compF Tryz.prog Tryz.f77 ⟨false, false, []⟩ = some r31 := by kernel_rfl
def c11_0 : AC := (AC.seq (AC.reg [
    ⟨(some 40), .bin .lss, [.t 39, .t 38], none⟩])
   (AC.seq (AC.cond (.t 40)
    AC.skip
    (AC.exit 1))
   (AC.seq (AC.block 2
    (AC.seq (AC.reg [
     ⟨(some 41), .idxp 3, [.t 37, .t 39], none⟩,
     ⟨(some 42), .load true 3, [.t 41], none⟩,
     ⟨(some 11), .alloc [.bool false, .int .u8 0, .int .u16 0], [], none⟩,
     ⟨none, .store 3, [.t 11, .t 42], none⟩])
    (AC.seq (AC.reg [
     ⟨(some 43), .fld 1, [.t 11], none⟩,
     ⟨(some 44), .load false 1, [.t 43], none⟩,
     ⟨(some 45), .fld 2, [.t 11], none⟩,
     ⟨(some 46), .load false 1, [.t 45], none⟩,
     ⟨(some 47), .build [.int .u8 0, .int .u16 0] [(0, 1), (1, 1)], [.t 44, .t 46], none⟩,
     ⟨(some 12), .alloc [.int .u8 0, .int .u16 0], [], none⟩,
     ⟨none, .store 2, [.t 12, .t 47], none⟩])
    (AC.seq (AC.seq (AC.reg [
     ⟨(some 48), .fld 0, [.t 11], none⟩,
     ⟨(some 49), .load false 1, [.t 48], none⟩])
    (AC.cond (.t 49)
     (AC.exit 2)
     AC.skip))
    (AC.seq (AC.reg [
     ⟨(some 51), .mov, [.t 9], none⟩,
     ⟨(some 52), .load true 2, [.t 12], none⟩,
     ⟨(some 53), .lookup (true, [.i .u8, .i .u16]) (.int .u16 0) true, [.t 51, .t 52], none⟩,
     ⟨(some 50), .mov, [.t 53], none⟩,
     ⟨(some 54), .ext 0, [.t 50], none⟩,
     ⟨(some 55), .ext 1, [.t 50], none⟩,
     ⟨(some 13), .mov, [.t 54], none⟩,
     ⟨(some 14), .mov, [.t 55], none⟩])
    (AC.seq (AC.seq (AC.par
     (PT.step 0 ⟨(some 57), .mov, [.t 0], none⟩
     (PT.step 1 ⟨(some 58), .nilck, [.t 57], none⟩
     (PT.step 2 ⟨(some 59), .fld 1, [.t 58], none⟩
     (PT.step 3 ⟨(some 60), .load false 1, [.t 59], none⟩
     (PT.step 4 ⟨(some 61), .load true 2, [.t 12], none⟩
     (PT.step 5 ⟨(some 62), .lookup (true, [.i .u8, .i .u16]) (.int .u16 0) true, [.t 60, .t 61], none⟩
     (PT.step 6 ⟨(some 56), .mov, [.t 62], none⟩
     (PT.step 7 ⟨(some 63), .ext 0, [.t 56], none⟩
     (PT.step 8 ⟨(some 64), .ext 1, [.t 56], none⟩
     (PT.step 9 ⟨(some 15), .mov, [.t 63], none⟩
     (PT.step 10 ⟨(some 16), .mov, [.t 64], none⟩
     PT.done))))))))))))
    (AC.seq (AC.reg [
     ⟨(some 65), .mov, [.t 16], none⟩,
     ⟨(some 66), .mov, [.t 65], none⟩,
     ⟨(some 67), .mov, [.t 14], (some (66, false))⟩,
     ⟨(some 68), .pick, [.t 66, .c (.bool true), .t 67], none⟩])
    (AC.cond (.t 68)
     (AC.seq (AC.reg [
      ⟨(some 8), .mov, [.c (.int .i64 8)], none⟩])
     AC.ret)
     AC.skip)))
    (AC.reg [
     ⟨(some 69), .mov, [.t 9], none⟩,
     ⟨(some 70), .load true 2, [.t 12], none⟩,
     ⟨(some 71), .mov, [.t 2], none⟩,
     ⟨none, .mupd (true, [.i .u8, .i .u16]), [.t 69, .t 70, .t 71], none⟩])))))))
   (AC.reg [
    ⟨(some 72), .bin .add, [.t 39, .c (.int .i64 1)], none⟩,
    ⟨(some 39), .mov, [.t 72], none⟩]))))
/- (*umpire/txn.Store).Begin -/
def c11 : AC := (AC.seq (AC.reg [
  ⟨(some 8), .mov, [.c (.int .i64 0)], none⟩])
 (AC.seq (AC.block 0
  (AC.seq (AC.reg [
   ⟨(some 18), .mov, [.t 0], none⟩,
   ⟨(some 19), .call 48, [.t 18], none⟩,
   ⟨(some 20), .un .not, [.t 19], none⟩,
   ⟨(some 17), .mov, [.t 20], none⟩])
  (AC.cond (.t 17)
   (AC.seq (AC.reg [
    ⟨(some 8), .mov, [.c (.int .i64 1)], none⟩])
   AC.ret)
   (AC.seq (AC.reg [
    ⟨(some 22), .mov, [.t 1], none⟩,
    ⟨(some 23), .mov, [.t 2], none⟩,
    ⟨(some 24), .mov, [.t 3], none⟩,
    ⟨(some 25), .build [.int .u8 0, .int .u8 0, .int .u16 0, .int .u8 0, .int .u8 0, .int .u8 0, .int .u16 0, .int .u16 0, .int .u8 0, .int .u16 0, .nilsl, .nilsl, .int .u8 0, .int .i64 0, .int .i64 0, .int .i64 0, .bool false, .bool false, .bool false] [(0, 1), (1, 1), (2, 1), (10, 1)], [.c (.int .u8 5), .t 22, .t 23, .t 24], none⟩,
    ⟨(some 26), .call 73, [.t 25], none⟩,
    ⟨(some 27), .bin .neq, [.t 26, .c (.int .i64 0)], none⟩,
    ⟨(some 21), .mov, [.t 27], none⟩])
   (AC.cond (.t 21)
    (AC.seq (AC.reg [
     ⟨(some 8), .mov, [.c (.int .i64 4)], none⟩])
    AC.ret)
    (AC.seq (AC.reg [
     ⟨(some 29), .mov, [.t 2], none⟩,
     ⟨(some 30), .conv .i64, [.t 29], none⟩,
     ⟨(some 31), .mov, [.t 0], none⟩,
     ⟨(some 32), .nilck, [.t 31], none⟩,
     ⟨(some 33), .fld 2, [.t 32], none⟩,
     ⟨(some 34), .load false 1, [.t 33], none⟩,
     ⟨(some 35), .bin .leq, [.t 30, .t 34], none⟩,
     ⟨(some 28), .mov, [.t 35], none⟩])
    (AC.cond (.t 28)
     (AC.seq (AC.reg [
      ⟨(some 8), .mov, [.c (.int .i64 8)], none⟩])
     AC.ret)
     AC.skip)))))))
 (AC.seq (AC.reg [
  ⟨(some 36), .mkmap, [], none⟩,
  ⟨(some 9), .mov, [.t 36], none⟩])
 (AC.seq (AC.seq (AC.reg [
  ⟨(some 37), .mov, [.t 3], none⟩,
  ⟨(some 38), .len 1 0, [.t 37], none⟩,
  ⟨(some 39), .mov, [.c (.int .i64 0)], none⟩])
 (AC.block 1
  (AC.loop c11_0)))
 (AC.seq (AC.reg [
  ⟨(some 73), .mov, [.t 0], none⟩,
  ⟨(some 74), .nilck, [.t 73], none⟩,
  ⟨(some 75), .fld 1, [.t 74], none⟩,
  ⟨(some 76), .load false 1, [.t 75], none⟩,
  ⟨(some 77), .mov, [.t 9], none⟩,
  ⟨(some 78), .call 77, [.t 76, .t 77], none⟩])
 (AC.seq (AC.par
  (PT.step 0 ⟨(some 79), .mov, [.t 0], none⟩
  (PT.step 1 ⟨(some 80), .nilck, [.t 79], none⟩
  (PT.step 2 ⟨(some 81), .fld 0, [.t 80], none⟩
  (PT.step 4 ⟨(some 83), .mov, [.t 2], none⟩
  (PT.step 5 ⟨(some 84), .mov, [.t 2], none⟩
  (PT.step 6 ⟨(some 85), .mov, [.t 1], none⟩
  (PT.step 7 ⟨(some 86), .mov, [.t 3], none⟩
  (PT.step 3 ⟨(some 82), .load false 1, [.t 81], none⟩
  (PT.step 8 ⟨(some 87), .pcall 78, [.t 86], none⟩
  (PT.step 9 ⟨(some 88), .build [.int .u16 0, .int .u8 0, .nilsl, .nilsl, .int .u8 0] [(0, 1), (1, 1), (2, 1)], [.t 84, .t 85, .t 87], none⟩
  (PT.step 10 ⟨none, .mupd (false, [.i .u16]), [.t 82, .t 83, .t 88], none⟩
  PT.done))))))))))))
 (AC.seq (AC.reg [
  ⟨(some 89), .mov, [.t 0], none⟩,
  ⟨(some 90), .mov, [.t 2], none⟩,
  ⟨(some 91), .conv .i64, [.t 90], none⟩,
  ⟨(some 92), .nilck, [.t 89], none⟩,
  ⟨(some 93), .fld 2, [.t 92], none⟩,
  ⟨none, .store 1, [.t 93, .t 91], none⟩])
 (AC.seq (AC.reg [
  ⟨(some 8), .mov, [.c (.int .i64 0)], none⟩])
 AC.ret))))))))
def r11 : AC × List RT × Nat := (c11, [.tmp 8], 94)
theorem ok11e : compF Tryz.prog Tryz.f39 ⟨false, false, []⟩ = some r11 := by kernel_rfl
variable {E : Env}
theorem keysK_bel {ws : List En} (h : KeysK ws) (m : Nat) : (ws.all fun e => e.1.bel m && e.2.1.bel m) = true := by
  rw [List.all_eq_true]
  intro e he
  obtain ⟨k, v, n, e1, e2, _⟩ := h e he
  rw [e1, e2]; rfl
/-- A map's entry, written. -/
def mset (key x : V) (es : List En) (c : Nat) : List En × Nat := match findK key es with
  | some _ => (updK key x es, c)
  | none => (es ++ [(key, x, c)], c + 1)
theorem m_mset {W : AW} {K : V → AW → Prop} {sh : Bool × List SK} {key x : V} {r c : Nat} {es : List En} (h : W.get r = some (.map es c)) (hk : keysOk sh key es) : sem E (.mupd sh) [.map r, key, x] W K = K .undef (W.put r (.map (mset key x es c).1 (mset key x es c).2)) := by
  rw [m_mupd h hk, mset]
  cases findK key es <;> rfl
theorem mset_keys {k v n : Int} {es : List En} {c : Nat} (h : KeysK es) (h0 : 0 ≤ k) (h1 : k < 256) (h2 : 0 ≤ v) (h3 : v < 65536) : KeysK (mset (kV k v) (.int .u16 n) es c).1 := by
  have hu : ∀ l : List En, KeysK l → KeysK (updK (kV k v) (.int .u16 n) l) := by
    intro l
    induction l with
    | nil => intro _ e he; simp [updK] at he
    | cons x l ih =>
      intro hl e he
      simp only [updK] at he
      split at he
      · rcases List.mem_cons.1 he with rfl | he
        · exact ⟨k, v, n, rfl, rfl, h0, h1, h2, h3⟩
        · exact hl e (by simp [he])
      · rcases List.mem_cons.1 he with rfl | he
        · exact hl _ (by simp)
        · exact ih (fun e he => hl e (by simp [he])) e he
  unfold mset
  split
  · exact hu es h
  · intro e he
    rcases List.mem_append.1 he with he | he
    · exact h e he
    · rw [List.mem_singleton.1 he]; exact ⟨k, v, n, rfl, rfl, h0, h1, h2, h3⟩
theorem findK_app {key : V} {a b : List En} : findK key (a ++ b) = (findK key a).or (findK key b) := by
  induction a with
  | nil => rfl
  | cons x a ih =>
    simp only [List.cons_append, findK]
    split
    · rfl
    · exact ih
theorem mset_val {k v : Int} {x : V} {es : List En} {c : Nat} (h : KeysK es) (k' v' : Int) : (findK (kV k' v') (mset (kV k v) x es c).1).map (·.2.1) = if k' = k ∧ v' = v then some x else (findK (kV k' v') es).map (·.2.1) := by
  have hu : ∀ l : List En, KeysK l → (findK (kV k v) l).isSome → (findK (kV k' v') (updK (kV k v) x l)).map (·.2.1) = if k' = k ∧ v' = v then some x else (findK (kV k' v') l).map (·.2.1) := by
    intro l
    induction l with
    | nil => intro _ h; cases h
    | cons y l ih =>
      intro hl hs
      obtain ⟨a, b, n, e1, e2, _⟩ := hl y (by simp)
      simp only [updK, findK, e1, keq_kV] at hs ⊢
      by_cases hy : k = a ∧ v = b
      · obtain ⟨rfl, rfl⟩ := hy
        simp only [decide_true, Bool.and_self, if_true, findK, keq_kV]
        by_cases hk : k' = k ∧ v' = v
        · simp [hk]
        · have : (decide (k' = k) && decide (v' = v)) = false := by simp; intro e; exact fun e' => hk ⟨e, e'⟩
          simp only [this, hk, Bool.false_eq_true, if_false]
      · have hy' : (decide (k = a) && decide (v = b)) = false := by simp; intro e; exact fun e' => hy ⟨e, e'⟩
        simp only [hy', Bool.false_eq_true, if_false, findK, e1, keq_kV] at hs ⊢
        by_cases hk : k' = a ∧ v' = b
        · obtain ⟨rfl, rfl⟩ := hk
          have : ¬ (k' = k ∧ v' = v) := fun e => hy ⟨e.1.symm, e.2.symm⟩
          simp [this]
        · have : (decide (k' = a) && decide (v' = b)) = false := by simp; intro e; exact fun e' => hk ⟨e, e'⟩
          simp only [this, Bool.false_eq_true, if_false]
          exact ih (fun e he => hl e (by simp [he])) hs
  unfold mset
  cases hf : findK (kV k v) es with
  | some e => exact hu es h (by rw [hf]; rfl)
  | none =>
    simp only [findK_app, findK, keq_kV]
    by_cases hk : k' = k ∧ v' = v
    · obtain ⟨rfl, rfl⟩ := hk
      simp [hf]
    · have : (decide (k' = k) && decide (v' = v)) = false := by simp; intro e; exact fun e' => hk ⟨e, e'⟩
      simp only [this, hk, Bool.false_eq_true, if_false]
      cases findK (kV k' v') es <;> rfl
theorem kV_inj {k v k' v' : Int} : kV k v = kV k' v' ↔ k = k' ∧ v = v' := by simp [kV]
def inK (l : List En) (k v : Int) : Bool := l.any fun e => (kV k v).keq e.1
theorem copy_c (hP : E.P = Tryz.prog) (W : AW) {rw mr cw c : Nat} {ws es : List En} {i : Int} (hw : W.get rw = some (.map ws cw)) (hm : W.get mr = some (.map es c)) (hne : rw ≠ mr) (hlw : rw < W.nx) (hlm : mr < W.nx) (hf : Fresh es c) (hwk : KeysK ws) (hek : KeysK es) (hv : ∀ e ∈ es, e.2.1 = .int .u16 i) :
    ACalls E 77 [.map rw, .map mr] W fun _ W' => ∃ ws' cw', W' = W.put rw (.map ws' cw') ∧ KeysK ws' ∧ ∀ k v, (findK (kV k v) ws').map (·.2.1) = if inK es k v = true then some (.int .u16 i) else (findK (kV k v) ws).map (·.2.1) := by
  refine ACalls.of hP Tryz.func77 ok31e (by simp) fun _ hok => ?_
  simp only [c31, BS, BC, e_seq, ↓reduceIte, sem_rangem hm, e_loop]
  have hn' : mr ≠ W.nx := by omega
  have hn2 : rw ≠ W.nx := by omega
  refine ALoop.go (B := awp E _) (fun h => awp_mono _ h) (fun (done : List En) A1 W1 => A1 0 = some (.map rw) ∧ A1 7 = some (.ptr W.nx 0) ∧ Cl W1 ∧ W.nx < W1.nx ∧ W1.get W.nx = some (.iter (some mr) c (stamps done) c) ∧ (∀ x, x < W.nx → x ≠ rw → W1.get x = W.get x) ∧ (stamps done).Nodup ∧ (∀ e ∈ done, e ∈ es) ∧
      ∃ ws' cw', W1.get rw = some (.map ws' cw') ∧ KeysK ws' ∧ ∀ k v, (findK (kV k v) ws').map (·.2.1) = if inK done k v = true then some (.int .u16 i) else (findK (kV k v) ws).map (·.2.1)) (fun done => es.length - done.length) []
    ⟨rfl, rfl, ?_, by rw [alloc_nx]; omega, alloc_at, fun x hx _ => alloc_lt hx, List.nodup_nil, by simp, ws, cw, by rw [alloc_lt hlw]; exact hw, hwk, fun k v => rfl⟩ ?_
  · intro r hr
    rw [alloc_nx] at hr
    rw [al_gets, if_neg (by omega)]
    exact ok_Cl hok r (by omega)
  rintro done A1 W1 ⟨g0, g7, gC, gn, gi, gW, gd, gs, ws', cw', gw, gk, gv⟩ _
  have k2 : W1.get mr = some (.map es c) := by rw [gW _ hlm hne.symm]; exact hm
  simp only [BS, BC, e_seq, cond_if, ↓reduceIte, Nat.reduceEqDiff, g7, sem_nextm gi k2]
  refine ⟨?_, ?_, ?_⟩
  · cases es with
    | nil => exact .inr (.inl rfl)
    | cons e es => exact .inr (.inr ⟨e, by simp, hf.lt e (by simp)⟩)
  · intro hall
    have hp : done.Perm es := by
      refine perm_of_mem (nodup_of_stamps gd) (nodup_of_stamps hf.nodup) fun x => ⟨gs x, fun hx => ?_⟩
      by_cases hm' : x.2.2 ∈ stamps done
      · obtain ⟨x', h1, h2⟩ := List.mem_map.1 hm'
        rwa [← same_stamp hf.nodup (gs x' h1) hx h2]
      · have := hall x hx hm'
        have := hf.lt x hx
        omega
    refine ⟨_, rfl, _, W.put rw (.map ws' cw'), .weak (weak_back (ok_put hok hlw (keysK_bel gk _)) rfl fun x hx => ?_), Nat.le_refl _, ws', cw', rfl, gk, fun k v => ?_⟩
    · by_cases e : x = rw
      · subst e; rw [put_at]; exact gw
      · rw [put_ne e]; exact gW x hx e
    · rw [gv k v]
      have : inK done k v = inK es k v := by
        rw [Bool.eq_iff_iff]
        simp only [inK, List.any_eq_true, hp.mem_iff]
      rw [this]
  · intro e he hne'
    obtain ⟨k, v, n, e1, e2, q0, q1, q2, q3⟩ := hek e he
    have en : n = i := by have := hv e he; rw [e2] at this; exact (V.int.inj this).2
    subst en
    obtain ⟨W2, hW2⟩ : ∃ W2, W2 = W1.put W.nx (.iter (some mr) c (stamps done ++ [e.2.2]) c) := ⟨_, rfl⟩
    rw [← hW2]
    have j1 : W2.get W.nx = some (.iter (some mr) c (stamps done ++ [e.2.2]) c) := by rw [hW2, put_at]
    have j2 : W2.get mr = some (.map es c) := by rw [hW2, put_ne hn']; exact k2
    have j3 : (stamps done ++ [e.2.2]).getLast? = some e.2.2 := by simp
    have j4 : W2.get rw = some (.map ws' cw') := by rw [hW2, put_ne hn2]; exact gw
    have jn : W2.nx = W1.nx := by rw [hW2]; rfl
    have jC : Cl W2 := by rw [hW2]; exact gC.put gn
    rw [sem_entry j1 j2 j3 (Fresh.find hf.nodup he)]
    have hr : ∀ l, (X W2 W2.nx l).get rw = some (.map ws' cw') := fun l => by rw [X_old (by omega)]; exact j4
    rw [jC.start]
    simp (config := { maxSteps := 2000000 }) (disch := omega) only [BS, BC, ↓reduceIte, Nat.reduceEqDiff, reduceCtorEq, BM, BD, Nat.reduceAdd, Nat.reduceLeDiff, Nat.reduceLT, g0, e1, e2, kV]
    have hms : ∀ (l : List AObj) K, sem E (.mupd (true, [.i .u8, .i .u16])) [.map rw, .agg [.int .u8 k, .int .u16 v], .int .u16 n] (X W2 W2.nx l) K = K .undef ((X W2 W2.nx l).put rw (.map (mset (kV k v) (.int .u16 n) ws' cw').1 (mset (kV k v) (.int .u16 n) ws' cw').2)) := fun l K => m_mset (hr l) (ws_keys' gk q0 q1 q2 q3)
    simp (config := { maxSteps := 2000000 }) (disch := omega) only [hms, BS, ↓reduceIte, Nat.reduceEqDiff, reduceCtorEq, BM, BD, g0, g7]
    refine ⟨done ++ [e], ⟨trivial, trivial, Cl.X, ?_, ?_, ?_, ?_, ?_, (mset (kV k v) (.int .u16 n) ws' cw').1, (mset (kV k v) (.int .u16 n) ws' cw').2, ?_, mset_keys gk q0 q1 q2 q3, fun k' v' => ?_⟩, ?_, ?_⟩
    · simp only [rf]; omega
    · try rw [X_old (by omega)]
      rw [put_ne hn2.symm, j1]; simp [stamps]
    · intro x hx hxr
      try rw [X_old (by omega)]
      rw [put_ne hxr, hW2, put_ne (by omega)]
      exact gW x hx hxr
    · simp only [stamps, List.map_append, List.map_cons, List.map_nil]
      exact List.nodup_append.2 ⟨gd, by simp, fun a ha b hb => by
        rw [List.mem_singleton.1 hb]
        exact fun e' => hne' (e' ▸ ha)⟩
    · intro x hx
      rcases List.mem_append.1 hx with hx | hx
      · exact gs x hx
      · rw [List.mem_singleton.1 hx]; exact he
    · try rw [X_old (by omega)]
      rw [put_at]
    · show (findK (kV k' v') _).map _ = if inK _ k' v' = true then _ else (findK (kV k' v') ws).map _
      rw [mset_val gk, gv]
      simp only [inK, List.any_append, List.any_cons, List.any_nil, e1, keq_kV, Bool.or_false]
      by_cases hk : k' = k ∧ v' = v
      · obtain ⟨rfl, rfl⟩ := hk; simp
      · have : (decide (k' = k) && decide (v' = v)) = false := by simp; intro e; exact fun e' => hk ⟨e, e'⟩
        rw [this, Bool.or_false, if_neg hk]
        rfl
    · have : done.length < es.length := by
        have h1 := length_le_of_sub (l := done ++ [e]) (m := es) (nodup_of_stamps (by
          simp only [stamps, List.map_append, List.map_cons, List.map_nil]
          exact List.nodup_append.2 ⟨gd, by simp, fun a ha b hb => by
            rw [List.mem_singleton.1 hb]
            exact fun e' => hne' (e' ▸ ha)⟩)) (fun x hx => by
            rcases List.mem_append.1 hx with hx | hx
            · exact gs x hx
            · rw [List.mem_singleton.1 hx]; exact he)
        simp at h1; omega
      simp; omega
    · simp only [rf, alloc_nx]; omega
end Go.AL.S
set_option maxRecDepth 100000
namespace Go.AL.S
open Go Go.AL Go.Proofs
variable {E : Env}
def addsOf (l : List Mi) : List (Int × Int) := (l.filter (!·.read)).map fun m => (m.key, m.v)
def freshB (s : Str) (l : List Mi) : Bool := decide (addsOf l).Nodup && (addsOf l).all fun a => (who s a.1 a.2).isNone
def beginR (s : Str) (c i : Int) (l : List Mi) : Str × Int :=
  if okB c l = true then (if i ≤ lastId s then (s, 8) else if freshB s l = true then (s ++ [⟨i, c, l, [], 0⟩], 0) else (s, 8)) else (s, 4)
/-- The entries of one's own numbers. -/
def mineFrom (i : Int) : Nat → List (Int × Int) → List En
  | _, [] => []
  | n, a :: l => (kV a.1 a.2, .int .u16 i, n) :: mineFrom i (n + 1) l
theorem mine_app (i : Int) (a : Int × Int) : ∀ (l : List (Int × Int)) n, mineFrom i n (l ++ [a]) = mineFrom i n l ++ [(kV a.1 a.2, .int .u16 i, n + l.length)]
  | [], n => by simp [mineFrom]
  | x :: l, n => by simp only [List.cons_append, mineFrom, mine_app i a l, List.length_cons, show n + 1 + l.length = n + (l.length + 1) by omega]
theorem mine_in (i : Int) (k v : Int) : ∀ (l : List (Int × Int)) n, inK (mineFrom i n l) k v = decide ((k, v) ∈ l)
  | [], n => by simp [mineFrom, inK]
  | x :: l, n => by
    have ih := mine_in i k v l (n + 1)
    simp only [inK] at ih
    simp only [inK, mineFrom, List.any_cons, keq_kV, ih, List.mem_cons, Prod.ext_iff]
    by_cases h : k = x.1 ∧ v = x.2
    · simp [h]
    · have : (decide (k = x.1) && decide (v = x.2)) = false := by simp; intro e; exact fun e' => h ⟨e, e'⟩
      simp [this, h]
theorem mine_find (i : Int) (k v : Int) : ∀ (l : List (Int × Int)) n, ((findK (kV k v) (mineFrom i n l)).map (·.2.1)) = if (k, v) ∈ l then some (.int .u16 i) else none
  | [], n => by simp [mineFrom, findK]
  | x :: l, n => by
    have ih := mine_find i k v l (n + 1)
    simp only [mineFrom, findK, keq_kV, List.mem_cons, Prod.ext_iff]
    by_cases h : k = x.1 ∧ v = x.2
    · simp [h]
    · have : (decide (k = x.1) && decide (v = x.2)) = false := by simp; intro e; exact fun e' => h ⟨e, e'⟩
      simp only [this, h, Bool.false_eq_true, if_false, ih, false_or]
theorem mine_keys {i : Int} : ∀ {l : List (Int × Int)}, (∀ a ∈ l, 0 ≤ a.1 ∧ a.1 < 256 ∧ 0 ≤ a.2 ∧ a.2 < 65536) → ∀ n, KeysK (mineFrom i n l)
  | [], _, n => fun _ h => by simp [mineFrom] at h
  | x :: l, hl, n => by
    intro e he
    rcases List.mem_cons.1 he with rfl | he
    · obtain ⟨a, b, c, d⟩ := hl x (by simp)
      exact ⟨x.1, x.2, i, rfl, rfl, a, b, c, d⟩
    · exact mine_keys (fun a ha => hl a (by simp [ha])) _ e he
theorem mine_vals {i : Int} : ∀ {l : List (Int × Int)} n, ∀ e ∈ mineFrom i n l, e.2.1 = .int .u16 i
  | [], n => fun _ h => by simp [mineFrom] at h
  | x :: l, n => by
    intro e he
    rcases List.mem_cons.1 he with rfl | he
    · rfl
    · exact mine_vals _ e he
theorem mine_fresh {i : Int} : ∀ (l : List (Int × Int)) n, (∀ e ∈ mineFrom i n l, n ≤ e.2.2 ∧ e.2.2 < n + l.length) ∧ (stamps (mineFrom i n l)).Nodup
  | [], n => ⟨fun _ h => by simp [mineFrom] at h, List.nodup_nil⟩
  | x :: l, n => by
    obtain ⟨h1, h2⟩ := mine_fresh (i := i) l (n + 1)
    refine ⟨fun e he => ?_, ?_⟩
    · rcases List.mem_cons.1 he with rfl | he
      · simp
      · have := h1 e he; simp only [List.length_cons]; omega
    · refine List.nodup_cons.2 ⟨fun h => ?_, h2⟩
      obtain ⟨e, he, h3⟩ := List.mem_map.1 h
      have := h1 e he
      simp only at h3
      omega
theorem adds_take {l : List Mi} {k : Nat} (h : k < l.length) : addsOf (l.take (k + 1)) = addsOf (l.take k) ++ (if l[k].read = true then [] else [(l[k].key, l[k].v)]) := by
  rw [List.take_add_one, List.getElem?_eq_getElem h]
  simp only [addsOf, Option.toList_some, List.filter_append, List.map_append]
  cases hr : l[k].read <;> simp [hr]
theorem adds_len (l : List Mi) : (addsOf l).length ≤ l.length := by
  simp only [addsOf, List.length_map]; exact List.length_filter_le _ _
theorem adds_mem {l : List Mi} {k v : Int} : (k, v) ∈ addsOf l ↔ ∃ m ∈ l, m.read = false ∧ m.key = k ∧ m.v = v := by
  simp only [addsOf, List.mem_map, List.mem_filter, Prod.mk.injEq, Bool.not_eq_true']
  exact ⟨fun ⟨m, ⟨a, b⟩, c, d⟩ => ⟨m, a, b, c, d⟩, fun ⟨m, a, b, c, d⟩ => ⟨m, ⟨a, b⟩, c, d⟩⟩
theorem has_iff {t : Tx} {k v : Int} : S.has t k v = decide ((k, v) ∈ addsOf t.ms) := by
  rw [Bool.eq_iff_iff, decide_eq_true_eq, adds_mem]
  simp only [S.has, List.any_eq_true, Bool.and_eq_true, Bool.not_eq_true', decide_eq_true_eq]
theorem last_app (s : Str) (t : Tx) : lastId (s ++ [t]) = t.id := by simp [lastId]
theorem last_lt {s : Str} (h : s.Pairwise fun a b => a.id < b.id) {t : Tx} (ht : t ∈ s) : t.id ≤ lastId s := by
  revert t
  induction s with
  | nil => intro t ht; simp at ht
  | cons x s ih =>
    intro t ht
    have hp := List.pairwise_cons.1 h
    cases s with
    | nil => rw [List.mem_singleton.1 ht]; exact Int.le_refl _
    | cons y s =>
      have hl : lastId (x :: y :: s) = lastId (y :: s) := by simp [lastId, List.getLast?_cons_cons]
      rw [hl]
      rcases List.mem_cons.1 ht with rfl | ht
      · have := hp.1 y (by simp)
        have h2 : y.id ≤ lastId (y :: s) := ih hp.2 (by simp)
        omega
      · exact ih hp.2 ht
theorem app_ok {s : Str} {t : Tx} (h : SOk s) (ht : t.ok) (hl : lastId s < t.id) : SOk (s ++ [t]) := by
  refine ⟨fun x hx => ?_, List.pairwise_append.2 ⟨h.lt, List.pairwise_singleton _ _, fun a ha b hb => ?_⟩⟩
  · rcases List.mem_append.1 hx with hx | hx
    · exact h.ok x hx
    · rw [List.mem_singleton.1 hx]; exact ht
  · rw [List.mem_singleton.1 hb]
    have := last_lt h.lt ha
    omega
theorem find_none_last {s : Str} (h : s.Pairwise fun a b => a.id < b.id) {i : Int} (hl : lastId s < i) : find s i = none := by
  rw [find, List.find?_eq_none]
  intro t ht
  have := last_lt h ht
  simp; omega
theorem ws_app {ws ws' : List En} {s : Str} {t : Tx} (h : WsOk ws s) (hk : KeysK ws') (hf : ∀ k v, (k, v) ∈ addsOf t.ms → who s k v = none)
    (hv : ∀ k v, (findK (kV k v) ws').map (·.2.1) = if decide ((k, v) ∈ addsOf t.ms) = true then some (.int .u16 t.id) else (findK (kV k v) ws).map (·.2.1)) : WsOk ws' (s ++ [t]) := by
  refine ⟨hk, fun k v => ?_⟩
  rw [hv, h.val]
  simp only [who, List.find?_append, List.find?_cons, List.find?_nil, has_iff]
  by_cases hm : (k, v) ∈ addsOf t.ms
  · have := hf k v hm
    simp only [who] at this
    simp only [has_iff] at this
    simp [hm, this]
  · simp [hm]
end Go.AL.S
set_option maxRecDepth 100000
namespace Go.AL.S
open Go Go.AL Go.Proofs
variable {E : Env}
theorem clone_ms {v : V} {l : List Mi} (h : isMs v l) (h1 : 1 ≤ l.length) : cloneV 3 v = msV l := by
  rcases h with ⟨rfl, h⟩ | ⟨rfl, h⟩ | ⟨f, rfl⟩
  · simp at h; subst h; simp at h1
  · simp at h; subst h; simp at h1
  · cases l with
    | nil => simp at h1
    | cons a l => rfl
theorem i64_16 {i : Int} (h0 : 0 ≤ i) (h1 : i < 65536) : IntKind.i64.wrap i = i := IntWalk.i64_in _ (by omega)
theorem adds_pre (l : List Mi) (k : Nat) : addsOf l = addsOf (l.take k) ++ addsOf (l.drop k) := by
  simp only [addsOf, ← List.map_append, ← List.filter_append, List.take_append_drop]
theorem lookK_mine {sh : Bool × List SK} {z : V} {ok : Bool} {n : Nat} {i k v : Int} {l : List (Int × Int)} {K : V → Prop} : lookK sh z ok (kV k v) (mineFrom i n l) K = (if (k, v) ∈ l then K (if ok = true then .tuple [.int .u16 i, .bool true] else .int .u16 i) else K (if ok = true then .tuple [z, .bool false] else z)) := by
  simp only [lookK, mine_find]
  by_cases h : (k, v) ∈ l <;> simp [h]
theorem mine_mset {i k v : Int} {l : List (Int × Int)} (h : (k, v) ∉ l) : mset (kV k v) (.int .u16 i) (mineFrom i 0 l) l.length = (mineFrom i 0 (l ++ [(k, v)]), (l ++ [(k, v)]).length) := by
  have h1 := mine_find i k v l 0
  rw [if_neg h] at h1
  have h2 : findK (kV k v) (mineFrom i 0 l) = none := by
    cases hf : findK (kV k v) (mineFrom i 0 l) with
    | none => rfl
    | some e => rw [hf] at h1; cases h1
  simp only [mset, h2, mine_app, List.length_append, List.length_cons, List.length_nil, Nat.zero_add]
theorem begin_loop (_ : E.P = Tryz.prog) (W : AW) {p ra rw : Nat} {s : Str} (h : St W p ra rw s) (c i : Int) {v : V} {l : List Mi} (hv : isMs v l) (ho : ∀ m ∈ l, m.ok) (hl8 : 1 ≤ l.length ∧ l.length ≤ 8) {A : AFr} {Q : Exit → AFr → AW → Prop}
    (a0 : A 0 = some (.ptr p 0)) (a1 : A 1 = some (.int .u8 c)) (a2 : A 2 = some (.int .u16 i)) (a3 : A 3 = some v) (a9 : A 9 = some (.map (rf W.nx 0))) (a37 : A 37 = some v) (a38 : A 38 = some (.int .i64 l.length)) (a39 : A 39 = some (.int .i64 0))
    (hret : freshB s l = false → ∀ A' W', A' 8 = some (.int .i64 8) → Ex W W' → Q .ret A' W')
    (hex : ∀ A' W', A' 0 = some (.ptr p 0) → A' 1 = some (.int .u8 c) → A' 2 = some (.int .u16 i) → A' 3 = some v → A' 9 = some (.map (rf W.nx 0)) → Ex W W' → rf W.nx 0 < W'.nx →
      W'.get (rf W.nx 0) = some (.map (mineFrom i 0 (addsOf l)) (addsOf l).length) → freshB s l = true → Q (.exit 1) A' W') : ALoop (awp E c11_0) Q A (X W W.nx [.map [] 0]) := by
  have hla := h.la
  have hlp := h.lp
  have hlw := h.lw
  obtain ⟨ws, cw, hw, hws⟩ := h.hw
  have hmr : W.nx ≤ rf W.nx 0 := by simp [rf]
  refine ALoop.go (B := awp E _) (fun h => awp_mono _ h) (fun (k : Nat) A1 W1 => A1 0 = some (.ptr p 0) ∧ A1 1 = some (.int .u8 c) ∧ A1 2 = some (.int .u16 i) ∧ A1 3 = some v ∧ A1 9 = some (.map (rf W.nx 0)) ∧ A1 37 = some v ∧ A1 38 = some (.int .i64 l.length) ∧ A1 39 = some (.int .i64 k) ∧ k ≤ l.length ∧ Ex W W1 ∧ rf W.nx 0 < W1.nx ∧
    W1.get (rf W.nx 0) = some (.map (mineFrom i 0 (addsOf (l.take k))) (addsOf (l.take k)).length) ∧ (addsOf (l.take k)).Nodup ∧ (∀ a ∈ addsOf (l.take k), who s a.1 a.2 = none)) (fun k => l.length - k) 0
    ⟨a0, a1, a2, a3, a9, a37, a38, a39, Nat.zero_le _, Ex.x0, by simp [rf, X], by rw [X_get]; rfl, by simp [addsOf], by simp [addsOf]⟩ ?_
  rintro k A1 W1 ⟨g0, g1, g2, g3, g9, g37, g38, g39, gk, gE, gr, gm, gd, gf⟩ _
  have hn1 := gE.nx
  have hp1 := (gE.get _ h.lp).trans h.hp
  have hw1 := (gE.get _ h.lw).trans hw
  by_cases hk1 : k < l.length
  · have hat := adds_take hk1
    obtain ⟨q0, q1, q2, q3⟩ := ho l[k] (List.getElem_mem hk1)
    refine awp_startC gE.cl ?_
    cases hm : (l[k]).read with
    | true =>
      simp (config := { maxSteps := 2000000 }) (disch := omega) only [c11_0, BS, BC, e_seq, cond_if, ↓reduceIte, Nat.reduceEqDiff, reduceCtorEq, BM, BD, Nat.reduceAdd, Nat.reduceLeDiff, Nat.reduceLT, g0, g1, g2, g3, g9, g37, g38, g39, clt, hk1, decide_true, hv.idx (mi_at hk1), Mi.V, hm, wadd1]
      rw [hm, if_pos rfl, List.append_nil] at hat
      exact ⟨k + 1, ⟨(by first | trivial | rfl | omega), (by first | trivial | rfl | omega), (by first | trivial | rfl | omega), (by first | trivial | rfl | omega), (by first | trivial | rfl | omega), (by first | trivial | rfl | omega), (by first | trivial | rfl | omega), (by first | trivial | rfl | omega), (by first | trivial | rfl | omega), gE.X, by simp only [rf] at gr ⊢; omega, by (try rw [X_old gr]); rw [hat]; exact gm, by rw [hat]; exact gd, by rw [hat]; exact gf⟩, by omega, by simp only [rf]; simp only [rf] at gr; omega⟩
    | false =>
      rw [hm, if_neg (by simp)] at hat
      have hmk : KeysK (mineFrom i 0 (addsOf (l.take k))) := mine_keys (fun a ha => by
        obtain ⟨m, hm, _, e1, e2⟩ := adds_mem.1 ha
        obtain ⟨b0, b1, b2, b3⟩ := ho m (List.mem_of_mem_take hm)
        rw [← e1, ← e2]; exact ⟨b0, b1, b2, b3⟩) 0
      have hlk1 : ∀ (o : List AObj) K, sem E (.lookup (true, [.i .u8, .i .u16]) (.int .u16 0) true) [.map (rf W.nx 0), .agg [.int .u8 l[k].key, .int .u16 l[k].v]] (X W1 W1.nx o) K = lookK (true, [.i .u8, .i .u16]) (.int .u16 0) true (kV l[k].key l[k].v) (mineFrom i 0 (addsOf (l.take k))) (fun v => K v (X W1 W1.nx o)) :=
        fun o K => m_lookup (by rw [X_old gr]; exact gm) (ws_keys' hmk q0 q1 q2 q3)
      have hlk2 : ∀ (o : List AObj) K, sem E (.lookup (true, [.i .u8, .i .u16]) (.int .u16 0) true) [.map rw, .agg [.int .u8 l[k].key, .int .u16 l[k].v]] (X W1 W1.nx o) K = lookK (true, [.i .u8, .i .u16]) (.int .u16 0) true (kV l[k].key l[k].v) ws (fun v => K v (X W1 W1.nx o)) :=
        fun o K => m_lookup (by rw [X_old (by omega)]; exact hw1) (ws_keys hws q0 q1 q2 q3)
      have hpre := adds_pre l (k + 1)
      rw [hat] at hpre
      have hmem : (l[k].key, l[k].v) ∈ addsOf l := by rw [hpre]; simp
      cases hwf : who s l[k].key l[k].v with
      | some t =>
        have e : freshB s l = false := by
          simp only [freshB, Bool.and_eq_false_iff, List.all_eq_false]
          exact .inr ⟨_, hmem, by simp [hwf]⟩
        by_cases hin : (l[k].key, l[k].v) ∈ addsOf (l.take k)
        · simp (config := { maxSteps := 2000000 }) (disch := omega) only [c11_0, BS, BC, e_seq, cond_if, guard_if, ↓reduceIte, Nat.reduceEqDiff, reduceCtorEq, BM, BD, Nat.reduceAdd, Nat.reduceLeDiff, Nat.reduceLT, g0, g1, g2, g3, g9, g37, g38, g39, clt, hk1, decide_true, hv.idx (mi_at hk1), Mi.V, hm, wadd1, hlk1, hlk2, lookK_mine, if_pos hin, lookK_who hws, hwf, hp1]
          exact hret e _ _ rfl gE.X
        · simp (config := { maxSteps := 2000000 }) (disch := omega) only [c11_0, BS, BC, e_seq, cond_if, guard_if, ↓reduceIte, Nat.reduceEqDiff, reduceCtorEq, BM, BD, Nat.reduceAdd, Nat.reduceLeDiff, Nat.reduceLT, g0, g1, g2, g3, g9, g37, g38, g39, clt, hk1, decide_true, hv.idx (mi_at hk1), Mi.V, hm, wadd1, hlk1, hlk2, lookK_mine, if_neg hin, lookK_who hws, hwf, hp1]
          exact hret e _ _ rfl gE.X
      | none =>
        by_cases hin : (l[k].key, l[k].v) ∈ addsOf (l.take k)
        · have e : freshB s l = false := by
            have : ¬ (addsOf l).Nodup := by
              rw [hpre]
              intro hn
              have := (List.nodup_append.1 (List.nodup_append.1 hn).1).2.2 _ hin _ (List.mem_singleton.2 rfl)
              exact this rfl
            simp [freshB, this]
          simp (config := { maxSteps := 2000000 }) (disch := omega) only [c11_0, BS, BC, e_seq, cond_if, guard_if, ↓reduceIte, Nat.reduceEqDiff, reduceCtorEq, BM, BD, Nat.reduceAdd, Nat.reduceLeDiff, Nat.reduceLT, g0, g1, g2, g3, g9, g37, g38, g39, clt, hk1, decide_true, hv.idx (mi_at hk1), Mi.V, hm, wadd1, hlk1, hlk2, lookK_mine, if_pos hin, lookK_who hws, hwf, hp1]
          exact hret e _ _ rfl gE.X
        · have hms : ∀ (o : List AObj) K, sem E (.mupd (true, [.i .u8, .i .u16])) [.map (rf W.nx 0), .agg [.int .u8 l[k].key, .int .u16 l[k].v], .int .u16 i] (X W1 W1.nx o) K = K .undef (X (W1.put (rf W.nx 0) (.map (mineFrom i 0 (addsOf (l.take (k + 1)))) (addsOf (l.take (k + 1))).length)) W1.nx o) := by
            intro o K
            have hg : (X W1 W1.nx o).get (rf W.nx 0) = some (.map (mineFrom i 0 (addsOf (l.take k))) (addsOf (l.take k)).length) := by rw [X_old gr]; exact gm
            rw [show V.agg [.int .u8 l[k].key, .int .u16 l[k].v] = kV l[k].key l[k].v from rfl, m_mset hg (ws_keys' hmk q0 q1 q2 q3), mine_mset hin, ← hat, X_putold gr]
          simp (config := { maxSteps := 2000000 }) (disch := omega) only [c11_0, BS, BC, e_seq, cond_if, guard_if, ↓reduceIte, Nat.reduceEqDiff, reduceCtorEq, BM, BD, Nat.reduceAdd, Nat.reduceLeDiff, Nat.reduceLT, g0, g1, g2, g3, g9, g37, g38, g39, clt, hk1, decide_true, hv.idx (mi_at hk1), Mi.V, hm, wadd1, hlk1, hlk2, hms, lookK_mine, if_neg hin, lookK_who hws, hwf, hp1]
          refine ⟨k + 1, ⟨(by first | trivial | rfl | omega), (by first | trivial | rfl | omega), (by first | trivial | rfl | omega), (by first | trivial | rfl | omega), (by first | trivial | rfl | omega), (by first | trivial | rfl | omega), (by first | trivial | rfl | omega), (by first | trivial | rfl | omega), (by first | trivial | rfl | omega), ⟨Cl.X, ?_, fun x hx => ?_⟩, ?_, ?_, ?_, ?_⟩, by omega, ?_⟩
          · simp only [X]; omega
          · rw [X_old (by omega), put_ne (by omega)]; exact gE.get x hx
          · simp only [rf] at gr ⊢; omega
          · try rw [X_old gr]
            rw [put_at]
          · rw [hat]
            exact List.nodup_append.2 ⟨gd, by simp, fun a ha b hb => by rw [List.mem_singleton.1 hb]; rintro rfl; exact hin ha⟩
          · rw [hat]
            intro a ha
            rcases List.mem_append.1 ha with ha | ha
            · exact gf a ha
            · rw [List.mem_singleton.1 ha]; exact hwf
          · simp only [rf]; simp only [rf] at gr; omega
  · obtain rfl : k = l.length := by omega
    rw [List.take_length] at gm gd gf
    have e : freshB s l = true := by
      simp only [freshB, gd, decide_true, Bool.true_and, List.all_eq_true]
      intro a ha; rw [gf a ha]; rfl
    simp (config := { maxSteps := 2000000 }) (disch := omega) only [c11_0, BS, BC, e_seq, cond_if, ↓reduceIte, BM, BD, g38, g39, clt, hk1, decide_false]
    exact hex _ _ g0 g1 g2 g3 g9 gE gr gm e
end Go.AL.S
set_option maxRecDepth 100000
namespace Go.AL.S
open Go Go.AL Go.Proofs
variable {E : Env}
theorem begin_c (hP : E.P = Tryz.prog) (W : AW) {p ra rw : Nat} {s : Str} (h : St W p ra rw s) (c i : Int) (h0 : 0 ≤ i) (h1 : i < 65536) (c0 : 0 ≤ c) (c1 : c < 256) {v : V} {l : List Mi} (hv : isMs v l) (ho : ∀ m ∈ l, m.ok) (hl : l.length < 2 ^ 40) :
    ACalls E 39 [.ptr p 0, .int .u8 c, .int .u16 i, v] W fun Y W' => Y = .int .i64 (beginR s c i l).2 ∧ St W' p ra rw (beginR s c i l).1 ∧ Fr W W' p ra rw := by
  refine ACalls.of hP Tryz.func39 ok11e (by simp) fun _ hok => ?_
  refine awp_start hok ?_
  have hla := h.la
  have hlp := h.lp
  have hlw := h.lw
  obtain ⟨ws, cw, hw, hws⟩ := h.hw
  simp only [c11, BS, BC, e_seq, ↓reduceIte, reduceCtorEq]
  refine pc (is_c hP _ (r := [.map rw, .int .i64 (lastId s)]) (by rw [X_old h.lp]; exact h.hp)) ?_
  simp only [BS, BC, e_seq, cond_if, ↓reduceIte, Nat.reduceEqDiff, BM, BD, Nat.reduceAdd, Nat.reduceLeDiff, hv.cells]
  refine pc (checkB_c hP _ c i hv ho hl) ?_
  by_cases hB : okB c l = true
  · by_cases hL : i ≤ lastId s
    · have e : beginR s c i l = (s, 8) := by simp [beginR, hB, hL]
      simp (config := { maxSteps := 2000000 }) (disch := omega) only [BS, BC, e_seq, cond_if, ↓reduceIte, Nat.reduceEqDiff, reduceCtorEq, BM, BD, if_pos hB, show ((0 : Int) != 0) = false by decide, i64_16 h0 h1, h.hp, decide_eq_true hL]
      exact ⟨_, rfl, _, W, backX hok rfl, Nat.le_refl _, by rw [e], by rw [e]; exact h, Fr.refl _ _ _ _⟩
    · simp (config := { maxSteps := 2000000 }) (disch := omega) only [BS, BC, e_seq, cond_if, ↓reduceIte, Nat.reduceEqDiff, reduceCtorEq, BM, BD, if_pos hB, show ((0 : Int) != 0) = false by decide, i64_16 h0 h1, h.hp, decide_eq_false hL, hv.len, List.length_map]
      rw [e_loop]
      have hl8 : 1 ≤ l.length ∧ l.length ≤ 8 := by
        simp only [okB, Bool.and_eq_true, decide_eq_true_eq] at hB; exact hB.1.1
      refine begin_loop hP W h c i hv ho hl8 rfl rfl rfl rfl rfl rfl rfl rfl ?_ ?_
      · intro hfr A' W' g8 gE
        have e : beginR s c i l = (s, 8) := by simp [beginR, hB, hL, hfr]
        simp only [BS, BC, g8]
        exact ⟨_, rfl, _, W, gE.back hok rfl, Nat.le_refl _, by rw [e], by rw [e]; exact h, Fr.refl _ _ _ _⟩
      · intro A' W1 g0 g1 g2 g3 g9 gE gr gm hfr
        have e : beginR s c i l = (s ++ [⟨i, c, l, [], 0⟩], 0) := by simp [beginR, hB, hL, hfr]
        have hn1 := gE.nx
        have hp1 := (gE.get _ h.lp).trans h.hp
        have hw1 := (gE.get _ h.lw).trans hw
        have ha1 := (gE.get _ h.la).trans h.ha
        have hmr : W.nx ≤ rf W.nx 0 := by simp [rf]
        simp (config := { maxSteps := 2000000 }) (disch := omega) only [BS, BC, e_seq, ↓reduceIte, Nat.reduceEqDiff, BM, BD, g0, g9, hp1]
        refine (copy_c hP W1 (i := i) hw1 gm (by omega) (by omega) gr ⟨(mine_fresh _ 0).2, fun x hx => by simpa using ((mine_fresh _ 0).1 x hx).2⟩ hws.key (mine_keys (fun a ha => by
          obtain ⟨m, hm, _, e1, e2⟩ := adds_mem.1 ha
          obtain ⟨b0, b1, b2, b3⟩ := ho m hm
          rw [← e1, ← e2]; exact ⟨b0, b1, b2, b3⟩) 0) (mine_vals 0)).mono ?_
        rintro Y W2 ⟨ws', cw', rfl, hk', hv'⟩
        have hp2 : (W1.put rw (.map ws' cw')).get p = some (.row [.map ra, .map rw, .int .i64 (lastId s)]) := by rw [put_ne h.prw]; exact hp1
        have ha2 : (W1.put rw (.map ws' cw')).get ra = some (.map (esFrom 0 s) s.length) := by rw [put_ne h.ne]; exact ha1
        simp (config := { maxSteps := 2000000 }) (disch := omega) only [BS, BC, e_seq, ↓reduceIte, Nat.reduceEqDiff, reduceCtorEq, BM, BD, m_pcall, Nat.reduceAdd, Nat.reduceLeDiff, g0, g1, g2, g3, hp2, hv.frz]
        refine ⟨_, clone32_c hP _ _ _ hv (belL_mi _ _) (by simpa using hl), ?_⟩
        rw [clone_ms hv hl8.1]
        have hfn : findK (.int .u16 i) (esFrom 0 s) = none := es_none (find_none_last h.ok.lt (by omega)) 0
        have hes : esFrom 0 s ++ [(V.int .u16 i, V.agg [.int .u16 i, .int .u8 c, msV l, .nilsl, .int .u8 0], s.length)] = esFrom 0 (s ++ [⟨i, c, l, [], 0⟩]) := by
          rw [es_app, Nat.zero_add]; rfl
        have hp3 : ∀ o, ((W1.put rw (.map ws' cw')).put ra o).get p = some (.row [.map ra, .map rw, .int .i64 (lastId s)]) := fun o => by rw [put_ne h.pra]; exact hp2
        simp (config := { maxSteps := 2000000 }) (disch := omega) only [BS, BC, e_seq, ↓reduceIte, Nat.reduceEqDiff, reduceCtorEq, BM, BD, Nat.reduceAdd, Nat.reduceLeDiff, msV_cells, g0, g2, m_mupd ha2 (es_keys h.ok.ok h0 h1 0), hfn, hes, hp3, i64_16 h0 h1]
        have tok : (⟨i, c, l, [], 0⟩ : Tx).ok := ⟨h0, h1, c0, c1, ho, hl8.2, by simp, by simp, by show (0 : Int) ≤ 0 ∧ (0 : Int) < 4; decide⟩
        have hfa : ∀ k v, (k, v) ∈ addsOf l → who s k v = none := by
          intro k v ha
          simp only [freshB, Bool.and_eq_true, List.all_eq_true] at hfr
          have := hfr.2 _ ha
          simpa using this
        have hW' : ∃ W', W' = ((W.put rw (.map ws' cw')).put ra (.map (esFrom 0 (s ++ [⟨i, c, l, [], 0⟩])) (s.length + 1))).put p (.row [.map ra, .map rw, .int .i64 i]) := ⟨_, rfl⟩
        obtain ⟨W', hW'⟩ := hW'
        refine ⟨_, rfl, _, W', .weak (weak_back ?_ rfl fun x hx => ?_), by rw [hW']; exact Nat.le_refl _, by rw [e], ?_, ?_⟩
        · rw [hW']
          exact ok_put (ok_put (ok_put hok h.lw (keysK_bel hk' _)) h.la (es_bel _ _ _)) h.lp (by simp [AObj.bel, V.belL, V.bel]; exact ⟨h.la, h.lw⟩)
        · rw [hW']
          have hx' : x < W.nx := by rw [hW'] at hx; exact hx
          simp only [pu_gets, gE.get x hx']
        · rw [e, hW']
          refine ⟨?_, ?_, ⟨ws', cw', ?_, ws_app hws hk' hfa fun k v => ?_⟩, h.ne, h.lp, h.la, h.lw, app_ok h.ok tok (by show lastId s < i; omega)⟩
          · rw [put_at, last_app]
          · rw [put_ne h.pra.symm, put_at]; simp
          · rw [put_ne h.prw.symm, put_ne h.ne.symm, put_at]
          · rw [hv' k v, mine_in]
        · rw [hW']
          exact ⟨rfl, fun x h1 h2 h3 => by rw [put_ne h1, put_ne h2, put_ne h3]⟩
  · have e : beginR s c i l = (s, 4) := by simp [beginR, hB]
    simp only [BS, BC, e_seq, cond_if, ↓reduceIte, if_neg hB, show ((4 : Int) != 0) = true by decide]
    exact ⟨_, rfl, _, W, backX hok rfl, Nat.le_refl _, by rw [e], by rw [e]; exact h, Fr.refl _ _ _ _⟩
end Go.AL.S
set_option maxRecDepth 100000
namespace Go.AL.S
open Go Go.AL Go.Proofs Go.Sort
/- maps.Keys[map[uint16]umpire/txn.Txn,uint16,umpire/txn.Txn] -/
def c35 : AC := (AC.seq (AC.reg [
  ⟨(some 1), .box, [.t 0], none⟩,
  ⟨(some 2), .mov, [.c (.nilfn)], none⟩])
 (AC.seq (AC.reg [
  ⟨(some 3), .mkfn (.func 106) 0, [.t 1], none⟩,
  ⟨(some 2), .mov, [.t 3], none⟩])
 AC.ret))
def r35 : AC × List RT × Nat := (c35, [.tmp 2], 4)
theorem ok35e : compF Tryz.prog Tryz.f84 ⟨false, false, []⟩ = some r35 := by kernel_rfl
/- (*umpire/txn.Store).All -/
def c12 : AC := (AC.seq (AC.reg [
  ⟨(some 1), .box, [.t 0], none⟩,
  ⟨(some 2), .mov, [.c (.nilfn)], none⟩])
 (AC.seq (AC.reg [
  ⟨(some 3), .mkfn (.func 82) 0, [.t 1], none⟩,
  ⟨(some 2), .mov, [.t 3], none⟩])
 AC.ret))
def r12 : AC × List RT × Nat := (c12, [.tmp 2], 4)
theorem ok12e : compF Tryz.prog Tryz.f41 ⟨false, false, []⟩ = some r12 := by kernel_rfl
def c33_0 : AC := (AC.seq (AC.reg [
    ⟨(some 16), .bin .lss, [.t 15, .t 14], none⟩])
   (AC.seq (AC.cond (.t 16)
    AC.skip
    (AC.exit 0))
   (AC.seq (AC.block 1
    (AC.seq (AC.reg [
     ⟨(some 17), .idxp 1, [.t 13, .t 15], none⟩,
     ⟨(some 18), .load false 1, [.t 17], none⟩,
     ⟨(some 4), .mov, [.t 18], none⟩])
    (AC.seq (AC.reg [
     ⟨(some 19), .mov, [.t 0], none⟩,
     ⟨(some 20), .load false 1, [.t 1], none⟩,
     ⟨(some 21), .nilck, [.t 20], none⟩,
     ⟨(some 22), .fld 0, [.t 21], none⟩,
     ⟨(some 23), .load false 1, [.t 22], none⟩,
     ⟨(some 24), .mov, [.t 4], none⟩,
     ⟨(some 25), .lookup (false, [.i .u16]) (.agg [.int .u16 0, .int .u8 0, .nilsl, .nilsl, .int .u8 0]) false, [.t 23, .t 24], none⟩,
     ⟨(some 26), .call 49, [.t 25], none⟩,
     ⟨(some 27), .callv, [.t 19, .t 26], none⟩,
     ⟨(some 28), .un .not, [.t 27], none⟩])
    (AC.cond (.t 28)
     AC.ret
     AC.skip))))
   (AC.reg [
    ⟨(some 29), .bin .add, [.t 15, .c (.int .i64 1)], none⟩,
    ⟨(some 15), .mov, [.t 29], none⟩]))))
/- (*umpire/txn.Store).All$1 -/
def c33 : AC := (AC.seq (AC.seq (AC.reg [
  ⟨(some 5), .load false 1, [.t 1], none⟩,
  ⟨(some 6), .call 48, [.t 5], none⟩,
  ⟨(some 7), .un .not, [.t 6], none⟩])
 (AC.cond (.t 7)
  AC.ret
  AC.skip))
 (AC.seq (AC.reg [
  ⟨(some 8), .load false 1, [.t 1], none⟩,
  ⟨(some 9), .nilck, [.t 8], none⟩,
  ⟨(some 10), .fld 0, [.t 9], none⟩,
  ⟨(some 11), .load false 1, [.t 10], none⟩,
  ⟨(some 12), .call 84, [.t 11], none⟩,
  ⟨(some 13), .call 83, [.t 12], none⟩,
  ⟨(some 14), .len 1 0, [.t 13], none⟩,
  ⟨(some 15), .mov, [.c (.int .i64 0)], none⟩])
 (AC.block 0
  (AC.loop c33_0))))
def r33 : AC × List RT × Nat := (c33, [], 30)
theorem ok33e : compF Tryz.prog Tryz.f82 ⟨false, false, []⟩ = some r33 := by kernel_rfl
variable {E : Env}
theorem sort_id {l : List Int} (h : l.Pairwise fun a b => a < b) : (sort ltInt l.toArray).toList = l := by
  rw [sortInt]
  have a1 := List.pairwise_mergeSort (le := fun x y : Int => decide (x ≤ y)) (by simp; omega) (by simp; omega) l
  refine (List.mergeSort_perm l _).eq_of_pairwise ?_ a1 (h.imp (fun h => by simp; omega))
  intro x y _ _ h1 h2
  simp at h1 h2; omega
def keyOf (e : En) : Int := match e.1 with
  | .int _ n => n
  | _ => 0
theorem es_key (s : Str) : ∀ n, (esFrom n s).map keyOf = s.map Tx.id := by
  induction s with
  | nil => intro n; rfl
  | cons t s ih => intro n; simp only [esFrom, List.map_cons, ih]; rfl
theorem es_int (s : Str) : ∀ n, ∀ e ∈ esFrom n s, e.1 = .int .u16 (keyOf e) := by
  induction s with
  | nil => intro n e he; simp [esFrom] at he
  | cons t s ih =>
    intro n e he
    rcases List.mem_cons.1 he with rfl | he
    · rfl
    · exact ih _ e he
theorem es_fresh (s : Str) : ∀ n, (∀ e ∈ esFrom n s, n ≤ e.2.2 ∧ e.2.2 < n + s.length) ∧ (stamps (esFrom n s)).Nodup := by
  induction s with
  | nil => intro n; exact ⟨fun _ h => by simp [esFrom] at h, List.nodup_nil⟩
  | cons x l ih =>
    intro n
    obtain ⟨h1, h2⟩ := ih (n + 1)
    refine ⟨fun e he => ?_, ?_⟩
    · rcases List.mem_cons.1 he with rfl | he
      · simp
      · have := h1 e he; simp only [List.length_cons]; omega
    · refine List.nodup_cons.2 ⟨fun h => ?_, h2⟩
      obtain ⟨e, he, h3⟩ := List.mem_map.1 h
      have := h1 e he
      simp only at h3
      omega
theorem ids_lt {s : Str} (h : SOk s) : (s.map Tx.id).Pairwise fun a b => a < b := (List.pairwise_map).2 h.lt
theorem len_ids : ∀ {l : List Int} {a b : Int}, l.Pairwise (fun a b => a < b) → (∀ x ∈ l, a ≤ x ∧ x < b) → l.length ≤ (b - a).toNat
  | [], _, _, _, _ => Nat.zero_le _
  | x :: l, a, b, h, hl => by
    have hp := List.pairwise_cons.1 h
    have hx := hl x (by simp)
    have := len_ids (l := l) (a := x + 1) (b := b) hp.2 fun y hy => ⟨by have := hp.1 y hy; omega, (hl y (by simp [hy])).2⟩
    simp only [List.length_cons]; omega
theorem st_len {s : Str} (h : SOk s) : s.length ≤ 65536 := by
  have := len_ids (a := 0) (b := 65536) (ids_lt h) fun x hx => by
    obtain ⟨t, ht, rfl⟩ := List.mem_map.1 hx
    exact ⟨(h.ok t ht).id0, (h.ok t ht).id1⟩
  simpa using this
theorem keys_c (hP : E.P = Tryz.prog) (W : AW) (m : Nat) : ACalls E 84 [.map m] W fun Y W' => Y = .fn (.func 106) [] [.ptr W.nx 0] ∧ W' = W.alloc (.row [.map m]) := by
  refine ACalls.of hP Tryz.func84 ok35e (by simp) fun _ hok => ?_
  simp only [c35, BS, BC, e_seq, ↓reduceIte, Nat.reduceEqDiff, BM, BD]
  exact ⟨_, rfl, _, _, .weak weak_id, by rw [alloc_nx]; omega, rfl, rfl⟩
theorem all_c (hP : E.P = Tryz.prog) (W : AW) (p : Nat) : ACalls E 41 [.ptr p 0] W fun Y W' => Y = .fn (.func 82) [] [.ptr W.nx 0] ∧ W' = W.alloc (.row [.ptr p 0]) := by
  refine ACalls.of hP Tryz.func41 ok12e (by simp) fun _ hok => ?_
  simp only [c12, BS, BC, e_seq, ↓reduceIte, Nat.reduceEqDiff, BM, BD]
  exact ⟨_, rfl, _, _, .weak weak_id, by rw [alloc_nx]; omega, rfl, rfl⟩
theorem tx_frz {W : AW} (t : Tx) : W.frz t.V = t.V := id rfl
/-- All's function: it hands out each transaction, in order. -/
theorem all_iter (hP : E.P = Tryz.prog) {W : AW} {y q p ra rw : Nat} {s : Str} (hq : W.get q = some (.row [.ptr p 0])) (hqn : q < W.nx) (h : St W p ra rw s) (J : Nat → AW → Prop) (R : AW → Prop)
    (h0 : ∀ W1, Ex W W1 → W.nx < W1.nx → J 0 W1) (hJ : ∀ k W1, J k W1 → Cl W1 ∧ W.nx < W1.nx ∧ W1.get q = W.get q ∧ W1.get p = W.get p ∧ W1.get ra = W.get ra)
    (hR : ∀ W1, R W1 → W.nx ≤ W1.nx) (hmono : ∀ (vs : List V) (W1 : AW) (K K' : V → AW → Prop), (∀ v W', K v W' → K' v W') → E.yield y vs W1 K → E.yield y vs W1 K')
    (hy : ∀ k (hk : k < s.length) W1, J k W1 → E.yield y [s[k].V] W1 (fun Y W2 => (Y = .bool true ∧ J (k + 1) W2) ∨ (Y = .bool false ∧ R W2))) :
    ACalls E 82 [.yld y, .ptr q 0] W fun Y W' => Y = .tuple [] ∧ (J s.length W' ∨ R W') := by
  refine ACalls.of hP Tryz.func82 ok33e (by simp) fun _ hok => ?_
  refine awp_start hok ?_
  have hla := h.la
  have hlp := h.lp
  simp (config := { maxSteps := 2000000 }) (disch := omega) only [c33, BS, BC, e_seq, ↓reduceIte, BM, hq]
  refine pc (is_c hP _ (r := [.map rw, .int .i64 (lastId s)]) (by rw [X_old h.lp]; exact h.hp)) ?_
  simp (config := { maxSteps := 2000000 }) (disch := omega) only [BS, BC, e_seq, cond_if, ↓reduceIte, Nat.reduceEqDiff, BM, BD, hq, h.hp]
  refine (keys_c hP _ ra).mono ?_
  rintro Y W1 ⟨rfl, rfl⟩
  simp (config := { maxSteps := 2000000 }) (disch := omega) only [BS, BC, ↓reduceIte, BM, BD]
  have hes := es_fresh s 0
  have hpb : (X W W.nx [.row [.map ra]]).get (rf W.nx 0) = some (.row [.map ra]) := by rw [X_get]; rfl
  refine pc (sorted_c hP keyOf hpb (by rw [X_old h.la]; exact h.ha) ⟨hes.2, fun e he => by have := (hes.1 e he).2; omega⟩ (by simp [X, rf]) (by simp [X]; omega) (es_int s 0) (by rw [es_len]; have := st_len h.ok; omega)) ?_
  rw [es_key]
  have hsv : isS 1 (sortedV (s.map Tx.id)) (intsV (s.map Tx.id)) := by
    unfold sortedV
    split
    · rename_i h0; rw [h0]; exact .nil
    · rw [sort_id (ids_lt h.ok)]; exact .mk
  simp only [BS, ↓reduceIte, hsv.len, ints_len, List.length_map]
  rw [e_loop]
  refine ALoop.go (B := awp E _) (fun h => awp_mono _ h) (fun (k : Nat) A1 W1 => A1 0 = some (.yld y) ∧ A1 1 = some (.ptr q 0) ∧ A1 13 = some (sortedV (s.map Tx.id)) ∧ A1 14 = some (.int .i64 s.length) ∧ A1 15 = some (.int .i64 k) ∧ k ≤ s.length ∧ J k W1) (fun k => s.length - k) 0
    ⟨rfl, rfl, rfl, rfl, rfl, Nat.zero_le _, h0 _ Ex.x0 (by simp [X])⟩ ?_
  rintro k A1 W1 ⟨g0, g1, g13, g14, g15, gk, gJ⟩ _
  obtain ⟨j0, j1, j2, j3, j4⟩ := hJ _ _ gJ
  rw [hq] at j2
  rw [h.hp] at j3
  rw [h.ha] at j4
  by_cases hk1 : k < s.length
  · have hsl := st_len h.ok
    have hto := h.ok.ok s[k] (List.getElem_mem hk1)
    have hat : (intsV (s.map Tx.id))[k]? = some (.int .u16 s[k].id) := by
      rw [int_at (by simpa using hk1)]; simp
    simp (config := { maxSteps := 2000000 }) (disch := omega) only [c33_0, BS, BC, e_seq, cond_if, ↓reduceIte, Nat.reduceEqDiff, reduceCtorEq, BM, BD, g0, g1, g13, g14, g15, clt, hk1, decide_true, hsv.idx hat, j2, j3, m_lookup j4 (es_keys h.ok.ok hto.id0 hto.id1 0), lookK_all, find_self h.ok.lt (List.getElem_mem hk1), tx_frz]
    refine pc (own_c hP _ hto) ?_
    simp only [BS, BC, ↓reduceIte, Nat.reduceEqDiff, sem_yield, tx_frz]
    refine hmono _ _ _ _ ?_ (hy k hk1 W1 gJ)
    rintro Y W2 (⟨rfl, g⟩ | ⟨rfl, g⟩)
    · have g' := (hJ _ _ g).2.1
      simp (config := { maxSteps := 2000000 }) (disch := omega) only [BS, BC, cond_if, ↓reduceIte, Nat.reduceEqDiff, reduceCtorEq, BD, g0, g1, g13, g14, g15, wadd1]
      exact ⟨k + 1, ⟨(by first | trivial | rfl | omega), (by first | trivial | rfl | omega), (by first | trivial | rfl | omega), (by first | trivial | rfl | omega), (by first | trivial | rfl | omega), (by first | trivial | rfl | omega), g⟩, by omega, (by first | omega | (simp only [rf]; omega) | (simp only [rf, X, List.length_cons, List.length_nil, Nat.zero_add]; omega) | (simp [rf, X]; omega))⟩
    · simp (config := { maxSteps := 2000000 }) (disch := omega) only [BS, cond_if, ↓reduceIte, BD]
      exact ⟨_, rfl, _, _, .weak weak_id, hR _ g, rfl, .inr g⟩
  · obtain rfl : k = s.length := by omega
    simp (config := { maxSteps := 2000000 }) (disch := omega) only [c33_0, BS, BC, e_seq, cond_if, ↓reduceIte, BM, BD, g14, g15, clt, hk1, decide_false]
    exact ⟨_, rfl, _, _, .weak weak_id, Nat.le_of_lt j1, rfl, .inl gJ⟩
end Go.AL.S
set_option maxRecDepth 100000
namespace Go.AL.S
open Go Go.AL Go.Proofs
variable {E : Env}
/-- A round over a store's transactions. -/
theorem range_all (hP : E.P = Tryz.prog) {W0 : AW} {A : AFr} {q p ra rw pv : Nat} {s : Str} {g : AX} {asg body : AC} {Q : Exit → AFr → AW → Prop} (hg : g.ev E A = some (.fn (.func 82) [] [.ptr q 0])) (hq : W0.get q = some (.row [.ptr p 0])) (hqn : q < W0.nx) (hC : Cl W0) (h : St W0 p ra rw s)
    (J : Nat → AW → Prop) (h0 : ∀ W1, Ex W0 W1 → J 0 W1) (hJ : ∀ k W1, J k W1 → Cl W1 ∧ W1.get q = W0.get q ∧ W1.get p = W0.get p ∧ W1.get ra = W0.get ra)
    (hb : ∀ k (hk : k < s.length) W1, J k W1 → W1.get W0.nx = some (.loop .ready none) → W0.nx + 1 < W1.nx →
      awp E asg (thenQ (fun A1 W2 => W2.get W0.nx = some (.loop .ready none) ∧ awp E body (fun e _ W3 => e = .normal ∧ W3.get W0.nx = some (.loop .busy none) ∧ W0.nx + 1 < W3.nx ∧ J (k + 1) (W3.put W0.nx (.loop .ready none))) A1 (W2.put W0.nx (.loop .busy none))) (fun _ _ _ => False)) (A.put pv s[k].V) W1)
    (hQ : ∀ W1, J s.length W1 → W1.get W0.nx = some (.loop .ready none) → W0.nx + 1 < W1.nx → Q .normal A (W1.put W0.nx (.loop .exhausted none))) : awp E (.rangef g [pv] asg body) Q A W0 := by
  rw [awp_rangef', hg]
  intro E' eP eG ey _
  have hP' : E'.P = Tryz.prog := eP.trans hP
  have hE : Ex W0 (W0.alloc (.loop .ready none)) := ⟨fun r hr => by rw [alloc_nx] at hr; rw [al_gets, if_neg (by omega)]; exact hC r (by omega), by rw [alloc_nx]; omega, fun x hx => alloc_lt hx⟩
  simp only [List.map_cons, List.map_nil, frz_ptr]
  refine (all_iter (E := E') hP' (y := W0.nx) (q := q) (by rw [alloc_lt hqn]; exact hq) (by rw [alloc_nx]; omega) (h.ex hE) (fun k W1 => J k W1 ∧ W1.get W0.nx = some (.loop .ready none) ∧ W0.nx + 1 < W1.nx) (fun _ => False) ?_ ?_ (fun _ h => h.elim) (fun vs W1 K K' hk hy => E'.yieldMono _ _ _ _ _ hk hy) ?_).mono ?_
  · intro W1 hE1 hn
    rw [alloc_nx] at hn
    refine ⟨h0 _ (hE.trans hE1), ?_, hn⟩
    rw [hE1.get _ (by rw [alloc_nx]; omega), alloc_at]
  · rintro k W1 ⟨g1, g2, g3⟩
    obtain ⟨j0, j1, j2, j3⟩ := hJ _ _ g1
    have hla := h.la
    have hlp := h.lp
    refine ⟨j0, by rw [alloc_nx]; exact g3, ?_, ?_, ?_⟩
    · rw [j1, alloc_lt hqn]
    · rw [j2, alloc_lt hlp]
    · rw [j3, alloc_lt hla]
  · rintro k hk W1 ⟨g1, g2, g3⟩
    refine ey _ _ _ ⟨g2, rfl, ?_⟩
    refine awp_mono _ ?_ (hb k hk W1 g1 g2 g3)
    intro e A1 W2 hh
    cases e with
    | normal =>
      refine ⟨hh.1, awp_mono _ ?_ hh.2⟩
      rintro e A3 W3 ⟨rfl, h2, h3, h4⟩
      exact ⟨h2, .inl ⟨rfl, h4, put_at, h3⟩⟩
    | _ => exact hh
  · rintro Y W1 ⟨_, ⟨g1, g2, g3⟩ | g⟩
    · simp only [doneQ, g2]
      exact hQ _ g1 g2 g3
    · exact g.elim
end Go.AL.S
set_option maxRecDepth 100000
set_option maxHeartbeats 2000000
namespace Go.AL.S
open Go Go.AL Go.Proofs
/- umpire/order.Begins -/
def c_begins : AC := (AC.seq (AC.reg [
  ⟨(some 4), .mov, [.c (.bool false)], none⟩])
 (AC.seq (AC.reg [
  ⟨(some 5), .mov, [.t 0], none⟩,
  ⟨(some 6), .len 1 0, [.t 5], none⟩,
  ⟨(some 7), .mov, [.t 1], none⟩,
  ⟨(some 8), .len 1 0, [.t 7], none⟩,
  ⟨(some 9), .bin .leq, [.t 6, .t 8], none⟩,
  ⟨(some 10), .mov, [.t 9], none⟩,
  ⟨(some 11), .mov, [.t 0], (some (10, true))⟩,
  ⟨(some 12), .mov, [.t 1], (some (10, true))⟩,
  ⟨(some 13), .mov, [.t 0], (some (10, true))⟩,
  ⟨(some 14), .len 1 0, [.t 13], (some (10, true))⟩,
  ⟨(some 15), .slc 1 false true false, [.t 12, .t 14], (some (10, true))⟩,
  ⟨(some 16), .call 90, [.t 11, .t 15], (some (10, true))⟩,
  ⟨(some 17), .pick, [.t 10, .t 16, .c (.bool false)], none⟩,
  ⟨(some 4), .mov, [.t 17], none⟩])
 AC.ret))
def r_begins : AC × List RT × Nat := (c_begins, [.tmp 4], 18)
theorem ok_beginse : compF Tryz.prog Tryz.f51 ⟨false, false, []⟩ = some r_begins := by kernel_rfl
/- umpire/order.New -/
def c_newO : AC := (AC.seq (AC.reg [
  ⟨(some 0), .mov, [.c (.nilptr)], none⟩])
 (AC.seq (AC.reg [
  ⟨(some 1), .build [.bool false, .nilsl, .nilsl, .nilsl, .nilsl, .nilsl, .nilsl, .nilsl, .nilsl] [(0, 1)], [.c (.bool true)], none⟩,
  ⟨(some 2), .box, [.t 1], none⟩,
  ⟨(some 0), .mov, [.t 2], none⟩])
 AC.ret))
def r_newO : AC × List RT × Nat := (c_newO, [.tmp 0], 3)
theorem ok_newOe : compF Tryz.prog Tryz.f34 ⟨false, false, []⟩ = some r_newO := by kernel_rfl
/- (*umpire/order.Orders).is -/
def c_isO : AC := (AC.seq (AC.reg [
  ⟨(some 2), .mov, [.c (.bool false)], none⟩])
 (AC.seq (AC.reg [
  ⟨(some 3), .mov, [.t 0], none⟩,
  ⟨(some 4), .eqn true 0, [.t 3, .c (.nilptr)], none⟩,
  ⟨(some 5), .mov, [.t 4], none⟩,
  ⟨(some 6), .mov, [.t 0], (some (5, true))⟩,
  ⟨(some 7), .nilck, [.t 6], (some (5, true))⟩,
  ⟨(some 8), .fld 0, [.t 7], (some (5, true))⟩,
  ⟨(some 9), .load false 1, [.t 8], (some (5, true))⟩,
  ⟨(some 10), .pick, [.t 5, .t 9, .c (.bool false)], none⟩,
  ⟨(some 2), .mov, [.t 10], none⟩])
 AC.ret))
def r_isO : AC × List RT × Nat := (c_isO, [.tmp 2], 11)
theorem ok_isOe : compF Tryz.prog Tryz.f75 ⟨false, false, []⟩ = some r_isO := by kernel_rfl
def c_twice_0 : AC := (AC.seq (AC.reg [
    ⟨(some 8), .bin .lss, [.t 7, .t 6], none⟩])
   (AC.seq (AC.cond (.t 8)
    AC.skip
    (AC.exit 0))
   (AC.seq (AC.block 1
    (AC.seq (AC.reg [
     ⟨(some 9), .mov, [.t 7], none⟩,
     ⟨(some 10), .idxp 1, [.t 5, .t 7], none⟩,
     ⟨(some 11), .load false 1, [.t 10], none⟩,
     ⟨(some 3), .mov, [.t 9], none⟩,
     ⟨(some 4), .mov, [.t 11], none⟩])
    (AC.seq (AC.reg [
     ⟨(some 12), .mov, [.t 0], none⟩,
     ⟨(some 13), .mov, [.t 3], none⟩,
     ⟨(some 14), .slc 1 false true false, [.t 12, .t 13], none⟩,
     ⟨(some 15), .mov, [.t 4], none⟩,
     ⟨(some 16), .call 102, [.t 14, .t 15], none⟩])
    (AC.cond (.t 16)
     (AC.seq (AC.reg [
      ⟨(some 2), .mov, [.c (.bool true)], none⟩])
     AC.ret)
     AC.skip))))
   (AC.reg [
    ⟨(some 17), .bin .add, [.t 7, .c (.int .i64 1)], none⟩,
    ⟨(some 7), .mov, [.t 17], none⟩]))))
/- umpire/order.twice -/
def c_twice : AC := (AC.seq (AC.reg [
  ⟨(some 2), .mov, [.c (.bool false)], none⟩])
 (AC.seq (AC.seq (AC.reg [
  ⟨(some 5), .mov, [.t 0], none⟩,
  ⟨(some 6), .len 1 0, [.t 5], none⟩,
  ⟨(some 7), .mov, [.c (.int .i64 0)], none⟩])
 (AC.block 0
  (AC.loop c_twice_0)))
 (AC.seq (AC.reg [
  ⟨(some 2), .mov, [.c (.bool false)], none⟩])
 AC.ret)))
def r_twice : AC × List RT × Nat := (c_twice, [.tmp 2], 18)
theorem ok_twicee : compF Tryz.prog Tryz.f76 ⟨false, false, []⟩ = some r_twice := by kernel_rfl
/- slices.Index[[]uint16,uint16] -/
def c_idx16 : AC := (AC.seq (AC.reg [
  ⟨(some 4), .mov, [.c (.int .i64 0)], none⟩])
 (AC.seq (AC.seq (AC.reg [
  ⟨(some 6), .mov, [.t 0], none⟩,
  ⟨(some 7), .len 1 0, [.t 6], none⟩,
  ⟨(some 8), .mov, [.c (.int .i64 0)], none⟩])
 (AC.block 0
  (AC.loop
   (AC.seq (AC.reg [
    ⟨(some 9), .bin .lss, [.t 8, .t 7], none⟩])
   (AC.seq (AC.cond (.t 9)
    AC.skip
    (AC.exit 0))
   (AC.seq (AC.block 1
    (AC.seq (AC.reg [
     ⟨(some 10), .mov, [.t 8], none⟩,
     ⟨(some 5), .mov, [.t 10], none⟩])
    (AC.seq (AC.reg [
     ⟨(some 11), .mov, [.t 1], none⟩,
     ⟨(some 12), .mov, [.t 0], none⟩,
     ⟨(some 13), .mov, [.t 5], none⟩,
     ⟨(some 14), .idxp 1, [.t 12, .t 13], none⟩,
     ⟨(some 15), .load false 1, [.t 14], none⟩,
     ⟨(some 16), .bin .eql, [.t 11, .t 15], none⟩])
    (AC.cond (.t 16)
     (AC.seq (AC.reg [
      ⟨(some 17), .mov, [.t 5], none⟩,
      ⟨(some 4), .mov, [.t 17], none⟩])
     AC.ret)
     AC.skip))))
   (AC.reg [
    ⟨(some 18), .bin .add, [.t 8, .c (.int .i64 1)], none⟩,
    ⟨(some 8), .mov, [.t 18], none⟩])))))))
 (AC.seq (AC.reg [
  ⟨(some 4), .mov, [.c (.int .i64 (-1))], none⟩])
 AC.ret)))
def r_idx16 : AC × List RT × Nat := (c_idx16, [.tmp 4], 19)
theorem ok_idx16e : compF Tryz.prog Tryz.f89 ⟨false, false, []⟩ = some r_idx16 := by kernel_rfl
/- slices.Contains[[]uint16,uint16] -/
def c_has16 : AC := (AC.seq (AC.reg [
  ⟨(some 4), .mov, [.c (.bool false)], none⟩])
 (AC.seq (AC.reg [
  ⟨(some 5), .mov, [.t 0], none⟩,
  ⟨(some 6), .mov, [.t 1], none⟩,
  ⟨(some 7), .call 89, [.t 5, .t 6], none⟩,
  ⟨(some 8), .bin .geq, [.t 7, .c (.int .i64 0)], none⟩,
  ⟨(some 4), .mov, [.t 8], none⟩])
 AC.ret))
def r_has16 : AC × List RT × Nat := (c_has16, [.tmp 4], 9)
theorem ok_has16e : compF Tryz.prog Tryz.f102 ⟨false, false, []⟩ = some r_has16 := by kernel_rfl
/- (*umpire/order.Orders).order -/
def c_orderO : AC := (AC.seq (AC.reg [
  ⟨(some 4), .mov, [.c (.nilsl)], none⟩])
 (AC.seq (AC.seq (AC.reg [
  ⟨(some 5), .mov, [.t 0], none⟩,
  ⟨(some 6), .call 75, [.t 5], none⟩,
  ⟨(some 7), .un .not, [.t 6], none⟩,
  ⟨(some 8), .mov, [.t 7], none⟩,
  ⟨(some 9), .mov, [.t 1], (some (8, false))⟩,
  ⟨(some 10), .bin .geq, [.t 9, .c (.int .u8 8)], (some (8, false))⟩,
  ⟨(some 11), .pick, [.t 8, .c (.bool true), .t 10], none⟩])
 (AC.cond (.t 11)
  (AC.seq (AC.reg [
   ⟨(some 4), .mov, [.c (.nilsl)], none⟩])
  AC.ret)
  AC.skip))
 (AC.seq (AC.reg [
  ⟨(some 12), .mov, [.t 0], none⟩,
  ⟨(some 13), .mov, [.t 1], none⟩,
  ⟨(some 14), .nilck, [.t 12], none⟩,
  ⟨(some 15), .fld 1, [.t 14], none⟩,
  ⟨(some 16), .idxa 8 1, [.t 15, .t 13], none⟩,
  ⟨(some 17), .load false 1, [.t 16], none⟩,
  ⟨(some 4), .mov, [.t 17], none⟩])
 AC.ret)))
def r_orderO : AC × List RT × Nat := (c_orderO, [.tmp 4], 18)
theorem ok_orderOe : compF Tryz.prog Tryz.f88 ⟨false, false, []⟩ = some r_orderO := by kernel_rfl
/- (*umpire/order.Orders).Of -/
def c_of : AC := (AC.seq (AC.reg [
  ⟨(some 4), .mov, [.c (.nilsl)], none⟩])
 (AC.seq (AC.reg [
  ⟨(some 5), .mov, [.t 0], none⟩,
  ⟨(some 6), .mov, [.t 1], none⟩,
  ⟨(some 7), .call 88, [.t 5, .t 6], none⟩,
  ⟨(some 8), .call 44, [.t 7], none⟩,
  ⟨(some 4), .mov, [.t 8], none⟩])
 AC.ret))
def r_of : AC × List RT × Nat := (c_of, [.tmp 4], 9)
theorem ok_ofe : compF Tryz.prog Tryz.f45 ⟨false, false, []⟩ = some r_of := by kernel_rfl
/- (*umpire/order.Orders).At -/
def c_at : AC := (AC.seq (AC.reg [
  ⟨(some 6), .mov, [.c (.int .u16 0)], none⟩,
  ⟨(some 7), .mov, [.c (.bool false)], none⟩])
 (AC.seq (AC.reg [
  ⟨(some 9), .mov, [.t 0], none⟩,
  ⟨(some 10), .mov, [.t 1], none⟩,
  ⟨(some 11), .call 88, [.t 9, .t 10], none⟩,
  ⟨(some 8), .mov, [.t 11], none⟩])
 (AC.seq (AC.seq (AC.reg [
  ⟨(some 12), .mov, [.t 2], none⟩,
  ⟨(some 13), .bin .lss, [.t 12, .c (.int .i64 0)], none⟩,
  ⟨(some 14), .mov, [.t 13], none⟩,
  ⟨(some 15), .mov, [.t 2], (some (14, false))⟩,
  ⟨(some 16), .mov, [.t 8], (some (14, false))⟩,
  ⟨(some 17), .len 1 0, [.t 16], (some (14, false))⟩,
  ⟨(some 18), .bin .geq, [.t 15, .t 17], (some (14, false))⟩,
  ⟨(some 19), .pick, [.t 14, .c (.bool true), .t 18], none⟩])
 (AC.cond (.t 19)
  (AC.seq (AC.reg [
   ⟨(some 6), .mov, [.c (.int .u16 0)], none⟩,
   ⟨(some 7), .mov, [.c (.bool false)], none⟩])
  AC.ret)
  AC.skip))
 (AC.seq (AC.reg [
  ⟨(some 20), .mov, [.t 8], none⟩,
  ⟨(some 21), .mov, [.t 2], none⟩,
  ⟨(some 22), .idxp 1, [.t 20, .t 21], none⟩,
  ⟨(some 23), .load false 1, [.t 22], none⟩,
  ⟨(some 6), .mov, [.t 23], none⟩,
  ⟨(some 7), .mov, [.c (.bool true)], none⟩])
 AC.ret))))
def r_at : AC × List RT × Nat := (c_at, [.tmp 6, .tmp 7], 24)
theorem ok_ate : compF Tryz.prog Tryz.f85 ⟨false, false, []⟩ = some r_at := by kernel_rfl
variable {E : Env}
/-! the orders of keys -/
def takeV (v : V) (n : Nat) : V := match v with
  | .sl s f xs => .sl s (f && n == xs.length) (xs.take n)
  | v => v
theorem isS.slc {s : Nat} {v : V} {xs : List V} (h : isS s v xs) {W : AW} {K : V → AW → Prop} {n : Nat} (hn : n ≤ xs.length) : sem E (.slc s false true false) [v, .int .i64 (n : Int)] W K = K (takeV v n) W := by
  rcases h with ⟨rfl, rfl⟩ | ⟨rfl, rfl⟩ | ⟨f, rfl⟩
  · have : n = 0 := by simpa using hn
    subst this; rfl
  · have : n = 0 := by simpa using hn
    subst this; rfl
  · simp [sem, rsem, tsem, slcOp, natV, slcV, hn, takeV]
theorem isS.take {s : Nat} {v : V} {xs : List V} (h : isS s v xs) (n : Nat) : isS s (takeV v n) (xs.take n) := by
  rcases h with ⟨rfl, rfl⟩ | ⟨rfl, rfl⟩ | ⟨f, rfl⟩
  · simp [takeV]; exact .nil
  · simp [takeV]; exact .inr (.inl ⟨rfl, rfl⟩)
  · exact .mk
theorem ints_take (l : List Int) (n : Nat) : (intsV l).take n = intsV (l.take n) := by simp [intsV, List.map_take]
def begins (a b : List Int) : Bool := decide (a.length ≤ b.length) && decide (a = b.take a.length)
theorem begins_c (hP : E.P = Tryz.prog) (W : AW) {v v' : V} {l l' : List Int} (h : isS 1 v (intsV l)) (h' : isS 1 v' (intsV l')) (hl : l.length < 2 ^ 40) :
    ACalls E 51 [v, v'] W fun Y W' => Y = .bool (begins l l') ∧ W' = W := by
  refine ACalls.of hP Tryz.func51 ok_beginse (by simp) fun _ hok => ?_
  by_cases hc : l.length ≤ l'.length
  · have hs := h'.take l.length
    rw [ints_take] at hs
    simp only [c_begins, BS, BC, e_seq, guard_if, ↓reduceIte, Nat.reduceEqDiff, reduceCtorEq, h.len, h'.len, ints_len, cle, hc, decide_true, h'.slc (n := l.length) (by rw [ints_len]; exact hc), h.frz, hs.frz]
    refine pc (eqI_c hP W h hs hl) ?_
    simp only [BS, BC, ↓reduceIte, Nat.reduceEqDiff]
    exact ⟨_, rfl, _, _, .weak weak_id, Nat.le_refl _, by simp [begins, hc], rfl⟩
  · simp only [c_begins, BS, BC, e_seq, guard_if, ↓reduceIte, Nat.reduceEqDiff, reduceCtorEq, BM, h.len, h'.len, ints_len, cle, hc, decide_false]
    exact ⟨_, rfl, _, _, .weak weak_id, Nat.le_refl _, by simp [begins, hc], rfl⟩
theorem idx16_c (hP : E.P = Tryz.prog) (W : AW) {v : V} {l : List Int} (h : isS 1 v (intsV l)) (hl : l.length < 2 ^ 40) (n : Int) :
    ACalls E 89 [v, .int .u16 n] W fun Y W' => Y = .int .i64 (idxV (fun x => decide (n = x)) l) ∧ W' = W := by
  refine ACalls.of hP Tryz.func89 ok_idx16e (by simp) fun _ hok => ?_
  simp only [c_idx16, BS, BC, e_seq, ↓reduceIte, reduceCtorEq, h.len, ints_len]
  rw [e_loop]
  refine ALoop.go (B := awp E _) (fun h => awp_mono _ h) (fun (k : Nat) A1 W1 => A1 0 = some v ∧ A1 1 = some (.int .u16 n) ∧ A1 7 = some (.int .i64 l.length) ∧ A1 8 = some (.int .i64 k) ∧ k ≤ l.length ∧ W1 = W ∧ ∀ i (hi : i < l.length), i < k → decide (n = l[i]) = false) (fun k => l.length - k) 0
    ⟨rfl, rfl, rfl, rfl, Nat.zero_le _, rfl, fun _ _ h => by omega⟩ ?_
  rintro k A1 W1 ⟨g0, g1, g7, g8, gk, rfl, ge⟩ _
  by_cases hk1 : k < l.length
  · cases hb : decide (n = l[k])
    · simp (config := { maxSteps := 2000000 }) (disch := omega) only [BS, BC, e_seq, cond_if, ↓reduceIte, Nat.reduceEqDiff, reduceCtorEq, BM, g0, g1, g7, g8, clt, hk1, decide_true, h.idx (int_at hk1), cmpeq, hb, wadd1]
      refine ⟨k + 1, ⟨(by first | trivial | rfl | omega), (by first | trivial | rfl | omega), (by first | trivial | rfl | omega), (by first | trivial | rfl | omega), (by first | trivial | rfl | omega), (by first | trivial | rfl | omega), fun i hi hk => ?_⟩, by omega, Nat.le_refl _⟩
      by_cases e : i = k
      · subst e; exact hb
      · exact ge i hi (by omega)
    · simp (config := { maxSteps := 2000000 }) (disch := omega) only [BS, BC, e_seq, cond_if, ↓reduceIte, Nat.reduceEqDiff, reduceCtorEq, BM, g0, g1, g7, g8, clt, hk1, decide_true, h.idx (int_at hk1), cmpeq, hb]
      exact ⟨_, rfl, _, _, .weak weak_id, Nat.le_refl _, by rw [idxV_hit hk1 hb ge], rfl⟩
  · obtain rfl : k = l.length := by omega
    simp only [BS, BC, e_seq, cond_if, ↓reduceIte, g7, g8, clt, hk1, decide_false]
    exact ⟨_, rfl, _, _, .weak weak_id, Nat.le_refl _, by rw [idxV_none fun i hi => ge i hi hi], rfl⟩
theorem has16_c (hP : E.P = Tryz.prog) (W : AW) {v : V} {l : List Int} (h : isS 1 v (intsV l)) (hl : l.length < 2 ^ 40) (n : Int) :
    ACalls E 102 [v, .int .u16 n] W fun Y W' => Y = .bool (l.any fun x => decide (n = x)) ∧ W' = W := by
  refine ACalls.of hP Tryz.func102 ok_has16e (by simp) fun _ hok => ?_
  simp only [c_has16, BS, BC, e_seq, ↓reduceIte, Nat.reduceEqDiff, reduceCtorEq, h.frz]
  refine pc (idx16_c hP W h hl n) ?_
  simp only [BS, BC, ↓reduceIte, idxV_ge]
  exact ⟨_, rfl, _, _, .weak weak_id, Nat.le_refl _, rfl, rfl⟩
def twiceB (l : List Int) : Bool := !decide l.Nodup
theorem twice_c (hP : E.P = Tryz.prog) (W : AW) {v : V} {l : List Int} (h : isS 1 v (intsV l)) (hl : l.length < 2 ^ 40) :
    ACalls E 76 [v] W fun Y W' => Y = .bool (twiceB l) ∧ W' = W := by
  refine ACalls.of hP Tryz.func76 ok_twicee (by simp) fun _ hok => ?_
  simp only [c_twice, BS, BC, e_seq, ↓reduceIte, reduceCtorEq, h.len, ints_len]
  rw [e_loop]
  refine ALoop.go (B := awp E _) (fun h => awp_mono _ h) (fun (k : Nat) A1 W1 => A1 0 = some v ∧ A1 5 = some v ∧ A1 6 = some (.int .i64 l.length) ∧ A1 7 = some (.int .i64 k) ∧ k ≤ l.length ∧ W1 = W ∧ (l.take k).Nodup) (fun k => l.length - k) 0
    ⟨rfl, rfl, rfl, rfl, Nat.zero_le _, rfl, List.nodup_nil⟩ ?_
  rintro k A1 W1 ⟨g0, g5, g6, g7, gk, rfl, ge⟩ _
  by_cases hk1 : k < l.length
  · have hs := h.take k
    rw [ints_take] at hs
    have htk : l.take (k + 1) = l.take k ++ [l[k]] := by rw [List.take_add_one, List.getElem?_eq_getElem hk1]; rfl
    simp (config := { maxSteps := 2000000 }) (disch := omega) only [c_twice_0, BS, BC, e_seq, cond_if, ↓reduceIte, Nat.reduceEqDiff, reduceCtorEq, BM, g0, g5, g6, g7, clt, hk1, decide_true, h.idx (int_at hk1), h.slc (n := k) (by rw [ints_len]; omega), hs.frz]
    refine pc (has16_c hP W1 hs (by simp; omega) l[k]) ?_
    cases hb : (l.take k).any fun x => decide (l[k] = x)
    · simp (config := { maxSteps := 2000000 }) (disch := omega) only [BS, BC, cond_if, ↓reduceIte, Nat.reduceEqDiff, reduceCtorEq, g0, g5, g6, g7, wadd1]
      refine ⟨k + 1, ⟨(by first | trivial | rfl | omega), (by first | trivial | rfl | omega), (by first | trivial | rfl | omega), (by first | trivial | rfl | omega), (by first | trivial | rfl | omega), (by first | trivial | rfl | omega), ?_⟩, by omega, Nat.le_refl _⟩
      rw [htk]
      refine List.nodup_append.2 ⟨ge, by simp, fun a ha b hb' e => ?_⟩
      rw [List.mem_singleton.1 hb'] at e
      rw [List.any_eq_false] at hb
      have := hb a ha
      simp [e] at this
    · simp (config := { maxSteps := 2000000 }) (disch := omega) only [BS, BC, e_seq, cond_if, ↓reduceIte]
      refine ⟨_, rfl, _, _, .weak weak_id, Nat.le_refl _, ?_, rfl⟩
      have : ¬ l.Nodup := by
        intro hn
        have h1 := hn.sublist (List.take_sublist (k + 1) l)
        rw [htk] at h1
        obtain ⟨x, hx, he⟩ := List.any_eq_true.1 hb
        exact (List.nodup_append.1 h1).2.2 x hx _ (List.mem_singleton.2 rfl) (by simpa using (of_decide_eq_true he).symm)
      simp [twiceB, this]
  · obtain rfl : k = l.length := by omega
    rw [List.take_length] at ge
    simp only [c_twice_0, BS, BC, e_seq, cond_if, ↓reduceIte, g6, g7, clt, hk1, decide_false]
    exact ⟨_, rfl, _, _, .weak weak_id, Nat.le_refl _, by simp [twiceB, ge], rfl⟩
end Go.AL.S
set_option maxRecDepth 100000
set_option maxHeartbeats 2000000
namespace Go.AL.S
open Go Go.AL Go.Proofs
/- (*umpire/order.Orders).Take -/
def c_take : AC := (AC.seq (AC.reg [
  ⟨(some 6), .mov, [.c (.bool false)], none⟩,
  ⟨(some 7), .mov, [.c (.int .i64 0)], none⟩])
 (AC.seq (AC.block 0
  (AC.seq (AC.reg [
   ⟨(some 9), .mov, [.t 0], none⟩,
   ⟨(some 10), .call 75, [.t 9], none⟩,
   ⟨(some 11), .un .not, [.t 10], none⟩,
   ⟨(some 8), .mov, [.t 11], none⟩])
  (AC.cond (.t 8)
   (AC.seq (AC.reg [
    ⟨(some 6), .mov, [.c (.bool false)], none⟩,
    ⟨(some 7), .mov, [.c (.int .i64 1)], none⟩])
   AC.ret)
   (AC.seq (AC.reg [
    ⟨(some 13), .mov, [.t 1], none⟩,
    ⟨(some 14), .bin .geq, [.t 13, .c (.int .u8 8)], none⟩,
    ⟨(some 12), .mov, [.t 14], none⟩])
   (AC.cond (.t 12)
    (AC.seq (AC.reg [
     ⟨(some 6), .mov, [.c (.bool false)], none⟩,
     ⟨(some 7), .mov, [.c (.int .i64 2)], none⟩])
    AC.ret)
    (AC.seq (AC.reg [
     ⟨(some 16), .mov, [.t 2], none⟩,
     ⟨(some 17), .len 1 0, [.t 16], none⟩,
     ⟨(some 18), .bin .gtr, [.t 17, .c (.int .i64 32)], none⟩,
     ⟨(some 15), .mov, [.t 18], none⟩])
    (AC.cond (.t 15)
     (AC.seq (AC.reg [
      ⟨(some 6), .mov, [.c (.bool false)], none⟩,
      ⟨(some 7), .mov, [.c (.int .i64 3)], none⟩])
     AC.ret)
     (AC.seq (AC.reg [
      ⟨(some 20), .mov, [.t 2], none⟩,
      ⟨(some 21), .call 76, [.t 20], none⟩,
      ⟨(some 19), .mov, [.t 21], none⟩])
     (AC.cond (.t 19)
      (AC.seq (AC.reg [
       ⟨(some 6), .mov, [.c (.bool false)], none⟩,
       ⟨(some 7), .mov, [.c (.int .i64 0)], none⟩])
      AC.ret)
      (AC.seq (AC.reg [
       ⟨(some 23), .mov, [.t 2], none⟩,
       ⟨(some 24), .mov, [.t 0], none⟩,
       ⟨(some 25), .mov, [.t 1], none⟩,
       ⟨(some 26), .nilck, [.t 24], none⟩,
       ⟨(some 27), .fld 1, [.t 26], none⟩,
       ⟨(some 28), .idxa 8 1, [.t 27, .t 25], none⟩,
       ⟨(some 29), .load false 1, [.t 28], none⟩,
       ⟨(some 30), .call 51, [.t 23, .t 29], none⟩,
       ⟨(some 22), .mov, [.t 30], none⟩])
      (AC.cond (.t 22)
       (AC.seq (AC.reg [
        ⟨(some 6), .mov, [.c (.bool true)], none⟩,
        ⟨(some 7), .mov, [.c (.int .i64 0)], none⟩])
       AC.ret)
       (AC.seq (AC.reg [
        ⟨(some 32), .mov, [.t 0], none⟩,
        ⟨(some 33), .mov, [.t 1], none⟩,
        ⟨(some 34), .nilck, [.t 32], none⟩,
        ⟨(some 35), .fld 1, [.t 34], none⟩,
        ⟨(some 36), .idxa 8 1, [.t 35, .t 33], none⟩,
        ⟨(some 37), .load false 1, [.t 36], none⟩,
        ⟨(some 38), .mov, [.t 2], none⟩,
        ⟨(some 39), .call 51, [.t 37, .t 38], none⟩,
        ⟨(some 31), .mov, [.t 39], none⟩])
       (AC.cond (.t 31)
        (AC.seq (AC.par
         (PT.step 0 ⟨(some 40), .mov, [.t 0], none⟩
         (PT.step 1 ⟨(some 41), .mov, [.t 1], none⟩
         (PT.step 2 ⟨(some 42), .mov, [.t 2], none⟩
         (PT.step 4 ⟨(some 44), .nilck, [.t 40], none⟩
         (PT.step 5 ⟨(some 45), .fld 1, [.t 44], none⟩
         (PT.step 3 ⟨(some 43), .call 44, [.t 42], none⟩
         (PT.step 6 ⟨(some 46), .idxa 8 1, [.t 45, .t 41], none⟩
         (PT.step 7 ⟨none, .store 1, [.t 46, .t 43], none⟩
         PT.done)))))))))
        (AC.seq (AC.reg [
         ⟨(some 6), .mov, [.c (.bool true)], none⟩,
         ⟨(some 7), .mov, [.c (.int .i64 0)], none⟩])
        AC.ret))
        AC.skip)))))))))))))
 (AC.seq (AC.reg [
  ⟨(some 6), .mov, [.c (.bool false)], none⟩,
  ⟨(some 7), .mov, [.c (.int .i64 0)], none⟩])
 AC.ret)))
def r_take : AC × List RT × Nat := (c_take, [.tmp 6, .tmp 7], 47)
theorem ok_takee : compF Tryz.prog Tryz.f37 ⟨false, false, []⟩ = some r_take := by kernel_rfl
variable {E : Env}
def oV (l : List Int) : V := if l = [] then .nilsl else .sl 1 false (intsV l)
theorem oV_isS (l : List Int) : isS 1 (oV l) (intsV l) := by
  unfold oV
  split
  · rename_i h; subst h; exact .nil
  · exact .mk
theorem oV_clone (l : List Int) : cloneV 1 (oV l) = oV l := by
  unfold oV
  split
  · rfl
  · cases l with
    | nil => contradiction
    | cons a l => rfl
abbrev Ods := List (List Int)
structure Od (W : AW) (q : Nat) (o : Ods) : Prop where
  hq : W.get q = some (.row (.bool true :: o.map oV))
  len : o.length = 8
  lq : q < W.nx
  ok : ∀ l ∈ o, l.length ≤ 32 ∧ ∀ n ∈ l, 0 ≤ n ∧ n < 65536
theorem Od.ex {W W1 : AW} {q : Nat} {o : Ods} (h : Od W q o) (x : Ex W W1) : Od W1 q o := by
  have := x.nx
  have := h.lq
  exact ⟨by rw [x.get _ h.lq]; exact h.hq, h.len, by omega, h.ok⟩
def keyO (o : Ods) (k : Int) : List Int := if k ≥ 8 then [] else o.getD k.toNat []
theorem keyO_ok {W : AW} {q : Nat} {o : Ods} (h : Od W q o) (k : Int) : (keyO o k).length ≤ 32 ∧ ∀ n ∈ keyO o k, 0 ≤ n ∧ n < 65536 := by
  unfold keyO
  split
  · simp
  · by_cases hk : k.toNat < o.length
    · rw [List.getD_eq_getElem?_getD, List.getElem?_eq_getElem hk]; exact h.ok _ (List.getElem_mem hk)
    · rw [List.getD_eq_getElem?_getD, List.getElem?_eq_none (by omega)]; simp
theorem m_idxa {W : AW} {K : V → AW → Prop} {n s r off : Nat} {k : IntKind} {i : Int} : sem E (.idxa n s) [.ptr r off, .int k i] W K = if 0 ≤ i ∧ i < n then K (.ptr r (off + i.toNat * s)) W else False := by
  by_cases h : 0 ≤ i ∧ i < n
  · simp [sem, rsem, tsem, h]
  · simp only [sem, rsem, tsem, h, if_false]
theorem newO_c (hP : E.P = Tryz.prog) (W : AW) : ACalls E 34 [] W fun Y W' => ∃ q, Y = .ptr q 0 ∧ Od W' q [[], [], [], [], [], [], [], []] ∧ Ex W W' ∧ W.nx ≤ q := by
  refine ACalls.of hP Tryz.func34 ok_newOe (by simp) fun _ hok => ?_
  refine awp_start hok ?_
  simp only [c_newO, BS, BC, e_seq, ↓reduceIte, BM, BD, Nat.reduceAdd, Nat.reduceLeDiff]
  refine ⟨_, rfl, _, _, .weak weak_id, by simp [X], rf W.nx 0, rfl, ⟨?_, rfl, by simp [X, rf], by simp⟩, Ex.x0, by simp [rf]⟩
  simp only [BC, BM]; rfl
theorem isO_c (hP : E.P = Tryz.prog) (W : AW) {q : Nat} {o : Ods} (h : Od W q o) : ACalls E 75 [.ptr q 0] W fun Y W' => Y = .bool true ∧ W' = W := by
  refine ACalls.of hP Tryz.func75 ok_isOe (by simp) fun _ hok => ?_
  simp only [c_isO, BS, BC, e_seq, guard_if, ↓reduceIte, Nat.reduceEqDiff, reduceCtorEq, BM, BD, h.hq]
  exact ⟨_, rfl, _, _, .weak weak_id, Nat.le_refl _, rfl, rfl⟩
theorem Od.at {W : AW} {q : Nat} {o : Ods} (h : Od W q o) {k : Int} (h0 : 0 ≤ k) (h8 : ¬ k ≥ 8) : (V.bool true :: o.map oV)[1 + k.toNat * 1]? = some (oV (keyO o k)) := by
  have hl := h.len
  rw [show 1 + k.toNat * 1 = k.toNat + 1 by omega, List.getElem?_cons_succ, keyO, if_neg h8]
  have hk : k.toNat < o.length := by omega
  rw [List.getD_eq_getElem?_getD, List.getElem?_eq_getElem hk]
  simp [hk]
theorem orderO_c (hP : E.P = Tryz.prog) (W : AW) {q : Nat} {o : Ods} (h : Od W q o) (k : Int) (h0 : 0 ≤ k) (h1 : k < 256) :
    ACalls E 88 [.ptr q 0, .int .u8 k] W fun Y W' => Y = oV (keyO o k) ∧ W' = W := by
  refine ACalls.of hP Tryz.func88 ok_orderOe (by simp) fun _ hok => ?_
  simp only [c_orderO, BS, BC, e_seq, ↓reduceIte, reduceCtorEq]
  refine pc (isO_c hP W h) ?_
  by_cases h8 : k ≥ 8
  · simp only [BS, BC, e_seq, cond_if, guard_if, ↓reduceIte, Nat.reduceEqDiff, BD, decide_eq_true h8]
    exact ⟨_, rfl, _, _, .weak weak_id, Nat.le_refl _, by simp [keyO, h8, oV], rfl⟩
  · have hb : (0 ≤ k ∧ k < ((8 : Nat) : Int)) = True := by simp; omega
    simp only [BS, BC, e_seq, cond_if, guard_if, ↓reduceIte, Nat.reduceEqDiff, reduceCtorEq, BM, BD, decide_eq_false h8, m_idxa, hb, h.hq, h.at h0 h8]
    exact ⟨_, rfl, _, _, .weak weak_id, Nat.le_refl _, (oV_isS _).frz, rfl⟩
theorem of_c' (hP : E.P = Tryz.prog) (W : AW) {q : Nat} {o : Ods} (h : Od W q o) (k : Int) (h0 : 0 ≤ k) (h1 : k < 256) :
    ACalls E 45 [.ptr q 0, .int .u8 k] W fun Y W' => Y = oV (keyO o k) ∧ W' = W := by
  refine ACalls.of hP Tryz.func45 ok_ofe (by simp) fun _ hok => ?_
  simp only [c_of, BS, BC, e_seq, ↓reduceIte, Nat.reduceEqDiff, reduceCtorEq]
  refine pc (orderO_c hP W h k h0 h1) ?_
  have hl := (keyO_ok h k).1
  simp only [BS, BC, ↓reduceIte, (oV_isS _).frz]
  refine pc (clone39_c hP W _ _ (oV_isS _) (belL_ints _ _) (by rw [ints_len]; omega)) ?_
  rw [oV_clone]
  simp only [BS, BC, ↓reduceIte, (oV_isS _).frz]
  exact ⟨_, rfl, _, _, .weak weak_id, Nat.le_refl _, rfl, rfl⟩
theorem at_c (hP : E.P = Tryz.prog) (W : AW) {q : Nat} {o : Ods} (h : Od W q o) (k : Int) (h0 : 0 ≤ k) (h1 : k < 256) (n : Nat) :
    ACalls E 85 [.ptr q 0, .int .u8 k, .int .i64 n] W fun Y W' => Y = .tuple [.int .u16 ((keyO o k)[n]?.getD 0), .bool (decide (n < (keyO o k).length))] ∧ W' = W := by
  refine ACalls.of hP Tryz.func85 ok_ate (by simp) fun _ hok => ?_
  simp only [c_at, BS, BC, e_seq, ↓reduceIte, Nat.reduceEqDiff, reduceCtorEq]
  refine pc (orderO_c hP W h k h0 h1) ?_
  have hs := oV_isS (keyO o k)
  have hn0 : decide ((n : Int) < 0) = false := by simp
  by_cases hn : n < (keyO o k).length
  · simp only [BS, BC, e_seq, cond_if, guard_if, ↓reduceIte, Nat.reduceEqDiff, BM, hn0, hs.len, ints_len, cge, show decide (n ≥ (keyO o k).length) = false by simp; omega, hs.idx (int_at hn)]
    exact ⟨_, rfl, _, _, .weak weak_id, Nat.le_refl _, by simp [hn], rfl⟩
  · simp only [BS, BC, e_seq, cond_if, guard_if, ↓reduceIte, Nat.reduceEqDiff, hn0, hs.len, ints_len, cge, show decide (n ≥ (keyO o k).length) = true by simp; omega]
    exact ⟨_, rfl, _, _, .weak weak_id, Nat.le_refl _, by simp [hn], rfl⟩
end Go.AL.S
set_option maxRecDepth 100000
set_option maxHeartbeats 2000000
namespace Go.AL.S
open Go Go.AL Go.Proofs
variable {E : Env}
def takeR (o : Ods) (k : Int) (l : List Int) : Ods × Bool × Int :=
  if k ≥ 8 then (o, false, 2) else if l.length > 32 then (o, false, 3) else if twiceB l = true then (o, false, 0) else
  if begins l (keyO o k) = true then (o, true, 0) else if begins (keyO o k) l = true then (o.set k.toNat l, true, 0) else (o, false, 0)
theorem Od.set {W : AW} {q : Nat} {o : Ods} (h : Od W q o) {k : Nat} {l : List Int} (hl : l.length ≤ 32) (hr : ∀ n ∈ l, 0 ≤ n ∧ n < 65536) : Od (W.put q (.row (.bool true :: (o.set k l).map oV))) q (o.set k l) := by
  refine ⟨put_at, by rw [List.length_set]; exact h.len, h.lq, fun x hx => ?_⟩
  rcases List.mem_or_eq_of_mem_set hx with hx | rfl
  · exact h.ok x hx
  · exact ⟨hl, hr⟩
theorem belL_oV (o : Ods) (n : Nat) : V.belL n (o.map oV) = true := by
  induction o with
  | nil => rfl
  | cons l o ih =>
    simp only [List.map_cons, V.belL, Bool.and_eq_true]
    exact ⟨(oV_isS l).lens (belL_ints l n), ih⟩
theorem begins_lt {a b : List Int} (h1 : ¬ begins a b = true) (h2 : begins b a = true) : a ≠ [] := by
  rintro rfl
  simp [begins] at h1
theorem take_c (hP : E.P = Tryz.prog) (W : AW) {q : Nat} {o : Ods} (h : Od W q o) (k : Int) (h0 : 0 ≤ k) (h1 : k < 256) {v : V} {l : List Int} (hv : isS 1 v (intsV l)) (hl : l.length < 2 ^ 40) (hr : ∀ n ∈ l, 0 ≤ n ∧ n < 65536) :
    ACalls E 37 [.ptr q 0, .int .u8 k, v] W fun Y W' => Y = .tuple [.bool (takeR o k l).2.1, .int .i64 (takeR o k l).2.2] ∧ Od W' q (takeR o k l).1 ∧ W'.nx = W.nx ∧ ∀ x, x ≠ q → W'.get x = W.get x := by
  refine ACalls.of hP Tryz.func37 ok_takee (by simp) fun _ hok => ?_
  have h32 : decide ((l.length : Int) > 32) = decide (l.length > 32) := by simp; omega
  simp only [c_take, BS, BC, e_seq, ↓reduceIte, reduceCtorEq]
  refine pc (isO_c hP W h) ?_
  by_cases h8 : k ≥ 8
  · have e : takeR o k l = (o, false, 2) := by simp [takeR, h8]
    simp only [BS, BC, e_seq, cond_if, ↓reduceIte, Nat.reduceEqDiff, BD, decide_eq_true h8]
    exact ⟨_, rfl, _, _, .weak weak_id, Nat.le_refl _, by rw [e], by rw [e]; exact h, rfl, fun _ _ => rfl⟩
  by_cases hc : l.length > 32
  · have e : takeR o k l = (o, false, 3) := by simp [takeR, h8, hc]
    simp only [BS, BC, e_seq, cond_if, ↓reduceIte, Nat.reduceEqDiff, BD, decide_eq_false h8, hv.len, ints_len, h32, decide_eq_true hc]
    exact ⟨_, rfl, _, _, .weak weak_id, Nat.le_refl _, by rw [e], by rw [e]; exact h, rfl, fun _ _ => rfl⟩
  simp only [BS, BC, e_seq, cond_if, ↓reduceIte, Nat.reduceEqDiff, BD, decide_eq_false h8, hv.len, ints_len, h32, decide_eq_false hc, hv.frz]
  refine pc (twice_c hP W hv hl) ?_
  cases ht : twiceB l
  case true =>
    have e : takeR o k l = (o, false, 0) := by simp [takeR, h8, hc, ht]
    simp only [BS, e_seq, cond_if, ↓reduceIte, Nat.reduceEqDiff]
    exact ⟨_, rfl, _, _, .weak weak_id, Nat.le_refl _, by rw [e], by rw [e]; exact h, rfl, fun _ _ => rfl⟩
  have hb : (0 ≤ k ∧ k < ((8 : Nat) : Int)) = True := by simp; omega
  have hks := oV_isS (keyO o k)
  have hkl := (keyO_ok h k).1
  simp only [BS, BC, e_seq, cond_if, ↓reduceIte, Nat.reduceEqDiff, reduceCtorEq, BM, BD, m_idxa, hb, h.hq, h.at h0 h8, hv.frz, hks.frz]
  refine pc (begins_c hP W hv hks hl) ?_
  cases hbg : begins l (keyO o k)
  case true =>
    have e : takeR o k l = (o, true, 0) := by simp [takeR, h8, hc, ht, hbg]
    simp only [BS, e_seq, cond_if, ↓reduceIte, Nat.reduceEqDiff]
    exact ⟨_, rfl, _, _, .weak weak_id, Nat.le_refl _, by rw [e], by rw [e]; exact h, rfl, fun _ _ => rfl⟩
  simp only [BS, BC, e_seq, cond_if, ↓reduceIte, Nat.reduceEqDiff, reduceCtorEq, BM, BD, m_idxa, hb, h.hq, h.at h0 h8, hv.frz, hks.frz]
  refine pc (begins_c hP W hks hv (by omega)) ?_
  cases hbk : begins (keyO o k) l
  case false =>
    have e : takeR o k l = (o, false, 0) := by simp [takeR, h8, hc, ht, hbg, hbk]
    simp only [BS, BC, e_seq, cond_if, ↓reduceIte, Nat.reduceEqDiff]
    exact ⟨_, rfl, _, _, .weak weak_id, Nat.le_refl _, by rw [e], by rw [e]; exact h, rfl, fun _ _ => rfl⟩
  have e : takeR o k l = (o.set k.toNat l, true, 0) := by simp [takeR, h8, hc, ht, hbg, hbk]
  have hne : l ≠ [] := begins_lt (by simp [hbg]) hbk
  have hcl : cloneV 1 v = oV l := by
    rcases hv with ⟨_, hx⟩ | ⟨_, hx⟩ | ⟨f, rfl⟩
    · simp [intsV] at hx; exact absurd hx hne
    · simp [intsV] at hx; exact absurd hx hne
    · cases l with
      | nil => exact absurd rfl hne
      | cons a l => simp [cloneV, oV, intsV]
  simp only [BS, BC, e_seq, cond_if, ↓reduceIte, Nat.reduceEqDiff, reduceCtorEq, BD, hv.frz]
  refine pc (clone39_c hP W _ _ hv (belL_ints _ _) (by rw [ints_len]; omega)) ?_
  rw [hcl]
  have hlen := h.len
  have hk8 : k.toNat < o.length := by omega
  have hset : List.take (1 + k.toNat * 1) (V.bool true :: o.map oV) ++ [oV l] ++ List.drop (1 + k.toNat * 1 + 1) (V.bool true :: o.map oV) = V.bool true :: (o.set k.toNat l).map oV := by
    rw [show 1 + k.toNat * 1 = k.toNat + 1 by omega, List.take_succ_cons, List.drop_succ_cons, List.map_set, List.set_eq_take_append_cons_drop, if_pos (by simpa using hk8)]
    simp
  have hle : 1 + k.toNat * 1 + 1 ≤ (V.bool true :: o.map oV).length := by simp; omega
  simp only [BS, e_seq, ↓reduceIte, Nat.reduceEqDiff, BM, BD, Nat.reduceLeDiff, m_idxa, hb, h.hq, (oV_isS l).cells, (oV_isS l).one]
  have hset' : List.take (1 + k.toNat * 1) (V.bool true :: o.map oV) ++ [oV l] ++ List.drop (1 + k.toNat * 1) (o.map oV) = V.bool true :: (o.set k.toNat l).map oV := hset
  rw [if_pos (by simp; omega), hset']
  have hO := h.set (k := k.toNat) (l := l) (by omega) hr
  refine ⟨_, rfl, _, _, .weak weak_id, Nat.le_refl _, by rw [e], by rw [e]; exact hO, rfl, fun x hx => put_ne hx⟩
end Go.AL.S
set_option maxRecDepth 100000
set_option maxHeartbeats 2000000
namespace Go.AL.S
open Go Go.AL Go.Proofs
/- (umpire/txn.Txn).Alive -/
def c_alive : AC := (AC.seq (AC.reg [
  ⟨(some 1), .box, [.t 0], none⟩,
  ⟨(some 2), .mov, [.c (.bool false)], none⟩])
 (AC.seq (AC.reg [
  ⟨(some 3), .fld 4, [.t 1], none⟩,
  ⟨(some 4), .load false 1, [.t 3], none⟩,
  ⟨(some 5), .bin .neq, [.t 4, .c (.int .u8 2)], none⟩,
  ⟨(some 2), .mov, [.t 5], none⟩])
 AC.ret))
def r_alive : AC × List RT × Nat := (c_alive, [.tmp 2], 6)
theorem ok_alivee : compF Tryz.prog Tryz.f19 ⟨false, false, []⟩ = some r_alive := by kernel_rfl
def c_reads_0 : AC := (AC.seq (AC.reg [
    ⟨(some 12), .bin .lss, [.t 11, .t 10], none⟩])
   (AC.seq (AC.cond (.t 12)
    AC.skip
    (AC.exit 0))
   (AC.seq (AC.block 1
    (AC.seq (AC.reg [
     ⟨(some 13), .idxp 3, [.t 9, .t 11], none⟩,
     ⟨(some 14), .load true 3, [.t 13], none⟩,
     ⟨(some 4), .alloc [.bool false, .int .u8 0, .int .u16 0], [], none⟩,
     ⟨none, .store 3, [.t 4, .t 14], none⟩])
    (AC.seq (AC.reg [
     ⟨(some 15), .fld 0, [.t 4], none⟩,
     ⟨(some 16), .load false 1, [.t 15], none⟩,
     ⟨(some 17), .mov, [.t 16], none⟩,
     ⟨(some 18), .mov, [.t 2], (some (17, true))⟩,
     ⟨(some 19), .len 1 0, [.t 18], (some (17, true))⟩,
     ⟨(some 20), .fld 3, [.t 1], (some (17, true))⟩,
     ⟨(some 21), .load false 1, [.t 20], (some (17, true))⟩,
     ⟨(some 22), .len 1 0, [.t 21], (some (17, true))⟩,
     ⟨(some 23), .bin .lss, [.t 19, .t 22], (some (17, true))⟩,
     ⟨(some 24), .pick, [.t 17, .t 23, .c (.bool false)], none⟩])
    (AC.cond (.t 24)
     (AC.par
      (PT.step 0 ⟨(some 25), .mov, [.t 2], none⟩
      (PT.step 1 ⟨(some 26), .fld 1, [.t 4], none⟩
      (PT.step 3 ⟨(some 28), .fld 3, [.t 1], none⟩
      (PT.step 5 ⟨(some 30), .mov, [.t 2], none⟩
      (PT.step 2 ⟨(some 27), .load false 1, [.t 26], none⟩
      (PT.step 4 ⟨(some 29), .load false 1, [.t 28], none⟩
      (PT.step 6 ⟨(some 31), .len 1 0, [.t 30], none⟩
      (PT.step 7 ⟨(some 32), .idxp 1, [.t 29, .t 31], none⟩
      (PT.step 8 ⟨(some 33), .load false 1, [.t 32], none⟩
      (PT.step 9 ⟨(some 34), .pcall 44, [.t 33], none⟩
      (PT.step 10 ⟨(some 35), .build [.int .u8 0, .nilsl] [(0, 1), (1, 1)], [.t 27, .t 34], none⟩
      (PT.step 11 ⟨(some 36), .bslice 2 1 (.agg [.int .u8 0, .nilsl]) [0], [.t 35], none⟩
      (PT.step 12 ⟨(some 37), .append 2 32, [.t 25, .t 36], none⟩
      (PT.step 13 ⟨(some 2), .mov, [.t 37], none⟩
      PT.done)))))))))))))))
     AC.skip))))
   (AC.reg [
    ⟨(some 38), .bin .add, [.t 11, .c (.int .i64 1)], none⟩,
    ⟨(some 11), .mov, [.t 38], none⟩]))))
/- (umpire/txn.Txn).Reads -/
def c_reads : AC := (AC.seq (AC.reg [
  ⟨(some 1), .box, [.t 0], none⟩,
  ⟨(some 2), .mov, [.c (.nilsl)], none⟩])
 (AC.seq (AC.seq (AC.reg [
  ⟨(some 5), .fld 4, [.t 1], none⟩,
  ⟨(some 6), .load false 1, [.t 5], none⟩,
  ⟨(some 7), .bin .neq, [.t 6, .c (.int .u8 1)], none⟩])
 (AC.cond (.t 7)
  (AC.seq (AC.reg [
   ⟨(some 2), .mov, [.c (.nilsl)], none⟩])
  AC.ret)
  AC.skip))
 (AC.seq (AC.seq (AC.reg [
  ⟨(some 8), .fld 2, [.t 1], none⟩,
  ⟨(some 9), .load false 1, [.t 8], none⟩,
  ⟨(some 10), .len 1 0, [.t 9], none⟩,
  ⟨(some 11), .mov, [.c (.int .i64 0)], none⟩])
 (AC.block 0
  (AC.loop c_reads_0)))
 (AC.seq (AC.reg [
  ⟨(some 39), .mov, [.t 2], none⟩,
  ⟨(some 2), .mov, [.t 39], none⟩])
 AC.ret))))
def r_reads : AC × List RT × Nat := (c_reads, [.tmp 2], 40)
theorem ok_readse : compF Tryz.prog Tryz.f36 ⟨false, false, []⟩ = some r_reads := by kernel_rfl
variable {E : Env}
theorem alive_c (hP : E.P = Tryz.prog) (W : AW) (t : Tx) : ACalls E 19 [t.V] W fun Y W' => Y = .bool (decide (t.st ≠ 2)) ∧ W' = W := by
  refine ACalls.of hP Tryz.func19 ok_alivee (by simp) fun _ hok => ?_
  refine awp_start hok ?_
  simp (config := { maxSteps := 2000000 }) (disch := omega) only [c_alive, BS, BC, e_seq, ↓reduceIte, Nat.reduceEqDiff, BM, BD, Tx.V, cmpne]
  exact ⟨_, rfl, _, W, backX hok rfl, Nat.le_refl _, rfl, rfl⟩
/-! slices that grow -/
def nowG (W : AW) (h : V) (xs : List V) (s lo : Nat) : Prop := (h = .nilsl ∧ xs = []) ∨ ∃ r, lo ≤ r ∧ r < W.nx ∧ h = .buf true r s xs.length ∧ xs ≠ [] ∧ W.get r = some (.buf true s xs)
def nowGS (s : Nat) (xs : List V) : V := if xs = [] then .nilsl else .sl s false xs
theorem nowGS_S (s : Nat) (xs : List V) : isS s (nowGS s xs) xs := by
  unfold nowGS
  split
  · rename_i h; subst h; exact .nil
  · exact .mk
theorem nowG.frz {W : AW} {h : V} {xs : List V} {s lo : Nat} (hn : nowG W h xs s lo) : W.frz h = nowGS s xs := by
  rcases hn with ⟨rfl, rfl⟩ | ⟨r, _, _, rfl, hne, hg⟩
  · rfl
  · have he : xs.isEmpty = false := by cases xs <;> simp_all
    simp [AW.frz, hg, nowGS, hne]
theorem nowG.len {W W1 : AW} {K : V → AW → Prop} {h : V} {xs : List V} {s lo n : Nat} (hn : nowG W h xs s lo) : sem E (.len 1 n) [h] W1 K = K (.int .i64 xs.length) W1 := by
  rcases hn with ⟨rfl, rfl⟩ | ⟨r, _, _, rfl, hne, hg⟩ <;> rfl
theorem nowG.to {W W' : AW} {h : V} {xs : List V} {s lo : Nat} (hn : nowG W h xs s lo) (hx : W.nx ≤ W'.nx) (hg : ∀ r, lo ≤ r → r < W.nx → (∃ ys, W.get r = some (.buf true s ys)) → W'.get r = W.get r) : nowG W' h xs s lo := by
  rcases hn with ⟨rfl, rfl⟩ | ⟨r, h1, h2, h3, h4, h5⟩
  · exact .inl ⟨rfl, rfl⟩
  · exact .inr ⟨r, h1, by omega, h3, h4, by rw [hg r h1 h2 ⟨_, h5⟩]; exact h5⟩
theorem app_now {W : AW} {K : V → AW → Prop} {h x : V} {xs : List V} {s lo by' : Nat} (hn : nowG W h xs s lo) (hC : Cl W) (hlo : lo ≤ W.nx) (hs : 0 < s) (hx : x.cells.all V.one = true) (hb : (xs.length + 1) * by' ≤ 2 ^ 46)
    (hK : ∀ h' W', nowG W' h' (xs ++ [x]) s lo → Cl W' → W.nx ≤ W'.nx → (∀ y, y < W.nx → (∀ ys, W.get y ≠ some (.buf true s ys)) → W'.get y = W.get y) → (∀ y, y < lo → W'.get y = W.get y) → K h' W') : sem E (.append s by') [h, .sl s true [x]] W K := by
  rcases hn with ⟨rfl, rfl⟩ | ⟨r, h1, h2, rfl, h4, h5⟩
  · have e : sem E (.append s by') [.nilsl, .sl s true [x]] W K = K (.buf true W.nx s 1) (W.alloc (.buf true s [x])) := by
      simp [sem, elemsV, hs]
      intro; simp at hb; omega
    rw [e]
    refine hK _ _ (.inr ⟨W.nx, hlo, by rw [alloc_nx]; omega, rfl, by simp, alloc_at⟩) ?_ (by rw [alloc_nx]; omega) (fun y hy _ => alloc_lt hy) (fun y hy => alloc_lt (by omega))
    intro y hy
    rw [alloc_nx] at hy
    rw [al_gets, if_neg (by omega)]
    exact hC y (by omega)
  · have e : sem E (.append s by') [.buf true r s xs.length, .sl s true [x]] W K = K (.buf true r s (xs.length + 1)) (W.put r (.buf true s (xs ++ [x]))) := by
      simp only [sem, elemsV, if_true, h5, List.length_cons, List.length_nil, Nat.zero_add, List.all_cons, List.all_nil, Bool.and_true, hx]
      exact propext ⟨fun h => h.2.2.2.2.2.2.2, fun h => ⟨hs, trivial, trivial, trivial, trivial, hb, trivial, h⟩⟩
    rw [e]
    refine hK _ _ (.inr ⟨r, h1, by rw [put_nx]; exact h2, by simp, by simp, put_at⟩) (hC.put h2) (by rw [put_nx]; omega) (fun y hy hne => put_ne ?_) (fun y hy => put_ne (by omega))
    rintro rfl; exact hne _ h5
/-! what a transaction read -/
def rdV (r : Int × Option (List Int)) : V := .agg [.int .u8 r.1, elV r.2]
def rkeys (l : List Mi) : List Int := (l.filter (·.read)).map (·.key)
def readsR (t : Tx) : List (Int × Option (List Int)) := if t.st ≠ 1 then [] else (rkeys t.ms).zip t.ls
theorem rkeys_take {l : List Mi} {k : Nat} (h : k < l.length) : rkeys (l.take (k + 1)) = rkeys (l.take k) ++ (if l[k].read = true then [l[k].key] else []) := by
  rw [List.take_add_one, List.getElem?_eq_getElem h]
  simp only [rkeys, Option.toList_some, List.filter_append, List.map_append]
  cases hr : l[k].read <;> simp [hr]
theorem rkeys_len (l : List Mi) : (rkeys l).length ≤ l.length := by simp only [rkeys, List.length_map]; exact List.length_filter_le _ _
theorem zip_snoc {α β : Type} : ∀ {l : List α} {a : α} {m : List β} (_ : (l.zip m).length < m.length) (h : l.length < m.length), (l ++ [a]).zip m = l.zip m ++ [(a, m[l.length])]
  | [], a, b :: m, _, _ => by simp
  | x :: l, a, [], h, _ => by simp at h
  | x :: l, a, b :: m, h, h' => by
    have := zip_snoc (l := l) (a := a) (m := m) (by simpa using h) (by simpa using h')
    simpa using this
theorem zip_over {α β : Type} : ∀ {l : List α} {a : α} {m : List β}, m.length ≤ l.length → (l ++ [a]).zip m = l.zip m
  | _, _, [], _ => by simp
  | [], _, _ :: _, h => by simp at h
  | x :: l, a, b :: m, h => by
    have := zip_over (l := l) (a := a) (m := m) (by simpa using h)
    simpa using this
theorem elV_cells (o : Option (List Int)) : (elV o).cells = [elV o] := (elV_isEl o).isS.cells
theorem elV_one (o : Option (List Int)) : (elV o).one = true := (elV_isEl o).isS.one
theorem elV_clone (o : Option (List Int)) : cloneV 1 (elV o) = elV o := by
  cases o with
  | none => rfl
  | some l => cases l <;> rfl
theorem bs2 {W : AW} {K : V → AW → Prop} {r : Int × Option (List Int)} : sem E (.bslice 2 1 (.agg [.int .u8 0, .nilsl]) [0]) [.agg [.int .u8 r.1, elV r.2]] W K = K (.sl 2 true [rdV r]) W := by
  simp [sem, rsem, tsem, fillE, V.cells, rdV]
theorem bs2' {W : AW} {K : V → AW → Prop} {a : Int} {o : Option (List Int)} : sem E (.bslice 2 1 (.agg [.int .u8 0, .nilsl]) [0]) [.agg [.int .u8 a, elV o]] W K = K (.sl 2 true [rdV (a, o)]) W := bs2 (r := (a, o))
theorem rdV_ones (r : Int × Option (List Int)) : (rdV r).cells.all V.one = true := by
  simp only [rdV, cells_agg, List.all_cons, List.all_nil, one_int, elV_one, Bool.and_true]
theorem bel_rd (l : List (Int × Option (List Int))) (n : Nat) : V.belL n (l.map rdV) = true := by
  induction l with
  | nil => rfl
  | cons x l ih =>
    simp only [List.map_cons, V.belL, Bool.and_eq_true]
    refine ⟨?_, ih⟩
    simp only [rdV, V.bel, V.belL, elV_bel, Bool.and_true]
theorem elV_frz {W : AW} (o : Option (List Int)) : W.frz (elV o) = elV o := by
  cases o with
  | none => rfl
  | some l => cases l <;> rfl
theorem pcall_go {W : AW} {K : V → AW → Prop} {f : FuncId} {vs ws : List V} {v : V} (hw : vs.map W.frz = ws) (h : ACalls E f ws W (fun X W' => X = v ∧ W' = W)) (hk : K v W) : sem E (.pcall f) vs W K := by
  subst hw; exact ⟨v, h, hk⟩
theorem reads_c (hP : E.P = Tryz.prog) (W : AW) {t : Tx} (ht : t.ok) : ACalls E 36 [t.V] W fun Y W' => Y = nowGS 2 ((readsR t).map rdV) ∧ W' = W := by
  refine ACalls.of hP Tryz.func36 ok_readse (by simp) fun _ hok => ?_
  refine awp_start hok ?_
  by_cases hst : t.st = 1
  · have hms := msV_isMs t.ms
    have hls : isS 1 (lsV t.ls) (t.ls.map elV) := by
      unfold lsV
      split
      · rename_i h; rw [h]; exact .nil
      · exact .mk
    have hml := ht.msl
    have hll := ht.lsl
    simp (config := { maxSteps := 2000000 }) (disch := omega) only [c_reads, BS, BC, e_seq, cond_if, ↓reduceIte, Nat.reduceEqDiff, BM, BD, Tx.V, cmpne, hst, show decide ((1 : Int) ≠ 1) = false by decide, hms.len, List.length_map]
    rw [e_loop]
    refine ALoop.go (B := awp E _) (fun h => awp_mono _ h) (fun (k : Nat) A1 W1 => A1 1 = some (.ptr (rf W.nx 0) 0) ∧ A1 9 = some (msV t.ms) ∧ A1 10 = some (.int .i64 t.ms.length) ∧ A1 11 = some (.int .i64 k) ∧ k ≤ t.ms.length ∧ Cl W1 ∧ W.nx < W1.nx ∧ (∀ x, x < W.nx → W1.get x = W.get x) ∧ W1.get (rf W.nx 0) = some (.row [.int .u16 t.id, .int .u8 t.client, msV t.ms, lsV t.ls, .int .u8 1]) ∧
      ∃ h, A1 2 = some h ∧ nowG W1 h (((rkeys (t.ms.take k)).zip t.ls).map rdV) 2 (W.nx + 1)) (fun k => t.ms.length - k) 0
      ⟨rfl, rfl, rfl, rfl, Nat.zero_le _, Cl.X, by simp [X], fun x hx => X_old hx, by rw [X_get]; rfl, .nilsl, rfl, .inl ⟨rfl, rfl⟩⟩ ?_
    rintro k A1 W1 ⟨g1, g9, g10, g11, gk, gC, gn, gW, gr, h, g2, gh⟩ _
    have r0 : rf W.nx 0 = W.nx + 0 := rfl
    by_cases hk1 : k < t.ms.length
    · have hrt := rkeys_take hk1
      have hrl := rkeys_len (t.ms.take k)
      have hrl' : (t.ms.take k).length ≤ k := by simp; omega
      have hzl : (((rkeys (t.ms.take k)).zip t.ls).map rdV).length = min (rkeys (t.ms.take k)).length t.ls.length := by simp
      refine awp_startC gC ?_
      cases hm : (t.ms[k]).read with
      | false =>
        simp (config := { maxSteps := 100000 }) (disch := omega) only [c_reads_0, BS, BC, e_seq, cond_if, ↓reduceIte, Nat.reduceEqDiff, BM, BD, Nat.reduceAdd, Nat.reduceLeDiff, Nat.reduceLT, g9, g10, g11, clt, hk1, decide_true, hms.idx (mi_at hk1), Mi.V, hm]
        simp (config := { maxSteps := 100000 }) (disch := omega) only [BS, BC, guard_if, ↓reduceIte, Nat.reduceEqDiff, BM]
        simp (config := { maxSteps := 100000 }) (disch := omega) only [BS, BC, cond_if, ↓reduceIte, Nat.reduceEqDiff, BM, BD, g1, g2, g9, g10, g11, wadd1]
        rw [hm, if_neg (by simp), List.append_nil] at hrt
        refine ⟨k + 1, ⟨trivial, trivial, trivial, by simp, by omega, Cl.X, by show W.nx < W1.nx + 1; omega, fun x hx => (X_old (by omega)).trans (gW x hx), gr, h, rfl, ?_⟩, by omega, by show W.nx + 1 ≤ W1.nx + 1; omega⟩
        rw [hrt]
        exact gh.to (by show W1.nx ≤ W1.nx + 1; omega) (fun r _ hr _ => X_old hr)
      | true =>
        simp (config := { maxSteps := 100000 }) (disch := omega) only [c_reads_0, BS, BC, e_seq, cond_if, ↓reduceIte, Nat.reduceEqDiff, BM, BD, Nat.reduceAdd, Nat.reduceLeDiff, Nat.reduceLT, g9, g10, g11, clt, hk1, decide_true, hms.idx (mi_at hk1), Mi.V, hm]
        simp (config := { maxSteps := 100000 }) (disch := omega) only [BS, BC, guard_if, ↓reduceIte, Nat.reduceEqDiff, BM, BD, g1, g2, gr, gh.len, hls.len, clt, List.length_map]
        by_cases hlt : ((rkeys (t.ms.take k)).zip t.ls).length < t.ls.length
        · simp (config := { maxSteps := 100000 }) (disch := omega) only [BS, BC, cond_if, ↓reduceIte, Nat.reduceEqDiff, BM, BD, g1, g2, gr, gh.len, List.length_map, hlt, decide_true]
          have hat : (t.ls.map elV)[((rkeys (t.ms.take k)).zip t.ls).length]? = some (elV t.ls[((rkeys (t.ms.take k)).zip t.ls).length]) := by rw [List.getElem?_map, List.getElem?_eq_getElem hlt]; rfl
          have ho := List.getElem_mem hlt
          generalize hoe : t.ls[((rkeys (t.ms.take k)).zip t.ls).length] = o at hat ho
          simp (config := { maxSteps := 100000 }) (disch := omega) only [BS, ↓reduceIte, BM, hls.idx hat, elV_cells]
          have hox : (nums o).length ≤ 32 := (ht.ls o ho).1
          have hzs := zip_snoc (a := (t.ms[k]).key) hlt (by have := hlt; simp only [List.length_zip] at this; omega)
          refine pcall_go (v := elV o) (by rw [List.map_cons, List.map_nil, elV_frz]) ?_ ?_
          · have := clone39_c hP (X W1 W1.nx [.row [.bool true, .int .u8 t.ms[k].key, .int .u16 t.ms[k].v]]) (elV o) _ (elV_isEl o).isS (belL_ints _ _) (by rw [ints_len]; omega)
            rw [elV_clone] at this
            exact this
          simp (config := { maxSteps := 100000 }) (disch := omega) only [BS, ↓reduceIte, Nat.reduceEqDiff, BM, BD, Nat.reduceAdd, Nat.reduceLeDiff, elV_cells, bs2']
          have hlen : ((rkeys (t.ms.take k)).zip t.ls).length = (rkeys (t.ms.take k)).length := by have := hlt; simp only [List.length_zip] at this ⊢; omega
          have hoo : t.ls[(rkeys (t.ms.take k)).length]'(by omega) = o := by rw [← hoe]; congr 1; exact hlen.symm
          rw [hoo] at hzs
          rw [hm, if_pos rfl] at hrt
          refine app_now (lo := W.nx + 1) (gh.to (by show W1.nx ≤ W1.nx + 1; omega) (fun r _ hr _ => X_old hr)) Cl.X (by show W.nx + 1 ≤ W1.nx + 1; omega) (by omega) (rdV_ones _) (by rw [List.length_map, hlen]; omega) ?_
          intro h' W' gh' gC' gx gk1 gk2
          simp (config := { maxSteps := 100000 }) (disch := omega) only [BS, ↓reduceIte, Nat.reduceEqDiff, g1, g9, g10, g11, wadd1]
          have gx' : W1.nx + 1 ≤ W'.nx := gx
          refine ⟨k + 1, ⟨trivial, trivial, trivial, by simp, by omega, gC', by omega, fun x hx => (gk2 x (by omega)).trans ((X_old (by omega)).trans (gW x hx)), (gk2 _ (by omega)).trans ((X_old (by omega)).trans gr), h', rfl, ?_⟩, by omega, by show W.nx + 1 ≤ W'.nx; omega⟩
          rw [hrt, hzs, List.map_append]
          exact gh'
        · simp (config := { maxSteps := 100000 }) (disch := omega) only [BS, BC, cond_if, ↓reduceIte, Nat.reduceEqDiff, BM, BD, g1, g2, g9, g10, g11, hlt, decide_false, wadd1]
          rw [hm, if_pos rfl] at hrt
          have hov : ((rkeys (t.ms.take k)) ++ [(t.ms[k]).key]).zip t.ls = (rkeys (t.ms.take k)).zip t.ls := zip_over (by simp at hlt; omega)
          refine ⟨k + 1, ⟨trivial, trivial, trivial, by simp, by omega, Cl.X, by show W.nx < W1.nx + 1; omega, fun x hx => (X_old (by omega)).trans (gW x hx), gr, h, rfl, ?_⟩, by omega, by show W.nx + 1 ≤ W1.nx + 1; omega⟩
          rw [hrt, hov]
          exact gh.to (by show W1.nx ≤ W1.nx + 1; omega) (fun r _ hr _ => X_old hr)
    · simp (config := { maxSteps := 2000000 }) (disch := omega) only [c_reads_0, BS, BC, e_seq, cond_if, ↓reduceIte, Nat.reduceEqDiff, BM, BD, g2, g10, g11, clt, hk1, decide_false]
      have hke : k = t.ms.length := by omega
      subst hke
      rw [List.take_length] at gh
      rw [gh.frz]
      refine ⟨_, rfl, _, W, .weak (weak_back hok ?_ gW), Nat.le_refl _, by simp only [readsR, hst]; rfl, rfl⟩
      unfold nowGS
      split
      · rfl
      · exact bel_rd _ _
  · simp (config := { maxSteps := 2000000 }) (disch := omega) only [c_reads, BS, BC, e_seq, cond_if, ↓reduceIte, Nat.reduceEqDiff, BM, BD, Tx.V, cmpne, show decide (t.st ≠ 1) = true by simp [hst]]
    exact ⟨_, rfl, _, W, backX hok rfl, Nat.le_refl _, by simp [readsR, hst, nowGS], rfl⟩
end Go.AL.S
set_option maxRecDepth 100000
set_option maxHeartbeats 2000000
namespace Go.AL.S
open Go Go.AL Go.Proofs
/- (umpire/graph.builder).writer -/
def c_writer : AC := (AC.seq (AC.reg [
  ⟨(some 3), .box, [.t 0], none⟩,
  ⟨(some 6), .mov, [.c (.int .u16 0)], none⟩,
  ⟨(some 7), .mov, [.c (.bool false)], none⟩])
 (AC.seq (AC.reg [
  ⟨(some 11), .fld 0, [.t 3], none⟩,
  ⟨(some 12), .load false 1, [.t 11], none⟩,
  ⟨(some 13), .mov, [.t 1], none⟩,
  ⟨(some 14), .mov, [.t 2], none⟩,
  ⟨(some 15), .call 60, [.t 12, .t 13, .t 14], none⟩,
  ⟨(some 10), .mov, [.t 15], none⟩,
  ⟨(some 16), .ext 0, [.t 10], none⟩,
  ⟨(some 17), .ext 1, [.t 10], none⟩,
  ⟨(some 8), .alloc [.int .u16 0, .int .u8 0, .nilsl, .nilsl, .int .u8 0], [], none⟩,
  ⟨none, .store 5, [.t 8, .t 16], none⟩,
  ⟨(some 9), .mov, [.t 17], none⟩])
 (AC.seq (AC.par
  (PT.step 0 ⟨(some 18), .fld 0, [.t 8], none⟩
  (PT.step 2 ⟨(some 20), .mov, [.t 9], none⟩
  (PT.step 3 ⟨(some 21), .mov, [.t 20], none⟩
  (PT.step 1 ⟨(some 19), .load false 1, [.t 18], none⟩
  (PT.step 4 ⟨(some 22), .load true 5, [.t 8], (some (21, true))⟩
  (PT.step 5 ⟨(some 23), .pcall 19, [.t 22], (some (21, true))⟩
  (PT.step 6 ⟨(some 24), .pick, [.t 21, .t 23, .c (.bool false)], none⟩
  (PT.step 7 ⟨(some 6), .mov, [.t 19], none⟩
  (PT.step 8 ⟨(some 7), .mov, [.t 24], none⟩
  PT.done))))))))))
 AC.ret)))
def r_writer : AC × List RT × Nat := (c_writer, [.tmp 6, .tmp 7], 25)
theorem ok_writere : compF Tryz.prog Tryz.f80 ⟨false, false, []⟩ = some r_writer := by kernel_rfl
/- (umpire/graph.builder).edge -/
def c_edge : AC := (AC.seq (AC.reg [
  ⟨(some 4), .box, [.t 0], none⟩])
 (AC.seq (AC.reg [
  ⟨(some 8), .mov, [.t 1], none⟩,
  ⟨(some 9), .mov, [.t 2], none⟩,
  ⟨(some 10), .bin .neq, [.t 8, .t 9], none⟩])
 (AC.cond (.t 10)
  (AC.par
   (PT.step 0 ⟨(some 11), .fld 2, [.t 4], none⟩
   (PT.step 5 ⟨(some 16), .mov, [.t 1], none⟩
   (PT.step 6 ⟨(some 17), .mov, [.t 2], none⟩
   (PT.step 7 ⟨(some 18), .mov, [.t 3], none⟩
   (PT.step 8 ⟨(some 19), .build [.int .u16 0, .int .u16 0, .int .u8 0] [(0, 1), (1, 1), (2, 1)], [.t 16, .t 17, .t 18], none⟩
   (PT.step 1 ⟨(some 12), .load false 1, [.t 11], none⟩
   (PT.step 2 ⟨(some 13), .nilck, [.t 12], none⟩
   (PT.step 3 ⟨(some 14), .fld 1, [.t 13], none⟩
   (PT.step 4 ⟨(some 15), .load false 1, [.t 14], none⟩
   (PT.alt
    (PT.step 9 ⟨(some 20), .lookup (true, [.i .u16, .i .u16, .i .u8]) (.int .i64 0) false, [.t 15, .t 19], none⟩
    (PT.step 10 ⟨(some 21), .bin .add, [.t 20, .c (.int .i64 1)], none⟩
    (PT.step 11 ⟨(some 22), .ment (true, [.i .u16, .i .u16, .i .u8]) (.int .i64 0), [.t 15, .t 19], none⟩
    (PT.step 12 ⟨(some 23), .ext 1, [.t 22], none⟩
    (PT.step 13 ⟨none, .mest, [.t 15, .t 23, .t 21], none⟩
    PT.done)))))
    (PT.step 11 ⟨(some 22), .ment (true, [.i .u16, .i .u16, .i .u8]) (.int .i64 0), [.t 15, .t 19], none⟩
    (PT.step 12 ⟨(some 23), .ext 1, [.t 22], none⟩
    (PT.step 9 ⟨(some 20), .lookup (true, [.i .u16, .i .u16, .i .u8]) (.int .i64 0) false, [.t 15, .t 19], none⟩
    (PT.step 10 ⟨(some 21), .bin .add, [.t 20, .c (.int .i64 1)], none⟩
    (PT.step 13 ⟨none, .mest, [.t 15, .t 23, .t 21], none⟩
    PT.done))))))))))))))))
  AC.skip)))
def r_edge : AC × List RT × Nat := (c_edge, [], 24)
theorem ok_edgee : compF Tryz.prog Tryz.f81 ⟨false, false, []⟩ = some r_edge := by kernel_rfl
variable {E : Env}
/-! a graph's builder -/
def bV (p o g : Nat) : V := .agg [.ptr p 0, .ptr o 0, .ptr g 0]
def wrR (s : Str) (k v : Int) : Int × Bool := match who s k v with
  | some t => (t.id, decide (t.st ≠ 2))
  | none => (0, false)
theorem writer_c (hP : E.P = Tryz.prog) (W : AW) {p ra rw o g : Nat} {s : Str} (h : St W p ra rw s) (k v : Int) (h0 : 0 ≤ k) (h1 : k < 256) (h2 : 0 ≤ v) (h3 : v < 65536) :
    ACalls E 80 [bV p o g, .int .u8 k, .int .u16 v] W fun Y W' => Y = .tuple [.int .u16 (wrR s k v).1, .bool (wrR s k v).2] ∧ W' = W := by
  refine ACalls.of hP Tryz.func80 ok_writere (by simp [bV]) fun _ hok => ?_
  refine awp_start hok ?_
  simp only [c_writer, BS, BC, e_seq, ↓reduceIte, Nat.reduceEqDiff, BM, BD, bV]
  refine pc (who_c hP _ (h.ex .x0) k v h0 h1 h2 h3) ?_
  cases hw : who s k v with
  | none =>
    simp only [BS, BC, e_seq, guard_if, ↓reduceIte, Nat.reduceEqDiff, BM, BD, Nat.reduceAdd, Nat.reduceLeDiff, Nat.reduceLT, msV_one, lsV_one, Option.isSome_none, Option.getD_none, Tx.V, Tx.zero]
    exact ⟨_, rfl, _, W, backX hok rfl, Nat.le_refl _, by simp [wrR, hw], rfl⟩
  | some t =>
    have ht := h.ok.ok t (who_mem hw).1
    simp only [BS, BC, e_seq, guard_if, ↓reduceIte, Nat.reduceEqDiff, BM, BD, m_pcall, Nat.reduceAdd, Nat.reduceLeDiff, Nat.reduceLT, msV_one, lsV_one, Option.isSome_some, Option.getD_some, Tx.V]
    refine ⟨.bool (decide (t.st ≠ 2)), alive_c hP _ t, ?_⟩
    simp only [BS]
    exact ⟨_, rfl, _, W, backX hok rfl, Nat.le_refl _, by simp [wrR, hw], rfl⟩
end Go.AL.S
set_option maxRecDepth 100000
set_option maxHeartbeats 2000000
namespace Go.AL.S
open Go Go.AL Go.Proofs
theorem m_ment_old {E : Env} {W : AW} {K : V → AW → Prop} {sh : Bool × List SK} {z key : V} {r c : Nat} {es : List En} {e : En} (h : W.get r = some (.map es c)) (hk : keysOk sh key es) (hf : findK key es = some e) :
    sem E (.ment sh z) [.map r, key] W K = K (.tuple [e.2.1, .int .i64 e.2.2]) W := by
  simp only [sem, h, hf]
  exact propext ⟨fun h => h.2, fun h => ⟨hk, h⟩⟩
theorem m_ment_new {E : Env} {W : AW} {K : V → AW → Prop} {sh : Bool × List SK} {z key : V} {r c : Nat} {es : List En} (h : W.get r = some (.map es c)) (hk : keysOk sh key es) (hf : findK key es = none) :
    sem E (.ment sh z) [.map r, key] W K = K (.tuple [z, .int .i64 c]) (W.put r (.map (es ++ [(key, z, c)]) (c + 1))) := by
  simp only [sem, h, hf]
  exact propext ⟨fun h => h.2, fun h => ⟨hk, h⟩⟩
theorem m_mest {E : Env} {W : AW} {K : V → AW → Prop} {r c n : Nat} {ik : IntKind} {x : V} {es es' : List En} (h : W.get r = some (.map es c)) (hs : setS n x es = some es') :
    sem E .mest [.map r, .int ik n, x] W K = K .undef (W.put r (.map es' c)) := by
  simp only [sem, h, Int.toNat_natCast, hs]
  exact propext ⟨fun h => h.2, fun h => ⟨by omega, h⟩⟩
/-! how often an edge was made -/
abbrev Ek := Int × Int × Int
def ekV (e : Ek) : V := .agg [.int .u16 e.1, .int .u16 e.2.1, .int .u8 e.2.2]
def gFrom : Nat → List (Ek × Int) → List En
  | _, [] => []
  | n, x :: l => (ekV x.1, .int .i64 x.2, n) :: gFrom (n + 1) l
def getE (l : List (Ek × Int)) (k : Ek) : Option Int := (l.find? fun x => decide (x.1 = k)).map (·.2)
def setE (l : List (Ek × Int)) (k : Ek) (c : Int) : List (Ek × Int) := match l with
  | [] => []
  | x :: l => if x.1 = k then (k, c) :: l else x :: setE l k c
theorem gFrom_snoc (l : List (Ek × Int)) (x : Ek × Int) : ∀ n, gFrom n (l ++ [x]) = gFrom n l ++ [(ekV x.1, .int .i64 x.2, n + l.length)] := by
  induction l with
  | nil => intro n; rfl
  | cons y l ih => intro n; simp only [List.cons_append, gFrom, ih, List.length_cons]; rw [show n + 1 + l.length = n + (l.length + 1) by omega]
theorem ekV_keq (a b : Ek) : (ekV a).keq (ekV b) = decide (b = a) := by
  obtain ⟨a1, a2, a3⟩ := a
  obtain ⟨b1, b2, b3⟩ := b
  rw [Bool.eq_iff_iff]
  simp only [ekV, V.keq, V.cells, V.eqs, V.eq1, Bool.and_true, cmpeq, Bool.and_eq_true, decide_eq_true_eq, Prod.mk.injEq]
  constructor <;> (rintro ⟨h1, h2, h3⟩; exact ⟨h1.symm, h2.symm, h3.symm⟩)
theorem findK_g (k : Ek) (l : List (Ek × Int)) : ∀ n, match getE l k with
    | some c => ∃ i, findK (ekV k) (gFrom n l) = some (ekV k, .int .i64 c, i) ∧ ∀ c', setS i (.int .i64 c') (gFrom n l) = some (gFrom n (setE l k c'))
    | none => findK (ekV k) (gFrom n l) = none := by
  have hi : ∀ (l : List (Ek × Int)) n i (v : V), i < n → setS i v (gFrom n l) = none := by
    intro l
    induction l with
    | nil => intro _ _ _ _; rfl
    | cons x l ih => intro n i v h; simp only [gFrom, setS]; rw [if_neg (by omega), ih _ _ _ (by omega)]; rfl
  have hge : ∀ (l : List (Ek × Int)) n e, findK (ekV k) (gFrom n l) = some e → n ≤ e.2.2 := by
    intro l
    induction l with
    | nil => intro _ _ h; cases h
    | cons x l ih =>
      intro n e h
      simp only [gFrom, findK] at h
      split at h
      · cases h; exact Nat.le_refl _
      · have := ih _ _ h; omega
  induction l with
  | nil => intro n; rfl
  | cons x l ih =>
    intro n
    by_cases hx : x.1 = k
    · have : getE (x :: l) k = some x.2 := by simp [getE, hx]
      rw [this]
      refine ⟨n, ?_, fun c' => ?_⟩
      · simp only [gFrom, findK, ekV_keq, hx, decide_true, if_true]
      · simp only [gFrom, setS, setE, hx, if_true]
    · have : getE (x :: l) k = getE l k := by simp [getE, hx]
      rw [this]
      have h1 := ih (n + 1)
      have hf : findK (ekV k) (gFrom n (x :: l)) = findK (ekV k) (gFrom (n + 1) l) := by simp only [gFrom, findK, ekV_keq, hx, decide_false, Bool.false_eq_true, if_false]
      rw [hf]
      cases hg : getE l k with
      | none => rw [hg] at h1; exact h1
      | some c =>
        rw [hg] at h1
        obtain ⟨i, h2, h3⟩ := h1
        have := hge _ _ _ h2
        refine ⟨i, h2, fun c' => ?_⟩
        simp only [gFrom, setS, setE, if_neg hx]
        rw [if_neg (by simp only at this; omega), h3]
        rfl
end Go.AL.S
set_option maxRecDepth 100000
namespace Go.AL.S
open Go Go.AL Go.Proofs
variable {E : Env}
/-! acts -/
structure Ac where
  what : Int
  client : Int
  id : Int
  tx : V
  txl : List Mi
  rd : V
  rdl : List (Option (List Int))
def Ac.V (a : Ac) : V := .agg [.int .u8 a.what, .int .u8 a.client, .int .u16 a.id, a.tx, a.rd]
structure Ac.ok (a : Ac) : Prop where
  wh : 0 ≤ a.what ∧ a.what < 256
  cl : 0 ≤ a.client ∧ a.client < 256
  id : 0 ≤ a.id ∧ a.id < 65536
  tx : isMs a.tx a.txl
  rd : isLs a.rd a.rdl
  ms : ∀ m ∈ a.txl, m.ok
  ns : ∀ o ∈ a.rdl, ∀ n ∈ nums o, 0 ≤ n ∧ n < 65536
  bel : a.rd.bel 0 = true
theorem Ac.ok.rdS {a : Ac} (h : a.ok) : ∃ xs, isS 1 a.rd xs ∧ xs.length = a.rdl.length ∧ ∀ k (h : k < xs.length) (h' : k < a.rdl.length), isEl xs[k] a.rdl[k] := h.rd
def Ac.small (a : Ac) : Prop := a.txl.length ≤ 20 ∧ a.rdl.length ≤ 20 ∧ ∀ o ∈ a.rdl, (nums o).length ≤ 40
theorem find_mem {s : Str} {i : Int} {t : Tx} (h : find s i = some t) : t ∈ s := by
  unfold find at h; exact List.mem_of_find?_eq_some h
theorem ac_load1 {W : AW} {K : V → AW → Prop} {a : Ac} : sem E (.fld 3) [.cptr a.V.cells] W K = K (.cptr [a.tx, a.rd]) W := by
  simp [Ac.V, V.cells, sem, rsem, tsem]
theorem ac_load2 {W : AW} {K : V → AW → Prop} {a : Ac} : sem E (.fld 4) [.cptr a.V.cells] W K = K (.cptr [a.rd]) W := by
  simp [Ac.V, V.cells, sem, rsem, tsem]
structure Nw (W W' : AW) (p ra rw : Nat) (s : Str) : Prop where
  st : St W' p ra rw s
  ex : Ex W W'
  hp : W.nx ≤ p
  ha : W.nx ≤ ra
  hw : W.nx ≤ rw
theorem Fr.cl {W W' : AW} {p ra rw : Nat} (h : Fr W W' p ra rw) (hC : Cl W) (hp : p < W.nx) (ha : ra < W.nx) (hw : rw < W.nx) : Cl W' := by
  intro x hx
  rw [h.nx] at hx
  rw [h.get x (by omega) (by omega) (by omega)]
  exact hC x hx
theorem Nw.fr {W W1 W2 : AW} {p ra rw : Nat} {s s' : Str} (h : Nw W W1 p ra rw s) (h2 : St W2 p ra rw s') (hf : Fr W1 W2 p ra rw) : Nw W W2 p ra rw s' := by
  have a := h.hp
  have b := h.ha
  have c := h.hw
  exact ⟨h2, ⟨hf.cl h.ex.cl h.st.lp h.st.la h.st.lw, by rw [hf.nx]; exact h.ex.nx, fun x hx => by rw [hf.get x (by omega) (by omega) (by omega)]; exact h.ex.get x hx⟩, a, b, c⟩
theorem Nw.exx {W W1 W2 : AW} {p ra rw : Nat} {s : Str} (h : Nw W W1 p ra rw s) (h2 : Ex W1 W2) : Nw W W2 p ra rw s := ⟨h.st.ex h2, h.ex.trans h2, h.hp, h.ha, h.hw⟩
end Go.AL.S
set_option maxRecDepth 100000
namespace Go.AL.S
open Go Go.AL Go.Proofs
/-! a graph, in plain words -/
theorem snocInd {α : Type} {p : List α → Prop} (h0 : p []) (hs : ∀ l a, p l → p (l ++ [a])) (l : List α) : p l := by
  rw [← l.reverse_reverse]
  induction l.reverse with
  | nil => exact h0
  | cons a m ih => rw [List.reverse_cons]; exact hs _ _ ih
def bumpL (l : List (Ek × Int)) (k : Ek) : List (Ek × Int) := match getE l k with
  | some c => setE l k (c + 1)
  | none => l ++ [(k, 1)]
def tally (P : List Ek) : List (Ek × Int) := P.foldl bumpL []
theorem tally_snoc (P : List Ek) (k : Ek) : tally (P ++ [k]) = bumpL (tally P) k := by simp [tally]
theorem getE_set {l : List (Ek × Int)} {k : Ek} {c0 c : Int} (h : getE l k = some c0) (e : Ek) : getE (setE l k c) e = if e = k then some c else getE l e := by
  induction l with
  | nil => simp [getE] at h
  | cons x l ih =>
    by_cases hx : x.1 = k
    · simp only [setE, if_pos hx]
      by_cases he : e = k
      · subst he; simp [getE]
      · have h1 : ¬ k = e := fun h => he h.symm
        have h2 : ¬ x.1 = e := by rw [hx]; exact h1
        simp [getE, he, h1, h2]
    · simp only [setE, if_neg hx]
      have h' : getE l k = some c0 := by simpa [getE, hx] using h
      have := ih h'
      by_cases he : x.1 = e
      · have hek : ¬ e = k := by rw [← he]; exact hx
        simp [getE, he, hek]
      · have e1 : ∀ l', getE (x :: l') e = getE l' e := fun l' => by simp [getE, he]
        rw [e1, e1, this]
theorem getE_app {l : List (Ek × Int)} {k : Ek} (h : getE l k = none) (c : Int) (e : Ek) : getE (l ++ [(k, c)]) e = if e = k then some c else getE l e := by
  simp only [getE, List.find?_append] at h ⊢
  by_cases he : e = k
  · subst he
    have : (l.find? fun x => decide (x.1 = e)) = none := by simpa using h
    rw [this]; simp
  · have : ¬ k = e := fun h => he h.symm
    simp [he, this]
theorem getE_bump (l : List (Ek × Int)) (k e : Ek) : getE (bumpL l k) e = if e = k then some ((getE l k).getD 0 + 1) else getE l e := by
  unfold bumpL
  cases h : getE l k with
  | none => rw [getE_app h]; simp
  | some c => rw [getE_set h]; simp
theorem tally_get (P : List Ek) (e : Ek) : getE (tally P) e = if e ∈ P then some (P.count e : Int) else none := by
  refine snocInd (p := fun P => getE (tally P) e = if e ∈ P then some (P.count e : Int) else none) ?_ (fun P k ih => ?_) P
  · rfl
  · skip
    rw [tally_snoc, getE_bump]
    by_cases he : e = k
    · subst he
      rw [ih]
      by_cases hm : e ∈ P
      · simp [hm]
      · simp [hm, List.count_eq_zero_of_not_mem hm]
    · have : ¬ k = e := fun h => he h.symm
      rw [if_neg he, ih]
      simp [he, List.count_append, this]
def keysE (l : List (Ek × Int)) : List Ek := l.map (·.1)
theorem keys_set (l : List (Ek × Int)) (k : Ek) (c : Int) : keysE (setE l k c) = keysE l := by
  induction l with
  | nil => rfl
  | cons x l ih =>
    simp only [setE]
    split
    · rename_i h; simp [keysE, h]
    · simp only [keysE, List.map_cons] at ih ⊢; rw [ih]
theorem getE_mem {l : List (Ek × Int)} {k : Ek} : (getE l k).isSome = true ↔ k ∈ keysE l := by
  simp only [getE, keysE, Option.isSome_map, List.find?_isSome, List.mem_map, decide_eq_true_eq]
theorem tally_nodup (P : List Ek) : (keysE (tally P)).Nodup := by
  refine snocInd (p := fun P => (keysE (tally P)).Nodup) ?_ (fun P k ih => ?_) P
  · exact List.nodup_nil
  · skip
    rw [tally_snoc]
    unfold bumpL
    cases h : getE (tally P) k with
    | some c => simp only [keys_set]; exact ih
    | none =>
      have hk : k ∉ keysE (tally P) := fun hm => by rw [← getE_mem, h] at hm; cases hm
      simp only [keysE, List.map_append, List.map_cons, List.map_nil]
      exact List.nodup_append.2 ⟨ih, by simp, fun a ha b hb e => by rw [List.mem_singleton.1 hb] at e; subst e; exact hk ha⟩
theorem tally_mem (P : List Ek) (k : Ek) : k ∈ keysE (tally P) ↔ k ∈ P := by
  rw [← getE_mem, tally_get]
  by_cases h : k ∈ P <;> simp [h]
theorem tally_len (P : List Ek) : (tally P).length ≤ P.length := by
  refine snocInd (p := fun P => (tally P).length ≤ P.length) ?_ (fun P k ih => ?_) P
  · exact Nat.le_refl _
  · skip
    rw [tally_snoc]
    unfold bumpL
    cases h : getE (tally P) k with
    | some c =>
      have := congrArg List.length (keys_set (tally P) k (c + 1))
      simp only [keysE, List.length_map] at this
      simp only [List.length_append, List.length_cons, List.length_nil]; omega
    | none => simp only [List.length_append, List.length_cons, List.length_nil]; omega
def edgeP (f t k : Int) : List Ek := if f = t then [] else [(f, t, k)]
def keyP (s : Str) (o : Ods) (k : Int) : List Ek := ((keyO o k).zip (keyO o k).tail).flatMap fun x => if (wrR s k x.1).2 = true ∧ (wrR s k x.2).2 = true then edgeP (wrR s k x.1).1 (wrR s k x.2).1 0 else []
abbrev Rd := Int × Option (List Int)
def countsR (s : Str) (o : Ods) (r : Rd) : Bool := begins (nums r.2) (keyO o r.1) && (nums r.2).all fun v => (who s r.1 v).isSome
def lastP (s : Str) (b : Int) (r : Rd) : List Ek := match (nums r.2).getLast? with
  | some v => if (wrR s r.1 v).2 = true then edgeP (wrR s r.1 v).1 b 1 else []
  | none => []
def nextP (s : Str) (o : Ods) (b : Int) (r : Rd) : List Ek := match (keyO o r.1)[(nums r.2).length]? with
  | some v => if (wrR s r.1 v).2 = true then edgeP b (wrR s r.1 v).1 2 else []
  | none => []
def readP (s : Str) (o : Ods) (b : Int) (r : Rd) : List Ek := lastP s b r ++ nextP s o b r
def txnP (s : Str) (o : Ods) (t : Tx) : List Ek := if t.st = 2 then [] else (readsR t).flatMap fun r => if countsR s o r = true then readP s o t.id r else []
def keysP (s : Str) (o : Ods) : List Ek := (List.range 8).flatMap fun (k : Nat) => keyP s o (k : Int)
def buildP (s : Str) (o : Ods) : List Ek := keysP s o ++ s.flatMap (txnP s o)
def nodesR (s : Str) : List Int := (s.filter fun t => decide (t.st ≠ 2)).map Tx.id
end Go.AL.S
set_option maxRecDepth 100000
namespace Go.AL.S
open Go Go.AL Go.Proofs
/-! acts on a store and its orders -/
def takesR (o : Ods) : List Rd → Ods × Bool
  | [] => (o, true)
  | r :: l => ((takesR (takeR o r.1 (nums r.2)).1 l).1, ((takeR o r.1 (nums r.2)).2.1 && decide ((takeR o r.1 (nums r.2)).2.2 = 0)) && (takesR (takeR o r.1 (nums r.2)).1 l).2)
def w6 (a : Ac) : Int := a.what.tmod 6
def actG (s : Str) (o : Ods) (a : Ac) : Str × Ods × Int × Bool :=
  if w6 a = 2 ∨ w6 a = 3 then
    if (commitR s a.id a.rdl).2 = 0 then ((commitR s a.id a.rdl).1, (takesR o (readsR ((find (commitR s a.id a.rdl).1 a.id).getD Tx.zero))).1, 0, (takesR o (readsR ((find (commitR s a.id a.rdl).1 a.id).getD Tx.zero))).2)
    else ((commitR s a.id a.rdl).1, o, (commitR s a.id a.rdl).2, true)
  else if w6 a = 4 then ((endR s a.id 2).1, o, (endR s a.id 2).2, true)
  else if w6 a = 5 then ((endR s a.id 3).1, o, (endR s a.id 3).2, true)
  else ((beginR s a.client a.id a.txl).1, o, (beginR s a.client a.id a.txl).2, true)
theorem begins_iff {a b : List Int} : begins a b = true ↔ a <+: b := by
  simp only [begins, Bool.and_eq_true, decide_eq_true_eq]
  constructor
  · rintro ⟨_, h⟩; rw [h]; exact List.take_prefix _ _
  · intro h; exact ⟨h.length_le, List.prefix_iff_eq_take.1 h⟩
theorem keyO_set {o : Ods} (h8 : o.length = 8) {k : Int} (h0 : 0 ≤ k) (h1 : k < 8) (l : List Int) {j : Int} (j0 : 0 ≤ j) : keyO (o.set k.toNat l) j = if j = k then l else keyO o j := by
  unfold keyO
  by_cases hj : j ≥ 8
  · have : ¬ j = k := by omega
    simp [hj, this]
  · simp only [if_neg hj]
    by_cases e : j = k
    · subst e
      rw [if_pos rfl, List.getD_eq_getElem?_getD, List.getElem?_set_self (by omega)]; rfl
    · rw [if_neg e, List.getD_eq_getElem?_getD, List.getD_eq_getElem?_getD, List.getElem?_set_ne (by omega)]
theorem takeR_cases {o : Ods} (h8 : o.length = 8) {k : Int} (h0 : 0 ≤ k) (l : List Int) : (takeR o k l).1.length = 8 ∧ (∀ j, 0 ≤ j → keyO o j <+: keyO (takeR o k l).1 j) ∧
    ((takeR o k l).2.1 = true → k < 8 ∧ l <+: keyO (takeR o k l).1 k) ∧ (∀ j, 0 ≤ j → keyO (takeR o k l).1 j = keyO o j ∨ (j = k ∧ keyO (takeR o k l).1 j = l)) := by
  unfold takeR
  by_cases c1 : k ≥ 8
  · simp only [if_pos c1]; exact ⟨h8, fun j _ => List.prefix_refl _, by simp, fun j _ => by simp⟩
  simp only [if_neg c1]
  by_cases c2 : l.length > 32
  · simp only [if_pos c2]; exact ⟨h8, fun j _ => List.prefix_refl _, by simp, fun j _ => by simp⟩
  simp only [if_neg c2]
  by_cases c3 : twiceB l = true
  · simp only [if_pos c3]; exact ⟨h8, fun j _ => List.prefix_refl _, by simp, fun j _ => by simp⟩
  simp only [if_neg c3]
  by_cases c4 : begins l (keyO o k) = true
  · simp only [if_pos c4]; exact ⟨h8, fun j _ => List.prefix_refl _, fun _ => ⟨by omega, begins_iff.1 c4⟩, fun j _ => by simp⟩
  simp only [if_neg c4]
  by_cases c5 : begins (keyO o k) l = true
  · simp only [if_pos c5]
    have hs := fun {j : Int} (j0 : 0 ≤ j) => keyO_set h8 h0 (by omega) l j0
    refine ⟨by rw [List.length_set]; exact h8, fun j j0 => ?_, fun _ => ⟨by omega, by rw [hs h0, if_pos rfl]; exact List.prefix_refl _⟩, fun j j0 => ?_⟩
    · rw [hs j0]
      by_cases e : j = k
      · subst e; rw [if_pos rfl]; exact begins_iff.1 c5
      · rw [if_neg e]; exact List.prefix_refl _
    · rw [hs j0]
      by_cases e : j = k
      · exact .inr ⟨e, by rw [if_pos e]⟩
      · rw [if_neg e]; exact .inl rfl
  · simp only [if_neg c5]; exact ⟨h8, fun j _ => List.prefix_refl _, by simp, fun j _ => by simp⟩
/-- Orders only grow. -/
theorem takes_grow : ∀ {l : List Rd} {o : Ods}, o.length = 8 → (∀ r ∈ l, 0 ≤ r.1) → (takesR o l).1.length = 8 ∧ (∀ j, 0 ≤ j → keyO o j <+: keyO (takesR o l).1 j) ∧
    (∀ j, 0 ≤ j → keyO (takesR o l).1 j = keyO o j ∨ ∃ r ∈ l, r.1 = j ∧ nums r.2 = keyO (takesR o l).1 j) ∧
    ((takesR o l).2 = true → ∀ r ∈ l, r.1 < 8 ∧ nums r.2 <+: keyO (takesR o l).1 r.1)
  | [], o, h, _ => ⟨h, fun j _ => List.prefix_refl _, fun j _ => .inl rfl, by simp⟩
  | r :: l, o, h, hr => by
    obtain ⟨t1, t2, t3, t4⟩ := takeR_cases h (hr r (by simp)) (nums r.2)
    obtain ⟨i1, i2, i3, i4⟩ := takes_grow (l := l) (o := (takeR o r.1 (nums r.2)).1) t1 (fun x hx => hr x (by simp [hx]))
    refine ⟨i1, fun j j0 => (t2 j j0).trans (i2 j j0), fun j j0 => ?_, fun ht x hx => ?_⟩
    · rcases i3 j j0 with e | ⟨x, hx, e1, e2⟩
      · rcases t4 j j0 with e' | ⟨e1, e2⟩
        · exact .inl (e.trans e')
        · refine .inr ⟨r, by simp, e1.symm, ?_⟩
          show nums r.2 = _
          exact e2.symm.trans e.symm
      · exact .inr ⟨x, by simp [hx], e1, e2⟩
    · simp only [takesR, Bool.and_eq_true] at ht
      rcases List.mem_cons.1 hx with rfl | hx
      · obtain ⟨a, b⟩ := t3 ht.1.1
        exact ⟨a, b.trans (i2 _ (hr x (by simp)))⟩
      · exact i4 ht.2 x hx
theorem ods_ext {a b : Ods} (ha : a.length = 8) (hb : b.length = 8) (h : ∀ j : Int, 0 ≤ j → keyO a j = keyO b j) : a = b := by
  refine List.ext_getElem (by omega) fun i h1 h2 => ?_
  have := h i (by omega)
  simp only [keyO, show ¬ ((i : Int) ≥ 8) by omega, if_false, Int.toNat_natCast, List.getD_eq_getElem?_getD, List.getElem?_eq_getElem h1, List.getElem?_eq_getElem h2, Option.getD_some] at this
  exact this
/-- If each read is taken, whatever their order, the orders are the same. -/
theorem takes_perm {l l' : List Rd} {o : Ods} (h : o.length = 8) (h0 : ∀ j : Int, keyO o j = []) (hp : l.Perm l') (hr : ∀ r ∈ l, 0 ≤ r.1) (ht : (takesR o l).2 = true) (ht' : (takesR o l').2 = true) : (takesR o l).1 = (takesR o l').1 := by
  have hr' : ∀ r ∈ l', 0 ≤ r.1 := fun r hx => hr r (hp.mem_iff.2 hx)
  obtain ⟨a1, a2, a3, a4⟩ := takes_grow h hr
  obtain ⟨b1, b2, b3, b4⟩ := takes_grow h hr'
  refine ods_ext a1 b1 fun j j0 => ?_
  have p1 : keyO (takesR o l).1 j <+: keyO (takesR o l').1 j := by
    rcases a3 j j0 with e | ⟨r, hm, e1, e2⟩
    · rw [e, h0]; exact List.nil_prefix
    · rw [← e2, ← e1]; exact (b4 ht' r (hp.mem_iff.1 hm)).2
  have p2 : keyO (takesR o l').1 j <+: keyO (takesR o l).1 j := by
    rcases b3 j j0 with e | ⟨r, hm, e1, e2⟩
    · rw [e, h0]; exact List.nil_prefix
    · rw [← e2, ← e1]; exact (a4 ht r (hp.mem_iff.2 hm)).2
  exact p1.eq_of_length_le p2.length_le
/-! what ends do, transaction by transaction -/
def mapId (s : Str) (i : Int) (f : Tx → Tx) : Str := s.map fun t => if t.id = i then f t else t
theorem mapId_same {s : Str} {i : Int} {f : Tx → Tx} (h : ∀ t ∈ s, t.id = i → f t = t) : mapId s i f = s := by
  unfold mapId
  conv => rhs; rw [← List.map_id s]
  refine List.map_congr_left fun t ht => ?_
  split
  · rename_i e; exact h t ht e
  · rfl
theorem upd_mapId : ∀ {s : Str} {t x : Tx} {f : Tx → Tx}, (s.Pairwise fun a b => a.id < b.id) → t ∈ s → x.id = t.id → f t = x → upd s x = mapId s t.id f
  | [], _, _, _, _, h, _, _ => by simp at h
  | y :: s, t, x, f, hs, ht, hi, hf => by
    have hp := List.pairwise_cons.1 hs
    by_cases e : y.id = x.id
    · have hy : y = t := by
        rcases List.mem_cons.1 ht with h | h
        · exact h.symm
        · have := hp.1 t h; omega
      subst hy
      have : mapId s y.id f = s := mapId_same fun z hz e' => by have := hp.1 z hz; omega
      simp only [upd, if_pos e, mapId, List.map_cons, if_true] at this ⊢
      rw [this, hf]
    · have ht' : t ∈ s := by
        rcases List.mem_cons.1 ht with h | h
        · subst h; exact absurd hi.symm e
        · exact h
      have := upd_mapId hp.2 ht' hi hf
      have hne : ¬ y.id = t.id := by rw [← hi]; exact e
      simp only [upd, if_neg e, mapId, List.map_cons, if_neg hne] at this ⊢
      rw [this]
theorem find_mapId {s : Str} {i j : Int} {f : Tx → Tx} (hf : ∀ t, (f t).id = t.id) : find (mapId s i f) j = (find s j).map fun t => if t.id = i then f t else t := by
  induction s with
  | nil => rfl
  | cons t s ih =>
    have hi : (if t.id = i then f t else t).id = t.id := by split <;> simp [hf]
    simp only [find, mapId, List.map_cons, List.find?_cons, hi] at ih ⊢
    by_cases e : t.id = j
    · simp [e]
    · simp only [decide_eq_false e]; exact ih
def endT (st : Int) (t : Tx) : Tx := if t.st = 0 then { t with st := st } else t
def comT (ls : List (Option (List Int))) (t : Tx) : Tx := if t.st = 0 ∧ okC ls = true ∧ reads t.ms = ls.length then { t with st := 1, ls := ls } else t
theorem endT_id (st : Int) (t : Tx) : (endT st t).id = t.id := by unfold endT; split <;> rfl
theorem comT_id (ls : List (Option (List Int))) (t : Tx) : (comT ls t).id = t.id := by unfold comT; split <;> rfl
theorem find_in {s : Str} {i : Int} {t : Tx} (h : find s i = some t) : t ∈ s ∧ t.id = i := by
  have h1 := List.mem_of_find?_eq_some h
  have h2 := List.find?_some h
  exact ⟨h1, by simpa using h2⟩
theorem find_uniq {s : Str} (hs : s.Pairwise fun a b => a.id < b.id) {i : Int} {x : Tx} (hx : x ∈ s) (hi : x.id = i) : find s i = some x := by
  rw [← hi]; exact find_self hs hx
theorem endR_map {s : Str} (hs : s.Pairwise fun a b => a.id < b.id) (i st : Int) : (endR s i st).1 = mapId s i (endT st) := by
  unfold endR
  cases hf : find s i with
  | none =>
    refine (mapId_same fun t ht e => ?_).symm
    rw [find_uniq hs ht e] at hf; cases hf
  | some t =>
    obtain ⟨h1, h2⟩ := find_in hf
    by_cases h0 : t.st = 0
    · simp only [if_pos h0]
      rw [← h2]
      exact upd_mapId (x := { t with st := st }) hs h1 rfl (by simp [endT, h0])
    · simp only [if_neg h0]
      refine (mapId_same fun x hx e => ?_).symm
      rw [find_uniq hs hx e] at hf; cases hf
      simp [endT, h0]
theorem commitR_map {s : Str} (hs : s.Pairwise fun a b => a.id < b.id) (i : Int) (ls : List (Option (List Int))) : (commitR s i ls).1 = mapId s i (comT ls) := by
  unfold commitR
  cases hf : find s i with
  | none =>
    refine (mapId_same fun t ht e => ?_).symm
    rw [find_uniq hs ht e] at hf; cases hf
  | some t =>
    obtain ⟨h1, h2⟩ := find_in hf
    by_cases hc : t.st = 0 ∧ okC ls = true ∧ reads t.ms = ls.length
    · obtain ⟨c1, c2, c3⟩ := hc
      simp only [if_pos c1, if_pos c2, if_pos c3]
      rw [← h2]
      exact upd_mapId (x := { t with st := 1, ls := ls }) hs h1 rfl (by simp only [comT, if_pos (And.intro c1 (And.intro c2 c3))])
    · have : (if t.st = 0 then (if okC ls = true then (if reads t.ms = ls.length then (upd s { t with st := 1, ls := ls }, (0 : Int)) else (s, 10)) else (s, 4)) else (s, 7)).1 = s := by
        by_cases c1 : t.st = 0
        · by_cases c2 : okC ls = true
          · by_cases c3 : reads t.ms = ls.length
            · exact absurd ⟨c1, c2, c3⟩ hc
            · simp only [if_pos c1, if_pos c2, if_neg c3]
          · simp only [if_pos c1, if_neg c2]
        · simp only [if_neg c1]
      simp only [this]
      refine (mapId_same fun x hx e => ?_).symm
      rw [find_uniq hs hx e] at hf; cases hf
      simp only [comT, if_neg hc]
theorem commitR_ok {s : Str} {i : Int} {ls : List (Option (List Int))} : (commitR s i ls).2 = 0 ↔ ∃ t, find s i = some t ∧ t.st = 0 ∧ okC ls = true ∧ reads t.ms = ls.length := by
  unfold commitR
  cases hf : find s i with
  | none => simp
  | some t =>
    by_cases c1 : t.st = 0
    · by_cases c2 : okC ls = true
      · by_cases c3 : reads t.ms = ls.length
        · simp [c1, c2, c3]
        · simp [c1, c2, c3]
      · simp [c1, c2]
    · simp [c1]
end Go.AL.S
set_option maxRecDepth 100000
namespace Go.AL.S
open Go Go.AL Go.Proofs
/-! GraphTold: ends in two orders -/
def isEnd (a : Ac) : Prop := w6 a = 2 ∨ w6 a = 3 ∨ w6 a = 4 ∨ w6 a = 5
def gT (a : Ac) (t : Tx) : Tx := if w6 a = 2 ∨ w6 a = 3 then comT a.rdl t else if w6 a = 4 then endT 2 t else endT 3 t
theorem gT_id (a : Ac) (t : Tx) : (gT a t).id = t.id := by
  unfold gT
  split
  · exact comT_id _ _
  · split <;> exact endT_id _ _
def rdF (a : Ac) (x : Option Tx) : List Rd := match x with
  | some t => if (w6 a = 2 ∨ w6 a = 3) ∧ t.st = 0 ∧ okC a.rdl = true ∧ reads t.ms = a.rdl.length then readsR (comT a.rdl t) else []
  | none => []
theorem takesR_nil (o : Ods) : takesR o [] = (o, true) := rfl
theorem actG_end {s : Str} (hs : s.Pairwise fun a b => a.id < b.id) (o : Ods) {a : Ac} (ha : isEnd a) : (actG s o a).1 = mapId s a.id (gT a) ∧ (actG s o a).2.1 = (takesR o (rdF a (find s a.id))).1 ∧ (actG s o a).2.2.2 = (takesR o (rdF a (find s a.id))).2 := by
  unfold actG
  by_cases h1 : w6 a = 2 ∨ w6 a = 3
  · have hg : gT a = comT a.rdl := by funext t; simp only [gT, if_pos h1]
    simp only [if_pos h1, hg]
    by_cases hc : (commitR s a.id a.rdl).2 = 0
    · simp only [if_pos hc]
      obtain ⟨t, c1, c2, c3, c4⟩ := commitR_ok.1 hc
      have hti := (find_in c1).2
      have : find (commitR s a.id a.rdl).1 a.id = some (comT a.rdl t) := by
        rw [commitR_map hs, find_mapId (comT_id _), c1]
        simp [hti]
      rw [this, commitR_map hs, c1]
      simp only [Option.getD_some, rdF, if_pos (And.intro h1 (And.intro c2 (And.intro c3 c4)))]
      exact ⟨trivial, trivial, trivial⟩
    · simp only [if_neg hc]
      have : rdF a (find s a.id) = [] := by
        unfold rdF
        cases hf : find s a.id with
        | none => rfl
        | some t =>
          simp only
          rw [if_neg]
          rintro ⟨_, c⟩
          exact hc (commitR_ok.2 ⟨t, hf, c⟩)
      rw [this, commitR_map hs]
      exact ⟨rfl, rfl, rfl⟩
  · have hn : rdF a (find s a.id) = [] := by
      unfold rdF
      split
      · rw [if_neg (fun c => h1 c.1)]
      · rfl
    rw [hn]
    simp only [if_neg h1]
    by_cases h4 : w6 a = 4
    · have hg : gT a = endT 2 := by funext t; simp only [gT, if_neg h1, if_pos h4]
      simp only [if_pos h4, endR_map hs, hg]
      exact ⟨trivial, rfl, rfl⟩
    · have h5 : w6 a = 5 := by unfold isEnd at ha; omega
      have hg : gT a = endT 3 := by funext t; simp only [gT, if_neg h1, if_neg h4]
      simp only [if_neg h4, if_pos h5, endR_map hs, hg]
      exact ⟨trivial, rfl, rfl⟩
/-- Acts one behind the other, and whether all was taken. -/
def actsG (s : Str) (o : Ods) : List Ac → Str × Ods × Bool
  | [] => (s, o, true)
  | a :: l => ((actsG (actG s o a).1 (actG s o a).2.1 l).1, (actsG (actG s o a).1 (actG s o a).2.1 l).2.1, (actG s o a).2.2.2 && (actsG (actG s o a).1 (actG s o a).2.1 l).2.2)
def mapAll (s : Str) (l : List Ac) : Str := l.foldl (fun s a => mapId s a.id (gT a)) s
theorem mapId_lt {s : Str} (hs : s.Pairwise fun a b => a.id < b.id) (i : Int) {f : Tx → Tx} (hf : ∀ t, (f t).id = t.id) : (mapId s i f).Pairwise fun a b => a.id < b.id := by
  unfold mapId
  rw [List.pairwise_map]
  refine hs.imp fun {x y} h => ?_
  have e : ∀ t : Tx, (if t.id = i then f t else t).id = t.id := fun t => by split <;> simp [hf]
  rw [e, e]; exact h
theorem takesR_app (o : Ods) (l m : List Rd) : takesR o (l ++ m) = ((takesR (takesR o l).1 m).1, (takesR o l).2 && (takesR (takesR o l).1 m).2) := by
  induction l generalizing o with
  | nil => simp [takesR]
  | cons r l ih => simp only [List.cons_append, takesR, ih, Bool.and_assoc]
theorem acts_ends : ∀ {l : List Ac} {s : Str} {o : Ods}, (s.Pairwise fun a b => a.id < b.id) → (∀ a ∈ l, isEnd a) → (l.map Ac.id).Nodup →
    (actsG s o l).1 = mapAll s l ∧ (actsG s o l).2.1 = (takesR o (l.flatMap fun a => rdF a (find s a.id))).1 ∧ (actsG s o l).2.2 = (takesR o (l.flatMap fun a => rdF a (find s a.id))).2
  | [], s, o, _, _, _ => ⟨rfl, rfl, rfl⟩
  | a :: l, s, o, hs, he, hn => by
    obtain ⟨h1, h2, h3⟩ := actG_end hs o (he a (by simp))
    have hn' := List.nodup_cons.1 hn
    have hs' : (actG s o a).1.Pairwise fun a b => a.id < b.id := by rw [h1]; exact mapId_lt hs _ (gT_id a)
    obtain ⟨i1, i2, i3⟩ := acts_ends (l := l) (o := (actG s o a).2.1) hs' (fun x hx => he x (by simp [hx])) hn'.2
    have hfl : (l.flatMap fun x => rdF x (find (actG s o a).1 x.id)) = l.flatMap fun x => rdF x (find s x.id) := by
      have : ∀ x ∈ l, rdF x (find (actG s o a).1 x.id) = rdF x (find s x.id) := by
        intro x hx
        have hne : ¬ x.id = a.id := fun e => hn'.1 (List.mem_map.2 ⟨x, hx, e⟩)
        rw [h1, find_mapId (gT_id a)]
        cases hf : find s x.id with
        | none => rfl
        | some t =>
          have := (find_in hf).2
          rw [Option.map_some, if_neg (by rw [this]; exact hne)]
      simp only [List.flatMap, List.map_congr_left this]
    rw [hfl] at i2 i3
    refine ⟨?_, ?_, ?_⟩
    · show (actsG (actG s o a).1 (actG s o a).2.1 l).1 = _
      rw [i1, h1]; rfl
    · show (actsG (actG s o a).1 (actG s o a).2.1 l).2.1 = _
      rw [i2, h2, List.flatMap_cons, takesR_app]
    · show ((actG s o a).2.2.2 && (actsG (actG s o a).1 (actG s o a).2.1 l).2.2) = _
      rw [i3, h2, h3, List.flatMap_cons, takesR_app]
theorem mapId_comm {s : Str} {i j : Int} {f g : Tx → Tx} (hf : ∀ t, (f t).id = t.id) (hg : ∀ t, (g t).id = t.id) (h : i ≠ j) : mapId (mapId s i f) j g = mapId (mapId s j g) i f := by
  unfold mapId
  rw [List.map_map, List.map_map]
  refine List.map_congr_left fun t _ => ?_
  simp only [Function.comp_apply]
  by_cases e1 : t.id = i
  · have e2 : ¬ t.id = j := fun e => h (e1.symm.trans e)
    rw [if_pos e1, if_neg e2, hf, if_neg e2, if_pos e1]
  · by_cases e2 : t.id = j
    · rw [if_neg e1, if_pos e2, hg, if_neg e1]
    · rw [if_neg e1, if_neg e2, if_neg e1]
theorem nodup_inj {α β : Type} {f : α → β} : ∀ {l : List α}, (l.map f).Nodup → ∀ {x y : α}, x ∈ l → y ∈ l → f x = f y → x = y
  | [], _, _, _, h, _, _ => by simp at h
  | a :: l, hn, x, y, hx, hy, e => by
    have hn' := List.nodup_cons.1 hn
    rcases List.mem_cons.1 hx with h1 | h1 <;> rcases List.mem_cons.1 hy with h2 | h2
    · rw [h1, h2]
    · subst h1; exact absurd (List.mem_map.2 ⟨y, h2, e.symm⟩) hn'.1
    · subst h2; exact absurd (List.mem_map.2 ⟨x, h1, e⟩) hn'.1
    · exact nodup_inj hn'.2 h1 h2 e
theorem mapAll_perm {s : Str} {l l' : List Ac} (hp : l.Perm l') (hn : (l.map Ac.id).Nodup) : mapAll s l = mapAll s l' := by
  unfold mapAll
  refine hp.foldl_eq' (fun x hx y hy z => ?_) s
  by_cases e : x.id = y.id
  · have : x = y := nodup_inj hn hx hy e
    subst this; rfl
  · exact mapId_comm (gT_id _) (gT_id _) e
theorem rk_mem {l : List Mi} {k : Int} (h : k ∈ rkeys l) : ∃ m ∈ l, m.key = k := by
  simp only [rkeys, List.mem_map, List.mem_filter] at h
  obtain ⟨m, ⟨h1, _⟩, h2⟩ := h
  exact ⟨m, h1, h2⟩
theorem readsR_key {t : Tx} (h : ∀ m ∈ t.ms, m.ok) : ∀ r ∈ readsR t, 0 ≤ r.1 ∧ r.1 < 256 := by
  intro r hr
  unfold readsR at hr
  split at hr
  · simp at hr
  · obtain ⟨m, h1, h2⟩ := rk_mem (List.of_mem_zip (a := r.1) (b := r.2) hr).1
    rw [← h2]; exact ⟨(h m h1).1, (h m h1).2.1⟩
theorem comT_ms (ls : List (Option (List Int))) (t : Tx) : (comT ls t).ms = t.ms := by unfold comT; split <;> rfl
theorem rdF_key {s : Str} (hs : SOk s) (a : Ac) : ∀ r ∈ rdF a (find s a.id), 0 ≤ r.1 := by
  intro r hr
  unfold rdF at hr
  split at hr
  · rename_i t hf
    split at hr
    · refine (readsR_key ?_ r hr).1
      rw [comT_ms]; exact (find_ok hs hf).2.2.ms
    · simp at hr
  · simp at hr
/-- Ends of unlike transactions, one way or another: if each read is taken, the store and the orders are the same. -/
theorem told {s : Str} (hs : SOk s) {o : Ods} (ho : o.length = 8) (h0 : ∀ j : Int, keyO o j = []) {l l' : List Ac} (hp : l.Perm l') (he : ∀ a ∈ l, isEnd a) (hn : (l.map Ac.id).Nodup) (ht : (actsG s o l).2.2 = true) (ht' : (actsG s o l').2.2 = true) :
    (actsG s o l).1 = (actsG s o l').1 ∧ (actsG s o l).2.1 = (actsG s o l').2.1 := by
  obtain ⟨a1, a2, a3⟩ := acts_ends (o := o) hs.lt he hn
  obtain ⟨b1, b2, b3⟩ := acts_ends (o := o) hs.lt (fun a ha => he a (hp.mem_iff.2 ha)) ((hp.map Ac.id).nodup_iff.1 hn)
  rw [a3] at ht
  rw [b3] at ht'
  refine ⟨by rw [a1, b1]; exact mapAll_perm hp hn, ?_⟩
  rw [a2, b2]
  refine takes_perm ho h0 (List.Perm.flatMap_right _ hp) ?_ ht ht'
  intro r hr
  obtain ⟨a, _, h2⟩ := List.mem_flatMap.1 hr
  exact rdF_key hs a r h2
end Go.AL.S
