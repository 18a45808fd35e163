/- The abstract logic, part 4: closed runs that are computed, and what they show. Conditions: none. -/
import Derived.Test.YtchoohbdpkolgaaGreatDoorAc
namespace Go.AL

/-! tables -/
inductive Tr (α : Type) where
  | nil
  | node (v : Option α) (l r : Tr α)
def Tr.get {α : Type} : Tr α → Nat → Option α
  | .nil, _ => none
  | .node v l r, i => cond (Nat.beq i 0) v (cond (Nat.beq (i % 2) 1) (l.get (i / 2)) (r.get (i / 2 - 1)))
def Tr.put {α : Type} : Nat → Tr α → Nat → Option α → Option (Tr α)
  | 0, _, _, _ => none
  | f + 1, .nil, i, v => cond (Nat.beq i 0) (some (.node v .nil .nil)) (cond (Nat.beq (i % 2) 1) ((Tr.put f .nil (i / 2) v).map fun l => .node none l .nil) ((Tr.put f .nil (i / 2 - 1) v).map fun r => .node none .nil r))
  | f + 1, .node x l r, i, v => cond (Nat.beq i 0) (some (.node v l r)) (cond (Nat.beq (i % 2) 1) ((Tr.put f l (i / 2) v).map fun l => .node x l r) ((Tr.put f r (i / 2 - 1) v).map fun r => .node x l r))

theorem Tr.get_put {α : Type} : ∀ (f : Nat) (t : Tr α) (i : Nat) (v : Option α) (t' : Tr α), Tr.put f t i v = some t' → ∀ j, t'.get j = if j = i then v else t.get j
  | 0, _, _, _, _, h, _ => by simp [Tr.put] at h
  | f + 1, .nil, i, v, t', h, j => by
    simp only [Tr.put] at h
    cases hi : Nat.beq i 0
    · simp only [hi, cond_false] at h
      have hi0 : i ≠ 0 := fun e => by rw [e] at hi; cases hi
      cases ho : Nat.beq (i % 2) 1
      · simp only [ho, cond_false, Option.map_eq_some_iff] at h
        obtain ⟨r, hr, rfl⟩ := h
        have ih := Tr.get_put f .nil _ v r hr
        have ho' : i % 2 ≠ 1 := fun e => by rw [e] at ho; cases ho
        simp only [Tr.get]
        cases hj : Nat.beq j 0
        · have hj0 : j ≠ 0 := fun e => by rw [e] at hj; cases hj
          cases hq : Nat.beq (j % 2) 1
          · have hq' : j % 2 ≠ 1 := fun e => by rw [e] at hq; cases hq
            simp only [cond_false, ih, Tr.get]
            by_cases e : j = i
            · subst e; simp
            · rw [if_neg e, if_neg (by omega)]
          · have hq' : j % 2 = 1 := Nat.eq_of_beq_eq_true hq
            simp only [cond_false, cond_true, Tr.get]
            rw [if_neg (by omega)]
        · have hj0 : j = 0 := Nat.eq_of_beq_eq_true hj
          simp only [cond_true]
          rw [if_neg (by omega)]
      · simp only [ho, cond_true, Option.map_eq_some_iff] at h
        obtain ⟨l, hl, rfl⟩ := h
        have ih := Tr.get_put f .nil _ v l hl
        have ho' : i % 2 = 1 := Nat.eq_of_beq_eq_true ho
        simp only [Tr.get]
        cases hj : Nat.beq j 0
        · have hj0 : j ≠ 0 := fun e => by rw [e] at hj; cases hj
          cases hq : Nat.beq (j % 2) 1
          · have hq' : j % 2 ≠ 1 := fun e => by rw [e] at hq; cases hq
            simp only [cond_false, Tr.get]
            rw [if_neg (by omega)]
          · have hq' : j % 2 = 1 := Nat.eq_of_beq_eq_true hq
            simp only [cond_false, cond_true, ih, Tr.get]
            by_cases e : j = i
            · subst e; simp
            · rw [if_neg e, if_neg (by omega)]
        · have hj0 : j = 0 := Nat.eq_of_beq_eq_true hj
          simp only [cond_true]
          rw [if_neg (by omega)]
    · simp only [hi, cond_true, Option.some.injEq] at h
      subst h
      have hi0 : i = 0 := Nat.eq_of_beq_eq_true hi
      subst hi0
      simp only [Tr.get]
      cases hj : Nat.beq j 0
      · have hj0 : j ≠ 0 := fun e => by rw [e] at hj; cases hj
        rw [if_neg hj0]
        cases Nat.beq (j % 2) 1 <;> rfl
      · have hj0 : j = 0 := Nat.eq_of_beq_eq_true hj
        simp [hj0]
  | f + 1, .node x l r, i, v, t', h, j => by
    simp only [Tr.put] at h
    cases hi : Nat.beq i 0
    · simp only [hi, cond_false] at h
      have hi0 : i ≠ 0 := fun e => by rw [e] at hi; cases hi
      cases ho : Nat.beq (i % 2) 1
      · simp only [ho, cond_false, Option.map_eq_some_iff] at h
        obtain ⟨r', hr, rfl⟩ := h
        have ih := Tr.get_put f r _ v r' hr
        have ho' : i % 2 ≠ 1 := fun e => by rw [e] at ho; cases ho
        simp only [Tr.get]
        cases hj : Nat.beq j 0
        · have hj0 : j ≠ 0 := fun e => by rw [e] at hj; cases hj
          cases hq : Nat.beq (j % 2) 1
          · have hq' : j % 2 ≠ 1 := fun e => by rw [e] at hq; cases hq
            simp only [cond_false, ih]
            by_cases e : j = i
            · subst e; simp
            · rw [if_neg e, if_neg (by omega)]
          · have hq' : j % 2 = 1 := Nat.eq_of_beq_eq_true hq
            simp only [cond_false, cond_true]
            rw [if_neg (by omega)]
        · have hj0 : j = 0 := Nat.eq_of_beq_eq_true hj
          simp only [cond_true]
          rw [if_neg (by omega)]
      · simp only [ho, cond_true, Option.map_eq_some_iff] at h
        obtain ⟨l', hl, rfl⟩ := h
        have ih := Tr.get_put f l _ v l' hl
        have ho' : i % 2 = 1 := Nat.eq_of_beq_eq_true ho
        simp only [Tr.get]
        cases hj : Nat.beq j 0
        · have hj0 : j ≠ 0 := fun e => by rw [e] at hj; cases hj
          cases hq : Nat.beq (j % 2) 1
          · have hq' : j % 2 ≠ 1 := fun e => by rw [e] at hq; cases hq
            simp only [cond_false]
            rw [if_neg (by omega)]
          · have hq' : j % 2 = 1 := Nat.eq_of_beq_eq_true hq
            simp only [cond_false, cond_true, ih]
            by_cases e : j = i
            · subst e; simp
            · rw [if_neg e, if_neg (by omega)]
        · have hj0 : j = 0 := Nat.eq_of_beq_eq_true hj
          simp only [cond_true]
          rw [if_neg (by omega)]
    · simp only [hi, cond_true, Option.some.injEq] at h
      subst h
      have hi0 : i = 0 := Nat.eq_of_beq_eq_true hi
      subst hi0
      simp only [Tr.get]
      cases hj : Nat.beq j 0
      · have hj0 : j ≠ 0 := fun e => by rw [e] at hj; cases hj
        rw [if_neg hj0]
        rfl
      · have hj0 : j = 0 := Nat.eq_of_beq_eq_true hj
        simp [hj0]

/-- What holds of all that a table holds. -/
def Tr.allP {α : Type} (Q : Nat → α → Prop) : Tr α → (Nat → Nat) → Prop
  | .nil, _ => True
  | .node v l r, g => (∀ x, v = some x → Q (g 0) x) ∧ l.allP Q (fun i => g (2 * i + 1)) ∧ r.allP Q (fun i => g (2 * i + 2))
theorem Tr.allP_at {α : Type} {Q : Nat → α → Prop} : ∀ {t : Tr α} {g : Nat → Nat}, t.allP Q g → ∀ i x, t.get i = some x → Q (g i) x
  | .nil, _, _, _, _, h => by simp [Tr.get] at h
  | .node v l r, g, ⟨h1, h2, h3⟩, i, x, h => by
    simp only [Tr.get] at h
    cases hi : Nat.beq i 0
    · have hi0 : i ≠ 0 := fun e => by rw [e] at hi; cases hi
      cases ho : Nat.beq (i % 2) 1
      · have ho' : i % 2 ≠ 1 := fun e => by rw [e] at ho; cases ho
        rw [hi, ho] at h
        have := Tr.allP_at h3 (i / 2 - 1) x h
        rw [show 2 * (i / 2 - 1) + 2 = i by omega] at this
        exact this
      · have ho' : i % 2 = 1 := Nat.eq_of_beq_eq_true ho
        rw [hi, ho] at h
        have := Tr.allP_at h2 (i / 2) x h
        rw [show 2 * (i / 2) + 1 = i by omega] at this
        exact this
    · rw [hi] at h
      have hi0 : i = 0 := Nat.eq_of_beq_eq_true hi
      subst hi0
      exact h1 x h
theorem Tr.allP_get {α : Type} {Q : Nat → α → Prop} {t : Tr α} (h : t.allP Q id) : ∀ i x, t.get i = some x → Q i x := Tr.allP_at h

/-! concrete worlds -/
structure CW where
  t : Tr AObj
  nx : Nat
  log : List Nat
def CW.w (W : CW) : AW := ⟨fun r => cond (Nat.blt r W.nx) (W.t.get r) none, W.nx⟩
def deep : Nat := 64
def CW.alloc (W : CW) (o : AObj) : Option CW := (Tr.put deep W.t W.nx (some o)).map fun t => ⟨t, W.nx + 1, W.log⟩
def CW.put (W : CW) (r : Nat) (o : AObj) : Option CW := cond (Nat.blt r W.nx) ((Tr.put deep W.t r (some o)).map fun t => ⟨t, W.nx, r :: W.log⟩) none
def CW.move (W : CW) (r : Nat) (o : AObj) : Option CW := cond (Nat.blt r W.nx) (match Tr.put deep W.t r none with
  | some t => (Tr.put deep t W.nx (some o)).map fun t => ⟨t, W.nx + 1, r :: W.log⟩
  | none => none) none

theorem blt_iff {a b : Nat} : Nat.blt a b = true ↔ a < b := by simp only [Nat.blt, Nat.ble_eq]; exact Iff.rfl
theorem blt_false {a b : Nat} (h : ¬ a < b) : Nat.blt a b = false := by
  cases hb : Nat.blt a b
  · rfl
  · exact absurd (blt_iff.1 hb) h

theorem CW.get_lt {W : CW} {r : Nat} {o : AObj} (h : W.w.get r = some o) : r < W.nx := by
  simp only [CW.w] at h
  cases hb : Nat.blt r W.nx
  · simp [hb] at h
  · exact blt_iff.1 hb

/-- What a step may have turned is in the log. -/
structure CW.Fr (W W' : CW) : Prop where
  nx : W.nx ≤ W'.nx
  log : ∀ x ∈ W.log, x ∈ W'.log
  same : ∀ r, r < W.nx → r ∉ W'.log → W'.w.get r = W.w.get r
theorem CW.Fr.refl (W : CW) : W.Fr W := ⟨Nat.le_refl _, fun _ h => h, fun _ _ _ => rfl⟩
theorem CW.Fr.trans {W W1 W2 : CW} (h : W.Fr W1) (h' : W1.Fr W2) : W.Fr W2 :=
  ⟨Nat.le_trans h.nx h'.nx, fun x hx => h'.log x (h.log x hx), fun r hr hl => (h'.same r (Nat.lt_of_lt_of_le hr h.nx) hl).trans (h.same r hr (fun hm => hl (h'.log r hm)))⟩

theorem CW.alloc_w {W W' : CW} {o : AObj} (h : W.alloc o = some W') : W'.w = W.w.alloc o ∧ W.Fr W' := by
  simp only [CW.alloc, Option.map_eq_some_iff] at h
  obtain ⟨t, ht, rfl⟩ := h
  have g := Tr.get_put _ _ _ _ _ ht
  constructor
  · simp only [CW.w, AW.alloc, AW.mk.injEq, and_true]
    funext r
    rw [g r]
    by_cases h1 : r = W.nx
    · subst h1; simp [blt_iff.2 (Nat.lt_succ_self W.nx)]
    · simp only [h1, if_false]
      by_cases h2 : r < W.nx
      · rw [blt_iff.2 h2, blt_iff.2 (by omega)]
      · rw [blt_false h2, blt_false (by omega)]
  · refine ⟨Nat.le_succ _, fun _ h => h, fun r hr _ => ?_⟩
    simp only [CW.w]
    rw [blt_iff.2 hr, blt_iff.2 (by omega), g r, if_neg (by omega)]
theorem CW.put_w {W W' : CW} {r : Nat} {o : AObj} (h : W.put r o = some W') : W'.w = W.w.put r o ∧ W.Fr W' := by
  simp only [CW.put] at h
  cases hb : Nat.blt r W.nx
  · simp [hb] at h
  · simp only [hb, cond_true, Option.map_eq_some_iff] at h
    obtain ⟨t, ht, rfl⟩ := h
    have g := Tr.get_put _ _ _ _ _ ht
    constructor
    · simp only [CW.w, AW.put, AW.mk.injEq, and_true]
      funext x
      rw [g x]
      by_cases h1 : x = r
      · subst h1; simp [hb]
      · rw [if_neg h1, if_neg h1]
    · refine ⟨Nat.le_refl _, fun _ h => List.mem_cons_of_mem _ h, fun x hx hn => ?_⟩
      simp only [CW.w]
      rw [g x, if_neg (fun e => hn (by simp [e]))]
theorem CW.move_w {W W' : CW} {r : Nat} {o : AObj} (h : W.move r o = some W') : W'.w = W.w.move r o ∧ W.Fr W' := by
  simp only [CW.move] at h
  cases hb : Nat.blt r W.nx
  · simp [hb] at h
  · simp only [hb, cond_true] at h
    split at h
    · rename_i t1 ht1
      simp only [Option.map_eq_some_iff] at h
      obtain ⟨t, ht, rfl⟩ := h
      have g1 := Tr.get_put _ _ _ _ _ ht1
      have g := Tr.get_put _ _ _ _ _ ht
      have hr : r < W.nx := blt_iff.1 hb
      constructor
      · simp only [CW.w, AW.move, AW.mk.injEq, and_true]
        funext x
        rw [g x, g1 x]
        by_cases h1 : x = W.nx
        · subst h1; simp [blt_iff.2 (Nat.lt_succ_self W.nx)]
        · simp only [h1, if_false]
          by_cases h3 : x = r
          · simp only [h3, if_true]; cases Nat.blt r (W.nx + 1) <;> rfl
          · simp only [h3, if_false]
            by_cases h2 : x < W.nx
            · rw [blt_iff.2 h2, blt_iff.2 (by omega)]
            · rw [blt_false h2, blt_false (by omega)]
      · refine ⟨Nat.le_succ _, fun _ h => List.mem_cons_of_mem _ h, fun x hx hn => ?_⟩
        simp only [CW.w]
        rw [blt_iff.2 hx, blt_iff.2 (by omega), g x, if_neg (by omega), g1 x, if_neg (fun e => hn (by simp [e]))]
    · cases h
end Go.AL
namespace Go.AL

def plainK : AK → Bool
  | .load .. | .idxp _ => true
  | k => isT k
theorem sem_plain {E : Env} {k : AK} {vs : List V} {W : AW} {K : V → AW → Prop} (hk : plainK k = true) : sem E k vs W K = (match rsem k vs W with
    | some v => K v W
    | none => False) := by
  cases k <;> first | (simp [plainK, isT] at hk; done) | (simp only [sem]; rfl)

abbrev Outs := Option (List (V × CW))
def outs1 (v : V) (x : Option CW) : Outs := match x with
  | some W' => some [(v, W')]
  | none => none

def stepMap (sh : Bool × List SK) (key : V) (es : List (V × V × Nat)) : Bool := key.has sh && es.all fun e => e.1.has sh

/-- One operation that is no call. -/
def stepK (k : AK) (vs : List V) (W : CW) : Outs :=
  match k with
  | .alloc zero => match vs with
    | [] => outs1 (.ptr W.nx 0) (W.alloc (.row zero))
    | _ => none
  | .box => match vs with
    | [x] => outs1 (.ptr W.nx 0) (W.alloc (.row x.cells))
    | _ => none
  | .mkmap => match vs with
    | [] => outs1 (.map W.nx) (W.alloc (.map [] 0))
    | _ => none
  | .store s => match vs with
    | [.ptr r off, x] => match W.w.get r with
      | some (.row cells) => cond (Nat.beq x.cells.length s && x.cells.all V.one && Nat.ble (off + s) cells.length) (outs1 .undef (W.put r (.row (cells.take off ++ x.cells ++ cells.drop (off + s))))) none
      | _ => none
    | [.vptr r off, x] => match W.w.get r with
      | some (.vec s' cells) => cond (Nat.beq x.cells.length s && x.cells.all V.one && Nat.ble (off + s) cells.length) (outs1 .undef (W.put r (.vec s' (cells.take off ++ x.cells ++ cells.drop (off + s))))) none
      | _ => none
    | _ => none
  | .makesl s bytes z => match vs with
    | [.int _ n, .int _ c] => if 0 < s ∧ n = c ∧ 0 ≤ n ∧ n.toNat * bytes ≤ 2 ^ 46 then outs1 (.slr W.nx 0 n.toNat s) (W.alloc (.vec s (zerosV z n.toNat))) else none
    | _ => none
  | .ment sh zero => match vs with
    | [.map r, key] => match W.w.get r with
      | some (.map es clock) => cond (stepMap sh key es) (match findK key es with
        | some e => some [(.tuple [e.2.1, .int .i64 e.2.2], W)]
        | none => outs1 (.tuple [zero, .int .i64 clock]) (W.put r (.map (es ++ [(key, zero, clock)]) (clock + 1)))) none
      | _ => none
    | _ => none
  | .mest => match vs with
    | [.map r, .int _ n, x] => match W.w.get r with
      | some (.map es clock) => if 0 ≤ n then (match setS n.toNat x es with
        | some es' => outs1 .undef (W.put r (.map es' clock))
        | none => none) else none
      | _ => none
    | _ => none
  | .lookup sh zero ok => match vs with
    | [.nilmap, key] => cond (key.has sh) (some [(if ok then .tuple [zero, .bool false] else zero, W)]) none
    | [.map r, key] => match W.w.get r with
      | some (.map es _) => cond (stepMap sh key es) (match findK key es with
        | some e => some [(if ok then .tuple [e.2.1, .bool true] else e.2.1, W)]
        | none => some [(if ok then .tuple [zero, .bool false] else zero, W)]) none
      | _ => none
    | _ => none
  | .mupd sh => match vs with
    | [.map r, key, x] => match W.w.get r with
      | some (.map es clock) => cond (stepMap sh key es) (match findK key es with
        | some _ => outs1 .undef (W.put r (.map (updK key x es) clock))
        | none => outs1 .undef (W.put r (.map (es ++ [(key, x, clock)]) (clock + 1)))) none
      | _ => none
    | _ => none
  | .rangem => match vs with
    | [.nilmap] => outs1 (.ptr W.nx 0) (W.alloc (.iter none 0 [] 0))
    | [.map r] => match W.w.get r with
      | some (.map _ clock) => outs1 (.ptr W.nx 0) (W.alloc (.iter (some r) clock [] clock))
      | _ => none
    | _ => none
  | .nextm => match vs with
    | [.ptr i 0] => match W.w.get i with
      | some (.iter none _ _ _) => some [(.tuple [.bool false], W)]
      | some (.iter (some m) since seen last) => (match W.w.get m with
        | some (.map es clock) => cond (seen.isEmpty || es.isEmpty || es.any fun e => Nat.blt e.2.2 last)
            (match (es.filter fun e => !seen.contains e.2.2).mapM (fun e => (W.put i (.iter (some m) since (seen ++ [e.2.2]) clock)).map fun W' => ((.tuple [.bool true, e.1, e.2.1], W') : V × CW)) with
            | some os => some (cond (es.all fun e => seen.contains e.2.2 || Nat.ble since e.2.2) ((.tuple [.bool false], W) :: os) os)
            | none => none) none
        | _ => none)
      | _ => none
    | _ => none
  | .entry => match vs with
    | [.ptr i 0] => match W.w.get i with
      | some (.iter (some m) _ seen last) => (match W.w.get m, seen.getLast? with
        | some (.map es clock), some stamp => cond (Nat.beq clock last) (match es.find? fun e => e.2.2 == stamp with
          | some e => some [(.tuple [e.1, e.2.1], W)]
          | none => none) none
        | _, _ => none)
      | _ => none
    | _ => none
  | .len cat n => match cat, vs with
    | 1, [.nilsl] => some [(.int .i64 0, W)]
    | 1, [.sl _ _ xs] => some [(.int .i64 xs.length, W)]
    | 1, [.slr _ _ n _] => some [(.int .i64 n, W)]
    | 1, [.slz] => some [(.int .i64 0, W)]
    | 1, [.buf _ _ _ m] => some [(.int .i64 m, W)]
    | 0, [.str s] => some [(.int .i64 s.size, W)]
    | 2, [.nilmap] => some [(.int .i64 0, W)]
    | 2, [.map r] => match W.w.get r with
      | some (.map es _) => some [(.int .i64 es.length, W)]
      | _ => none
    | 3, [_] => some [(.int .i64 n, W)]
    | _, _ => none
  | .appendx s bytes _ => match vs with
    | [x, y] => match elemsV s W.w y with
      | none => none
      | some ys => cond (Nat.blt 0 s) (match x with
        | .nilsl => cond (Nat.ble (ys.length * bytes) (2 ^ 46)) (cond ys.isEmpty (some [(.nilsl, W)]) (outs1 (.slr W.nx 0 ys.length s) (W.alloc (.vec s (ys.flatMap V.cells))))) none
        | .slz => cond (Nat.ble (ys.length * bytes) (2 ^ 46)) (cond ys.isEmpty (some [(.slz, W)]) (outs1 (.slr W.nx 0 ys.length s) (W.alloc (.vec s (ys.flatMap V.cells))))) none
        | .sl s' true xs => cond (Nat.beq s' s && Nat.ble ((xs.length + ys.length) * bytes) (2 ^ 46)) (cond ys.isEmpty (some [(.sl s' true xs, W)]) (outs1 (.slr W.nx 0 (xs.length + ys.length) s) (W.alloc (.vec s ((xs ++ ys).flatMap V.cells))))) none
        | .slr r k len s' => (match W.w.get r with
          | some (.vec s'' cells) => cond (Nat.beq s' s && Nat.beq s'' s && Nat.beq cells.length ((k + len) * s) && Nat.ble ((len + ys.length) * bytes) (2 ^ 46) && ys.all fun y => y.cells.all V.one)
            (cond ys.isEmpty (some [(.slr r k len s', W)]) (outs1 (.slr W.nx 0 (len + ys.length) s) (W.move r (.vec s (cells.drop (k * s) ++ ys.flatMap V.cells))))) none
          | _ => none)
        | _ => none) none
    | _ => none
  | .append s bytes => match vs with
    | [x, y] => match elemsV s W.w y with
      | none => none
      | some ys => cond (Nat.blt 0 s) (match x with
        | .nilsl => cond (Nat.ble (ys.length * bytes) (2 ^ 46)) (cond ys.isEmpty (some [(.nilsl, W)]) (outs1 (.buf true W.nx s ys.length) (W.alloc (.buf true s ys)))) none
        | .sl s' true xs => cond (Nat.beq s' s && Nat.ble ((xs.length + ys.length) * bytes) (2 ^ 46)) (cond ys.isEmpty (some [(.sl s' true xs, W)]) (outs1 (.buf false W.nx s (xs.length + ys.length)) (W.alloc (.buf false s (xs ++ ys))))) none
        | .buf np r s' m => (match W.w.get r with
          | some (.buf np' s'' xs) => cond (Nat.beq s' s && Nat.beq s'' s && np' == np && Nat.beq m xs.length && Nat.ble ((m + ys.length) * bytes) (2 ^ 46) && ys.all fun y => y.cells.all V.one)
            (outs1 (.buf np r s (m + ys.length)) (W.put r (.buf np s (xs ++ ys)))) none
          | _ => none)
        | _ => none) none
    | _ => none
  | .call _ | .callv | .pcall _ | .pcallv => none
  | k => match rsem k vs W.w with
    | some v => some [(v, W)]
    | none => none

def StepOk (W : CW) (os : List (V × CW)) (S : (V → AW → Prop) → Prop) : Prop :=
  (∀ o ∈ os, W.Fr o.2) ∧ ∀ K : V → AW → Prop, (∀ o ∈ os, K o.1 o.2.w) → S K

theorem StepOk.one {W W' : CW} {v : V} {S : (V → AW → Prop) → Prop} (hf : W.Fr W') (h : ∀ K : V → AW → Prop, K v W'.w → S K) : StepOk W [(v, W')] S :=
  ⟨by simpa using hf, fun K hK => h K (hK (v, W') (by simp))⟩
theorem StepOk.outs1 {W : CW} {x : Option CW} {v : V} {os : List (V × CW)} {S : (V → AW → Prop) → Prop} (h : outs1 v x = some os) (hw : ∀ W', x = some W' → W.Fr W' ∧ ∀ K : V → AW → Prop, K v W'.w → S K) : StepOk W os S := by
  cases x with
  | none => simp [Go.AL.outs1] at h
  | some W' =>
    simp only [Go.AL.outs1, Option.some.injEq] at h
    subst h
    exact StepOk.one (hw W' rfl).1 (hw W' rfl).2

theorem stepMap_ok {sh : Bool × List SK} {key : V} {es : List (V × V × Nat)} (h : stepMap sh key es = true) : keysOk sh key es := by
  simp only [stepMap, Bool.and_eq_true, List.all_eq_true] at h
  exact h

theorem mapM_put {W : CW} {i : Nat} {f : V × V × Nat → AObj} {g : V × V × Nat → V} : ∀ {l : List (V × V × Nat)} {os : List (V × CW)}, l.mapM (fun e => (W.put i (f e)).map fun W' => (g e, W')) = some os →
    (∀ o ∈ os, ∃ e ∈ l, o.1 = g e ∧ W.put i (f e) = some o.2) ∧ ∀ e ∈ l, ∃ W', W.put i (f e) = some W' ∧ (g e, W') ∈ os
  | [], os, h => by
    simp only [List.mapM_nil] at h
    cases h
    simp
  | e :: l, os, h => by
    simp only [List.mapM_cons] at h
    cases hp : W.put i (f e) with
    | none => rw [hp] at h; simp at h
    | some W' =>
      rw [hp] at h
      simp only [Option.map_some] at h
      cases hm : l.mapM (fun e => (W.put i (f e)).map fun W' => (g e, W')) with
      | none => rw [hm] at h; cases h
      | some os' =>
        rw [hm] at h
        cases h
        obtain ⟨h1, h2⟩ := mapM_put hm
        refine ⟨fun o ho => ?_, fun e' he' => ?_⟩
        · rcases List.mem_cons.1 ho with rfl | ho
          · exact ⟨e, by simp, rfl, hp⟩
          · obtain ⟨e', he', q⟩ := h1 o ho
            exact ⟨e', by simp [he'], q⟩
        · rcases List.mem_cons.1 he' with rfl | he'
          · exact ⟨W', hp, by simp⟩
          · obtain ⟨W2, q1, q2⟩ := h2 e' he'
            exact ⟨W2, q1, by simp [q2]⟩

theorem cond_some {α : Type} {b : Bool} {x : Option α} {y : α} (h : cond b x none = some y) : b = true ∧ x = some y := by cases b <;> simp_all

set_option maxHeartbeats 1000000 in
theorem stepK_ok {E : Env} {k : AK} {vs : List V} {W : CW} {os : List (V × CW)} (h : stepK k vs W = some os) : StepOk W os (sem E k vs W.w) := by
  by_cases hp : plainK k = true
  · have hs : (match rsem k vs W.w with | some v => some [(v, W)] | none => none) = some os := by
      cases k <;> first | (simp [plainK, isT] at hp; done) | exact h
    split at hs
    · rename_i v hv
      cases hs
      exact StepOk.one (CW.Fr.refl W) (fun K hK => by rw [sem_plain hp, hv]; exact hK)
    · cases hs
  · cases k <;> simp only [plainK, isT, reduceCtorEq, not_true_eq_false, not_false_eq_true, Bool.false_eq_true] at hp
    all_goals simp only [stepK, reduceCtorEq] at h
    case alloc zero =>
      split at h
      · exact StepOk.outs1 h (fun W' hW => by obtain ⟨h1, h2⟩ := CW.alloc_w hW; exact ⟨h2, fun K hK => by rw [h1] at hK; exact hK⟩)
      · cases h
    case box =>
      split at h
      · exact StepOk.outs1 h (fun W' hW => by obtain ⟨h1, h2⟩ := CW.alloc_w hW; exact ⟨h2, fun K hK => by rw [h1] at hK; exact hK⟩)
      · cases h
    case mkmap =>
      split at h
      · exact StepOk.outs1 h (fun W' hW => by obtain ⟨h1, h2⟩ := CW.alloc_w hW; exact ⟨h2, fun K hK => by rw [h1] at hK; exact hK⟩)
      · cases h
    case store s =>
      split at h
      · split at h
        · rename_i cells hg
          obtain ⟨hc, h⟩ := cond_some h
          simp only [Bool.and_eq_true, Nat.beq_eq, Nat.ble_eq] at hc
          exact StepOk.outs1 h (fun W' hW => by obtain ⟨h1, h2⟩ := CW.put_w hW; exact ⟨h2, fun K hK => by rw [h1] at hK; simp only [sem, hg]; exact ⟨hc.1.1, hc.1.2, hc.2, hK⟩⟩)
        · cases h
      · split at h
        · rename_i s' cells hg
          obtain ⟨hc, h⟩ := cond_some h
          simp only [Bool.and_eq_true, Nat.beq_eq, Nat.ble_eq] at hc
          exact StepOk.outs1 h (fun W' hW => by obtain ⟨h1, h2⟩ := CW.put_w hW; exact ⟨h2, fun K hK => by rw [h1] at hK; simp only [sem, hg]; exact ⟨hc.1.1, hc.1.2, hc.2, hK⟩⟩)
        · cases h
      · cases h
    case makesl s bytes z =>
      split at h
      · split at h
        · rename_i hc
          exact StepOk.outs1 h (fun W' hW => by obtain ⟨h1, h2⟩ := CW.alloc_w hW; exact ⟨h2, fun K hK => by rw [h1] at hK; exact ⟨hc.1, hc.2.1, hc.2.2.1, hc.2.2.2, hK⟩⟩)
        · cases h
      · cases h
    case ment sh zero =>
      split at h
      · split at h
        · rename_i es clock hg
          obtain ⟨hc, h⟩ := cond_some h
          have hc := stepMap_ok hc
          split at h
          · rename_i e hf
            cases h
            exact StepOk.one (CW.Fr.refl W) (fun K hK => by simp only [sem, hg, hf]; exact ⟨hc, hK⟩)
          · rename_i hf
            exact StepOk.outs1 h (fun W' hW => by obtain ⟨h1, h2⟩ := CW.put_w hW; exact ⟨h2, fun K hK => by rw [h1] at hK; simp only [sem, hg, hf]; exact ⟨hc, hK⟩⟩)
        · cases h
      · cases h
    case mest =>
      split at h
      · split at h
        · rename_i es clock hg
          split at h
          · rename_i hn
            split at h
            · rename_i es' hf
              exact StepOk.outs1 h (fun W' hW => by obtain ⟨h1, h2⟩ := CW.put_w hW; exact ⟨h2, fun K hK => by rw [h1] at hK; simp only [sem, hg, hf]; exact ⟨hn, hK⟩⟩)
            · cases h
          · cases h
        · cases h
      · cases h
    case lookup sh zero ok =>
      split at h
      · obtain ⟨hc, h⟩ := cond_some h
        cases h
        exact StepOk.one (CW.Fr.refl W) (fun K hK => ⟨hc, hK⟩)
      · split at h
        · rename_i es clock hg
          obtain ⟨hc, h⟩ := cond_some h
          have hc := stepMap_ok hc
          split at h
          · rename_i e hf
            cases h
            exact StepOk.one (CW.Fr.refl W) (fun K hK => by simp only [sem, hg, hf]; exact ⟨hc, hK⟩)
          · rename_i hf
            cases h
            exact StepOk.one (CW.Fr.refl W) (fun K hK => by simp only [sem, hg, hf]; exact ⟨hc, hK⟩)
        · cases h
      · cases h
    case mupd sh =>
      split at h
      · split at h
        · rename_i es clock hg
          obtain ⟨hc, h⟩ := cond_some h
          have hc := stepMap_ok hc
          split at h
          · rename_i e hf
            exact StepOk.outs1 h (fun W' hW => by obtain ⟨h1, h2⟩ := CW.put_w hW; exact ⟨h2, fun K hK => by rw [h1] at hK; simp only [sem, hg, hf]; exact ⟨hc, hK⟩⟩)
          · rename_i hf
            exact StepOk.outs1 h (fun W' hW => by obtain ⟨h1, h2⟩ := CW.put_w hW; exact ⟨h2, fun K hK => by rw [h1] at hK; simp only [sem, hg, hf]; exact ⟨hc, hK⟩⟩)
        · cases h
      · cases h
    case rangem =>
      split at h
      · exact StepOk.outs1 h (fun W' hW => by obtain ⟨h1, h2⟩ := CW.alloc_w hW; exact ⟨h2, fun K hK => by rw [h1] at hK; exact hK⟩)
      · split at h
        · rename_i es clock hg
          exact StepOk.outs1 h (fun W' hW => by obtain ⟨h1, h2⟩ := CW.alloc_w hW; exact ⟨h2, fun K hK => by rw [h1] at hK; simp only [sem, hg]; exact hK⟩)
        · cases h
      · cases h
    case nextm =>
      split at h
      · split at h
        · rename_i i _ _ _ hg
          cases h
          exact StepOk.one (CW.Fr.refl W) (fun K hK => by simp only [sem, hg]; exact hK)
        · rename_i i m since seen last hg
          split at h
          · rename_i es clock hm
            obtain ⟨hc, h⟩ := cond_some h
            split at h
            · rename_i os' hos
              cases h
              obtain ⟨q1, q2⟩ := mapM_put hos
              have hfr : ∀ o ∈ os', W.Fr o.2 := fun o ho => by
                obtain ⟨e, _, _, hp⟩ := q1 o ho
                exact (CW.put_w hp).2
              refine ⟨fun o ho => ?_, fun K hK => ?_⟩
              · cases hb : (es.all fun e => seen.contains e.2.2 || Nat.ble since e.2.2)
                · rw [hb] at ho; exact hfr o ho
                · rw [hb] at ho
                  rcases List.mem_cons.1 ho with rfl | ho
                  · exact CW.Fr.refl W
                  · exact hfr o ho
              · simp only [sem, hg, hm]
                refine ⟨?_, ?_, ?_⟩
                · simp only [Bool.or_eq_true, List.isEmpty_iff, List.any_eq_true, blt_iff] at hc
                  rcases hc with (h1 | h1) | h1
                  · exact .inl h1
                  · exact .inr (.inl h1)
                  · exact .inr (.inr h1)
                · intro hall
                  have hb : (es.all fun e => seen.contains e.2.2 || Nat.ble since e.2.2) = true := by
                    rw [List.all_eq_true]
                    intro e he
                    by_cases hs : e.2.2 ∈ seen
                    · simp [hs]
                    · have := hall e he hs
                      simp [this]
                  have := hK (.tuple [.bool false], W) (by rw [hb]; simp)
                  exact this
                · intro e he hs
                  obtain ⟨W', h1, h2⟩ := q2 e (by simp [he, hs])
                  have := hK _ (show _ ∈ (cond (es.all fun e => seen.contains e.2.2 || Nat.ble since e.2.2) ((.tuple [.bool false], W) :: os') os') by
                    cases (es.all fun e => seen.contains e.2.2 || Nat.ble since e.2.2)
                    · exact h2
                    · exact List.mem_cons_of_mem _ h2)
                  simp only at this
                  rw [(CW.put_w h1).1] at this
                  exact this
            · cases h
          · cases h
        · cases h
      · cases h
    case entry =>
      split at h
      · split at h
        · rename_i i m _ seen last hg
          split at h
          · rename_i es clock stamp hm hl
            obtain ⟨hc, h⟩ := cond_some h
            have hc := Nat.eq_of_beq_eq_true hc
            split at h
            · rename_i e hf
              cases h
              exact StepOk.one (CW.Fr.refl W) (fun K hK => by simp only [sem, hg, hm, hl, hf]; exact ⟨hc, hK⟩)
            · cases h
          · cases h
        · cases h
      · cases h
    case len cat n =>
      split at h
      all_goals first
        | (cases h; exact StepOk.one (CW.Fr.refl W) (fun K hK => hK))
        | (split at h
           · rename_i es clock hg
             cases h
             exact StepOk.one (CW.Fr.refl W) (fun K hK => by simp only [sem, hg]; exact hK)
           · cases h)
        | (cases h; exact StepOk.one (CW.Fr.refl W) (fun K hK => by rename_i x; cases x <;> exact hK))
        | cases h
    case append s bytes =>
      split at h
      · rename_i x y
        split at h
        · cases h
        · rename_i ys hy
          obtain ⟨hs0, h⟩ := cond_some h
          have hs0 := blt_iff.1 hs0
          split at h
          · obtain ⟨hc, h⟩ := cond_some h
            simp only [Nat.ble_eq] at hc
            cases he : ys.isEmpty
            · rw [he] at h
              exact StepOk.outs1 h (fun W' hW => by obtain ⟨h1, h2⟩ := CW.alloc_w hW; exact ⟨h2, fun K hK => by rw [h1] at hK; simp only [sem, hy, he]; exact ⟨hs0, hc, hK⟩⟩)
            · rw [he] at h
              cases h
              exact StepOk.one (CW.Fr.refl W) (fun K hK => by simp only [sem, hy, he]; exact ⟨hs0, hc, hK⟩)
          · obtain ⟨hc, h⟩ := cond_some h
            simp only [Bool.and_eq_true, Nat.beq_eq, Nat.ble_eq] at hc
            cases he : ys.isEmpty
            · rw [he] at h
              exact StepOk.outs1 h (fun W' hW => by obtain ⟨h1, h2⟩ := CW.alloc_w hW; exact ⟨h2, fun K hK => by rw [h1] at hK; simp only [sem, hy, he]; exact ⟨hs0, hc.1, hc.2, hK⟩⟩)
            · rw [he] at h
              cases h
              exact StepOk.one (CW.Fr.refl W) (fun K hK => by simp only [sem, hy, he]; exact ⟨hs0, hc.1, hc.2, hK⟩)
          · split at h
            · rename_i np' s'' xs hg
              obtain ⟨hc, h⟩ := cond_some h
              simp only [Bool.and_eq_true, Nat.beq_eq, Nat.ble_eq, beq_iff_eq] at hc
              exact StepOk.outs1 h (fun W' hW => by obtain ⟨h1, h2⟩ := CW.put_w hW; exact ⟨h2, fun K hK => by rw [h1] at hK; simp only [sem, hy, hg]; exact ⟨hs0, hc.1.1.1.1.1, hc.1.1.1.1.2, hc.1.1.1.2, hc.1.1.2, hc.1.2, hc.2, hK⟩⟩)
            · cases h
          · cases h
      · cases h
    case appendx s bytes z =>
      split at h
      · rename_i x y
        split at h
        · cases h
        · rename_i ys hy
          obtain ⟨hs0, h⟩ := cond_some h
          have hs0 := blt_iff.1 hs0
          have mk : ∀ {S : (V → AW → Prop) → Prop}, StepOk W os S → (∀ K, S K → sem E (.appendx s bytes z) [x, y] W.w K) → StepOk W os (sem E (.appendx s bytes z) [x, y] W.w) := fun h1 h2 => ⟨h1.1, fun K hK => h2 K (h1.2 K hK)⟩
          split at h
          · obtain ⟨hc, h⟩ := cond_some h
            simp only [Nat.ble_eq] at hc
            cases he : ys.isEmpty
            · rw [he] at h
              exact StepOk.outs1 h (fun W' hW => by obtain ⟨h1, h2⟩ := CW.alloc_w hW; exact ⟨h2, fun K hK => by rw [h1] at hK; simp only [sem, hy, he]; exact ⟨hs0, hc, hK⟩⟩)
            · rw [he] at h
              cases h
              exact StepOk.one (CW.Fr.refl W) (fun K hK => by simp only [sem, hy, he]; exact ⟨hs0, hc, hK⟩)
          · obtain ⟨hc, h⟩ := cond_some h
            simp only [Nat.ble_eq] at hc
            cases he : ys.isEmpty
            · rw [he] at h
              exact StepOk.outs1 h (fun W' hW => by obtain ⟨h1, h2⟩ := CW.alloc_w hW; exact ⟨h2, fun K hK => by rw [h1] at hK; simp only [sem, hy, he]; exact ⟨hs0, hc, hK⟩⟩)
            · rw [he] at h
              cases h
              exact StepOk.one (CW.Fr.refl W) (fun K hK => by simp only [sem, hy, he]; exact ⟨hs0, hc, hK⟩)
          · obtain ⟨hc, h⟩ := cond_some h
            simp only [Bool.and_eq_true, Nat.beq_eq, Nat.ble_eq] at hc
            cases he : ys.isEmpty
            · rw [he] at h
              exact StepOk.outs1 h (fun W' hW => by obtain ⟨h1, h2⟩ := CW.alloc_w hW; exact ⟨h2, fun K hK => by rw [h1] at hK; simp only [sem, hy, he]; exact ⟨hs0, hc.1, hc.2, hK⟩⟩)
            · rw [he] at h
              cases h
              exact StepOk.one (CW.Fr.refl W) (fun K hK => by simp only [sem, hy, he]; exact ⟨hs0, hc.1, hc.2, hK⟩)
          · split at h
            · rename_i s'' cells hg
              obtain ⟨hc, h⟩ := cond_some h
              simp only [Bool.and_eq_true, Nat.beq_eq, Nat.ble_eq] at hc
              cases he : ys.isEmpty
              · rw [he] at h
                exact StepOk.outs1 h (fun W' hW => by obtain ⟨h1, h2⟩ := CW.move_w hW; exact ⟨h2, fun K hK => by rw [h1] at hK; simp only [sem, hy, he, hg]; exact ⟨hs0, hc.1.1.1.1, hc.1.1.1.2, hc.1.1.2, hc.1.2, hc.2, hK⟩⟩)
              · rw [he] at h
                cases h
                exact StepOk.one (CW.Fr.refl W) (fun K hK => by simp only [sem, hy, he, hg]; exact ⟨hs0, hc.1.1.1.1, hc.1.1.1.2, hc.1.1.2, hc.1.2, hc.2, hK⟩)
            · cases h
          · cases h
      · cases h
end Go.AL
namespace Go.AL

/-! equality that is computed -/
def bytesEq (a b : ByteArray) : Bool := a.data.toList == b.data.toList
theorem bytesEq_eq {a b : ByteArray} (h : bytesEq a b = true) : a = b := by
  simp only [bytesEq, beq_iff_eq] at h
  exact ByteArray.ext (Array.ext' h)
mutual
def V.beq : V → V → Bool
  | .bool a, .bool b => a == b
  | .int k a, .int k' b => decide (k = k') && decide (a = b)
  | .str a, .str b => bytesEq a b
  | .agg a, .agg b => V.beqL a b
  | .nilptr, .nilptr => true
  | .ptr r o, .ptr r' o' => Nat.beq r r' && Nat.beq o o'
  | .cptr a, .cptr b => V.beqL a b
  | .nilsl, .nilsl => true
  | .sl s f a, .sl s' f' b => Nat.beq s s' && f == f' && V.beqL a b
  | .slr r k l s, .slr r' k' l' s' => Nat.beq r r' && Nat.beq k k' && Nat.beq l l' && Nat.beq s s'
  | .vptr r o, .vptr r' o' => Nat.beq r r' && Nat.beq o o'
  | .slz, .slz => true
  | .buf p r s m, .buf p' r' s' m' => p == p' && Nat.beq r r' && Nat.beq s s' && Nat.beq m m'
  | .nilmap, .nilmap => true
  | .map r, .map r' => Nat.beq r r'
  | .fn (.func f) a b, .fn (.func f') a' b' => Nat.beq f f' && V.beqL a a' && V.beqL b b'
  | .nilfn, .nilfn => true
  | .tuple a, .tuple b => V.beqL a b
  | .nilif, .nilif => true
  | .iface t x, .iface t' y => Nat.beq t t' && V.beq x y
  | .yld r, .yld r' => Nat.beq r r'
  | _, _ => false
def V.beqL : List V → List V → Bool
  | [], [] => true
  | a :: as, b :: bs => V.beq a b && V.beqL as bs
  | _, _ => false
end
mutual
theorem V.beq_eq : ∀ (a b : V), V.beq a b = true → a = b := by
  intro a b h
  cases a <;> cases b
  case fn.fn f1 _ _ f2 _ _ => cases f1 <;> cases f2 <;> simp only [V.beq, Bool.false_eq_true, Bool.and_eq_true, Nat.beq_eq] at h; rw [h.1.1, V.beqL_eq _ _ h.1.2, V.beqL_eq _ _ h.2]
  all_goals simp only [V.beq, Bool.false_eq_true, Bool.and_eq_true, Nat.beq_eq, decide_eq_true_eq, beq_iff_eq] at h
  case bool.bool => rw [h]
  case int.int => rw [h.1, h.2]
  case str.str => rw [bytesEq_eq h]
  case agg.agg => rw [V.beqL_eq _ _ h]
  case nilptr.nilptr => rfl
  case ptr.ptr => rw [h.1, h.2]
  case cptr.cptr => rw [V.beqL_eq _ _ h]
  case nilsl.nilsl => rfl
  case sl.sl => rw [h.1.1, h.1.2, V.beqL_eq _ _ h.2]
  case slr.slr => rw [h.1.1.1, h.1.1.2, h.1.2, h.2]
  case vptr.vptr => rw [h.1, h.2]
  case slz.slz => rfl
  case buf.buf => rw [h.1.1.1, h.1.1.2, h.1.2, h.2]
  case nilmap.nilmap => rfl
  case map.map => rw [h]
  case nilfn.nilfn => rfl
  case tuple.tuple => rw [V.beqL_eq _ _ h]
  case nilif.nilif => rfl
  case iface.iface => rw [h.1, V.beq_eq _ _ h.2]
  case yld.yld => rw [h]
theorem V.beqL_eq : ∀ (a b : List V), V.beqL a b = true → a = b := by
  intro a b h
  cases a <;> cases b <;> simp only [V.beqL, Bool.false_eq_true, Bool.and_eq_true] at h
  case nil.nil => rfl
  case cons.cons => rw [V.beq_eq _ _ h.1, V.beqL_eq _ _ h.2]
end
def beqEs : List (V × V × Nat) → List (V × V × Nat) → Bool
  | [], [] => true
  | a :: as, b :: bs => V.beq a.1 b.1 && V.beq a.2.1 b.2.1 && Nat.beq a.2.2 b.2.2 && beqEs as bs
  | _, _ => false
theorem beqEs_eq : ∀ {a b : List (V × V × Nat)}, beqEs a b = true → a = b
  | [], [], _ => rfl
  | [], _ :: _, h => by simp [beqEs] at h
  | _ :: _, [], h => by simp [beqEs] at h
  | (a1, a2, a3) :: as, (b1, b2, b3) :: bs, h => by
    simp only [beqEs, Bool.and_eq_true, Nat.beq_eq] at h
    rw [V.beq_eq _ _ h.1.1.1, V.beq_eq _ _ h.1.1.2, h.1.2, beqEs_eq h.2]
def AObj.beq : AObj → AObj → Bool
  | .row a, .row b => V.beqL a b
  | .map a c, .map b d => beqEs a b && Nat.beq c d
  | .vec s a, .vec s' b => Nat.beq s s' && V.beqL a b
  | .buf p s a, .buf p' s' b => p == p' && Nat.beq s s' && V.beqL a b
  | _, _ => false
theorem AObj.beq_eq {a b : AObj} (h : AObj.beq a b = true) : a = b := by
  cases a <;> cases b <;> simp only [AObj.beq, Bool.false_eq_true, Bool.and_eq_true, Nat.beq_eq] at h
  case row.row => rw [V.beqL_eq _ _ h]
  case map.map => rw [beqEs_eq h.1, h.2]
  case vec.vec => rw [h.1, V.beqL_eq _ _ h.2]
  case buf.buf => rw [eq_of_beq h.1.1, h.1.2, V.beqL_eq _ _ h.2]
def beqOO : Option AObj → Option AObj → Bool
  | none, none => true
  | some a, some b => AObj.beq a b
  | _, _ => false
theorem beqOO_eq {a b : Option AObj} (h : beqOO a b = true) : a = b := by
  cases a <;> cases b <;> simp only [beqOO, Bool.false_eq_true] at h
  · rfl
  · rw [AObj.beq_eq h]

def beqOV : Option V → Option V → Bool
  | none, none => true
  | some a, some b => V.beq a b
  | _, _ => false
theorem beqOV_eq {a b : Option V} (h : beqOV a b = true) : a = b := by
  cases a <;> cases b <;> simp only [beqOV, Bool.false_eq_true] at h
  · rfl
  · rw [V.beq_eq _ _ h]
def Tr.beqV : Tr V → Tr V → Bool
  | .nil, .nil => true
  | .node v l r, .node v' l' r' => beqOV v v' && Tr.beqV l l' && Tr.beqV r r'
  | _, _ => false
theorem Tr.beqV_eq : ∀ {a b : Tr V}, Tr.beqV a b = true → a = b
  | .nil, .nil, _ => rfl
  | .nil, .node _ _ _, h => by simp [Tr.beqV] at h
  | .node _ _ _, .nil, h => by simp [Tr.beqV] at h
  | .node v l r, .node v' l' r', h => by
    simp only [Tr.beqV, Bool.and_eq_true] at h
    rw [beqOV_eq h.1.1, Tr.beqV_eq h.1.2, Tr.beqV_eq h.2]

/-- All numbers from lo on, n of them. -/
def rangeAll (p : Nat → Bool) (lo : Nat) : Nat → Bool
  | 0 => true
  | n + 1 => p (lo + n) && rangeAll p lo n
theorem rangeAll_iff {p : Nat → Bool} {lo : Nat} : ∀ {n : Nat}, rangeAll p lo n = true → ∀ r, lo ≤ r → r < lo + n → p r = true
  | 0, _, r, h1, h2 => by omega
  | n + 1, h, r, h1, h2 => by
    simp only [rangeAll, Bool.and_eq_true] at h
    by_cases e : r = lo + n
    · rw [e]; exact h.1
    · exact rangeAll_iff h.2 r h1 (by omega)

/-! lists of outcomes -/
def flat {α β : Type} (f : α → Option (List β)) : List α → Option (List β)
  | [] => some []
  | o :: os => match f o with
    | none => none
    | some l => match flat f os with
      | none => none
      | some l' => some (l ++ l')
theorem flat_mem {α β : Type} {f : α → Option (List β)} : ∀ {os : List α} {l : List β}, flat f os = some l → ∀ o ∈ os, ∃ l', f o = some l' ∧ ∀ x ∈ l', x ∈ l
  | [], _, _, o, ho => by simp at ho
  | o :: os, l, h, x, hx => by
    simp only [flat] at h
    split at h
    · cases h
    · rename_i l1 h1
      split at h
      · cases h
      · rename_i l2 h2
        cases h
        rcases List.mem_cons.1 hx with rfl | hx
        · exact ⟨l1, h1, fun y hy => by simp [hy]⟩
        · obtain ⟨l', g1, g2⟩ := flat_mem h2 x hx
          exact ⟨l', g1, fun y hy => by simp [g2 y hy]⟩
theorem flat_from {α β : Type} {f : α → Option (List β)} : ∀ {os : List α} {l : List β}, flat f os = some l → ∀ x ∈ l, ∃ o ∈ os, ∃ l', f o = some l' ∧ x ∈ l'
  | [], _, h, x, hx => by simp only [flat, Option.some.injEq] at h; subst h; simp at hx
  | o :: os, l, h, x, hx => by
    simp only [flat] at h
    split at h
    · cases h
    · rename_i l1 h1
      split at h
      · cases h
      · rename_i l2 h2
        cases h
        rcases List.mem_append.1 hx with hx | hx
        · exact ⟨o, by simp, l1, h1, hx⟩
        · obtain ⟨o', g1, l', g2, g3⟩ := flat_from h2 x hx
          exact ⟨o', by simp [g1], l', g2, g3⟩

/-! frames -/
def evX (gl : Nat → Option (List V)) (A : Tr V) : AX → Option V
  | .t n => A.get n
  | .c v => some v
  | .f id => some (.fn (.func id) [] [])
  | .g n => (gl n).map .cptr
def evXs (gl : Nat → Option (List V)) (A : Tr V) : List AX → Option (List V)
  | [] => some []
  | x :: xs => match evX gl A x, evXs gl A xs with
    | some v, some vs => some (v :: vs)
    | _, _ => none
theorem evX_ok {E : Env} {gl : Nat → Option (List V)} (h : E.glob = gl) (A : Tr V) (x : AX) : x.ev E A.get = evX gl A x := by
  cases x <;> simp [AX.ev, evX, h]
theorem evXs_ok {E : Env} {gl : Nat → Option (List V)} (h : E.glob = gl) (A : Tr V) : ∀ xs : List AX, evs E A.get xs = evXs gl A xs
  | [] => rfl
  | x :: xs => by simp only [evs, evXs, evX_ok h, evXs_ok h A xs]; rfl

def putdT (A : Tr V) : Option Nat → V → Option (Tr V)
  | some d, v => Tr.put deep A d (some v)
  | none, _ => some A
theorem putdT_ok {A A' : Tr V} {d : Option Nat} {v : V} (h : putdT A d v = some A') : A'.get = AFr.putd A.get d v := by
  cases d with
  | none => cases h; rfl
  | some d => funext j; exact Tr.get_put _ _ _ _ _ h j
def putsT (A : Tr V) : List Nat → List V → Option (Tr V)
  | p :: ps, v :: vs => match Tr.put deep A p (some v) with
    | some A' => putsT A' ps vs
    | none => none
  | _, _ => some A
theorem putsT_ok : ∀ {ps : List Nat} {vs : List V} {A A' : Tr V}, putsT A ps vs = some A' → A'.get = AFr.puts A.get ps vs
  | [], _, A, A', h => by simp only [putsT] at h; cases h; rfl
  | p :: ps, [], A, A', h => by simp only [putsT] at h; cases h; rfl
  | p :: ps, v :: vs, A, A', h => by
    simp only [putsT] at h
    split at h
    · rename_i A1 h1
      rw [putsT_ok h]
      have : A1.get = AFr.put A.get p v := funext fun j => Tr.get_put _ _ _ _ _ h1 j
      rw [this]; rfl
    · cases h
def argsT (A : Tr V) (i : Nat) : List V → Option (Tr V)
  | [] => some A
  | v :: vs => match Tr.put deep A i (some v) with
    | some A' => argsT A' (i + 1) vs
    | none => none
theorem argsT_ok' : ∀ {vs : List V} {i : Nat} {A A' : Tr V}, argsT A i vs = some A' → ∀ j, A'.get j = if i ≤ j ∧ j < i + vs.length then vs[j - i]? else A.get j
  | [], i, A, A', h, j => by simp only [argsT] at h; cases h; rw [if_neg (by simp)]
  | v :: vs, i, A, A', h, j => by
    simp only [argsT] at h
    split at h
    · rename_i A1 h1
      rw [argsT_ok' h j]
      have := Tr.get_put _ _ _ _ _ h1 j
      by_cases hj : j = i
      · subst hj
        rw [if_neg (by omega), if_pos (by simp), this]; simp
      · by_cases hc : i + 1 ≤ j ∧ j < i + 1 + vs.length
        · rw [if_pos hc, if_pos (by simp; omega), show j - i = (j - (i + 1)) + 1 by omega]; simp
        · rw [if_neg hc, this, if_neg hj, if_neg (by simp; omega)]
    · cases h
theorem argsT_ok {vs : List V} {A' : Tr V} (h : argsT .nil 0 vs = some A') : A'.get = argsA vs := by
  funext j
  rw [argsT_ok' h j]
  simp only [argsA, Nat.zero_le, true_and, Nat.zero_add, Nat.sub_zero]
  split
  · rfl
  · rename_i hn; simp [Tr.get]; omega
end Go.AL
namespace Go.AL

/-- A range over a function that is going on: its number, and what a round does. -/
structure YI where
  r : Nat
  ps : List Nat
  A : Tr V
  asg : AC
  body : AC
abbrev Out := Exit × Tr V × CW
abbrev RunT := List YI → AC → Tr V → CW → Option (List Out)

/-- What a run goes by. -/
structure Ctx where
  gl : Nat → Option (List V)
  irs : Tr (AC × List RT × Nat)
  ext : FuncId → List V → CW → Outs

def findY (r : Nat) : List YI → Option (YI × List YI)
  | [] => none
  | y :: ys => cond (Nat.beq y.r r) (some (y, ys)) (findY r ys)

/-- What a function leaves is handed to the caller. -/
def finW (W0 : CW) (X : V) (W1 : CW) : CW :=
  let l := W1.log.filter fun r => Nat.blt r W0.nx
  ⟨W1.t, cond (X.bel W0.nx && l.all fun r => match W1.w.get r with
    | some o => o.bel W0.nx
    | none => true) W0.nx W1.nx, l⟩
/-- Iterators that are done with are dropped. -/
def dropIt (t : Tr AObj) (r : Nat) : Option (Tr AObj) := match t.get r with
  | some (.iter ..) | some (.loop ..) => Tr.put deep t r none
  | _ => some t
def strip (lo : Nat) : Nat → Tr AObj → Option (Tr AObj)
  | 0, t => some t
  | n + 1, t => match dropIt t (lo + n) with
    | some t' => strip lo n t'
    | none => none
def retOne (multi : Bool) (rs : List RT) (W0 : CW) (o : Out) : Outs :=
  match o.1 with
  | .normal | .ret => match resV o.2.1.get o.2.2.w rs with
    | some X =>
      let W1 := finW W0 X o.2.2
      cond multi (match strip W0.nx (W1.nx - W0.nx) W1.t with
        | some t => some [(X, ⟨t, W1.nx, W1.log⟩)]
        | none => none) (some [(X, W1)])
    | none => none
  | _ => none
def sameW (lo : Nat) (a b : CW) : Bool :=
  Nat.beq a.nx b.nx && (a.log.all fun r => beqOO (a.w.get r) (b.w.get r)) && (b.log.all fun r => beqOO (a.w.get r) (b.w.get r)) && rangeAll (fun r => beqOO (a.w.get r) (b.w.get r)) lo (a.nx - lo)
def dedup {α : Type} (eq : α → α → Bool) (lo : Nat) : List (α × CW) → List (α × CW)
  | [] => []
  | o :: os => let l := dedup eq lo os
    cond (l.any fun o' => eq o.1 o'.1 && sameW lo o.2 o'.2) l (o :: l)
def withLog {α : Type} (l : List Nat) (os : List (α × CW)) : List (α × CW) := os.map fun o => (o.1, ⟨o.2.t, o.2.nx, o.2.log ++ l⟩)
def isMulti {α : Type} : List α → Bool
  | _ :: _ :: _ => true
  | _ => false

def callF (cx : Ctx) (ih : RunT) (ys : List YI) (f : FuncId) (vs : List V) (W : CW) : Outs :=
  match cx.ext f vs W with
  | some os => some os
  | none => match cx.irs.get f with
    | none => none
    | some (c, rs, n) => cond (Nat.ble vs.length n) (match argsT .nil 0 vs with
      | none => none
      | some A => match ih ys c A ⟨W.t, W.nx, []⟩ with
        | none => none
        | some os => match flat (retOne (isMulti os) rs W) os with
          | none => none
          | some l => some (withLog W.log (cond (isMulti l) (dedup V.beq W.nx l) l))) none
def pureF (W : CW) (o : Outs) : Outs := match o with
  | some ((X, W') :: os) => cond (Nat.beq W'.nx W.nx && W'.log.isEmpty && os.all fun o => V.beq X o.1 && Nat.beq o.2.nx W.nx && o.2.log.isEmpty) (some [(X, W)]) none
  | _ => none
def yieldF (ih : RunT) (ys : List YI) (r : Nat) (vs : List V) (W : CW) : Outs :=
  match findY r ys with
  | none => none
  | some (y, ys') => match W.w.get r with
    | some (.loop .ready none) => cond (Nat.beq vs.length y.ps.length) (match putsT y.A y.ps vs with
      | none => none
      | some A => match ih ys' y.asg A W with
        | none => none
        | some os => flat (fun (o : Out) => match o.1 with
          | .normal => match o.2.2.w.get r with
            | some (.loop .ready none) => match o.2.2.put r (.loop .busy none) with
              | none => none
              | some W2 => match ih ys' y.body o.2.1 W2 with
                | none => none
                | some os2 => flat (fun (q : Out) => match q.2.2.w.get r with
                  | some (.loop .busy none) => match q.1 with
                    | .normal => outs1 (.bool true) (q.2.2.put r (.loop .ready none))
                    | .ret => outs1 (.bool false) (q.2.2.put r (.loop .done (some .ret)))
                    | .exit i => outs1 (.bool false) (q.2.2.put r (.loop .done (some (.exit i))))
                    | _ => none
                  | _ => none) os2
            | _ => none
          | _ => none) os) none
    | _ => none
def runK (cx : Ctx) (ih : RunT) (ys : List YI) (k : AK) (vs : List V) (W : CW) : Outs :=
  match k with
  | .call f => callF cx ih ys f (vs.map W.w.frz) W
  | .callv => match vs with
    | .fn (.func f) first cap :: vs => callF cx ih ys f ((first ++ vs ++ cap).map W.w.frz) W
    | .yld r :: vs => yieldF ih ys r (vs.map W.w.frz) W
    | _ => none
  | .pcall f => pureF W (callF cx ih ys f (vs.map W.w.frz) ⟨W.t, W.nx, []⟩)
  | .pcallv => match vs with
    | .fn (.func f) first cap :: vs => pureF W (callF cx ih ys f ((first ++ vs ++ cap).map W.w.frz) ⟨W.t, W.nx, []⟩)
    | _ => none
  | k => stepK k vs W

abbrev Outs2 := Option (List (Tr V × CW))
def skipO (o : AOp) (A : Tr V) (W : CW) : Outs2 := match putdT A o.dst .undef with
  | some A' => some [(A', W)]
  | none => none
def goO (cx : Ctx) (ih : RunT) (ys : List YI) (o : AOp) (A : Tr V) (W : CW) : Outs2 :=
  match evXs cx.gl A o.xs with
  | none => none
  | some vs => match runK cx ih ys o.k vs W with
    | none => none
    | some os => flat (fun (q : V × CW) => match putdT A o.dst q.1 with
      | some A' => some [(A', q.2)]
      | none => none) os
def runO (cx : Ctx) (ih : RunT) (ys : List YI) (o : AOp) (A : Tr V) (W : CW) : Outs2 :=
  match o.g with
  | none => goO cx ih ys o A W
  | some (t, want) => match A.get t with
    | some (.bool c) => cond (c == want) (goO cx ih ys o A W) (skipO o A W)
    | some (.tuple []) => skipO o A W
    | _ => none
def runL (cx : Ctx) (ih : RunT) (ys : List YI) : List AOp → Tr V → CW → Outs2
  | [], A, W => some [(A, W)]
  | o :: os, A, W => match runO cx ih ys o A W with
    | none => none
    | some l => flat (fun (q : Tr V × CW) => runL cx ih ys os q.1 q.2) l
def runP (cx : Ctx) (ih : RunT) (ys : List YI) : PT → Tr V → CW → Outs2
  | .done, A, W => some [(A, W)]
  | .step _ o t, A, W => match runO cx ih ys o A W with
    | none => none
    | some l => flat (fun (q : Tr V × CW) => runP cx ih ys t q.1 q.2) l
  | .alt a b, A, W => match runP cx ih ys a A W, runP cx ih ys b A W with
    | some l, some l' => some (l ++ l')
    | _, _ => none
def norm (o : Outs2) : Option (List Out) := match o with
  | some l => some (l.map fun q => (.normal, q.1, q.2))
  | none => none
def put1 (e : Exit) (A : Tr V) (x : Option CW) : Option (List Out) := match x with
  | some W => some [(e, A, W)]
  | none => none

def stepR (cx : Ctx) (ih : RunT) : RunT := fun ys c A W =>
  match c with
  | .skip => some [(.normal, A, W)]
  | .reg ops => norm (runL cx ih ys ops A W)
  | .par t => match runP cx ih ys t A ⟨W.t, W.nx, []⟩ with
    | some l => norm (some (withLog W.log (cond (isMulti l) (dedup Tr.beqV W.nx l) l)))
    | none => none
  | .seq a b => match ih ys a A W with
    | none => none
    | some os => flat (fun (o : Out) => match o.1 with
      | .normal => ih ys b o.2.1 o.2.2
      | _ => some [o]) os
  | .cond x a b => match evX cx.gl A x with
    | some (.bool t) => cond t (ih ys a A W) (ih ys b A W)
    | _ => none
  | .rangef g ps asg body => match evX cx.gl A g with
    | some (.fn (.func gf) [] cap) => match W.alloc (.loop .ready none) with
      | none => none
      | some W1 => match callF cx ih (⟨W.nx, ps, A, asg, body⟩ :: ys) gf (.yld W.nx :: cap.map W.w.frz) W1 with
        | none => none
        | some os => flat (fun (o : V × CW) => match o.2.w.get W.nx with
          | some (.loop .ready none) => put1 .normal A (o.2.put W.nx (.loop .exhausted none))
          | some (.loop .done (some .ret)) => put1 .ret A (o.2.put W.nx (.loop .exhausted (some .ret)))
          | some (.loop .done (some (.exit i))) => put1 (.exit i) A (o.2.put W.nx (.loop .exhausted (some (.exit i))))
          | _ => none) os
    | _ => none
  | .block id a => match ih ys a A W with
    | none => none
    | some os => some (os.map fun o => match o.1 with
      | .exit j => cond (Nat.beq j id) (.normal, o.2.1, o.2.2) o
      | _ => o)
  | .loop a => match ih ys a A W with
    | none => none
    | some os => flat (fun (o : Out) => match o.1 with
      | .normal => ih ys (.loop a) o.2.1 o.2.2
      | _ => some [o]) os
  | .exit id => some [(.exit id, A, W)]
  | .ret => some [(.ret, A, W)]

def run (cx : Ctx) (n : Nat) : RunT := Nat.rec (fun _ _ _ _ => none) (fun _ ih => stepR cx ih) n
theorem run_succ (cx : Ctx) (n : Nat) : run cx (n + 1) = stepR cx (run cx n) := rfl

/-! what it shows -/
/-- The environments in which it runs. -/
def GoodY (P : Program) (gl : Nat → Option (List V)) : List YI → Env → Prop
  | [], E => E.P = P ∧ E.glob = gl
  | y :: ys, E => E.P = P ∧ E.glob = gl ∧ ∃ E0, GoodY P gl ys E0 ∧ (∀ vs W K, roundY y.r y.ps y.A.get (awp E0 y.asg) (awp E0 y.body) vs W K → E.yield y.r vs W K) ∧ (∀ r vs W K, r ≠ y.r → E0.yield r vs W K → E.yield r vs W K)
theorem GoodY.P {P : Program} {gl : Nat → Option (List V)} {ys : List YI} {E : Env} (h : GoodY P gl ys E) : E.P = P := by cases ys <;> exact h.1
theorem GoodY.gl {P : Program} {gl : Nat → Option (List V)} {ys : List YI} {E : Env} (h : GoodY P gl ys E) : E.glob = gl := by
  cases ys with
  | nil => exact h.2
  | cons => exact h.2.1
theorem findY_ok {P : Program} {gl : Nat → Option (List V)} {r : Nat} : ∀ {ys : List YI} {E : Env} {y : YI} {ys' : List YI}, GoodY P gl ys E → findY r ys = some (y, ys') →
    ∃ E0, GoodY P gl ys' E0 ∧ ∀ vs W K, roundY r y.ps y.A.get (awp E0 y.asg) (awp E0 y.body) vs W K → E.yield r vs W K
  | [], _, _, _, _, h => by simp [findY] at h
  | z :: zs, E, y, ys', ⟨h1, h2, E0, h3, h4, h5⟩, h => by
    simp only [findY] at h
    cases hb : Nat.beq z.r r
    · rw [hb] at h
      obtain ⟨E1, g1, g2⟩ := findY_ok h3 h
      exact ⟨E1, g1, fun vs W K hr => h5 r vs W K (fun e => by rw [e] at hb; simp at hb) (g2 vs W K hr)⟩
    · rw [hb] at h
      cases h
      have := Nat.eq_of_beq_eq_true hb
      subst this
      exact ⟨E0, h3, h4⟩

/-- The table holds what the program's functions are read as. -/
def IrsOk (P : Program) (irs : Tr (AC × List RT × Nat)) : Prop := ∀ f x, irs.get f = some x → ∃ fn ex, P.funcs[f]? = some fn ∧ compF P fn ex = some x
/-- What is told of functions beforehand. -/
def ExtOk (P : Program) (cx : Ctx) : Prop := ∀ f vs W os, cx.ext f vs W = some os → ∀ E : Env, E.P = P → E.glob = cx.gl → StepOk W os (ACalls E f vs W.w)

/-- A loop that comes to an end. -/
def Term (B : (Exit → AFr → AW → Prop) → AFr → AW → Prop) (Q : Exit → AFr → AW → Prop) (lo : Nat) : Nat → AFr → AW → Prop
  | 0 => fun _ _ => False
  | n + 1 => B (thenQ (fun A' W' => Term B Q lo n A' W' ∧ lo ≤ W'.nx) Q)

theorem exists_least (p : Nat → Prop) (h : ∃ n, p n) : ∃ n, p n ∧ ∀ m, p m → n ≤ m := by
  obtain ⟨n, hn⟩ := h
  induction n using Nat.strongRecOn with
  | _ n ih =>
    by_cases hx : ∃ m, m < n ∧ p m
    · obtain ⟨m, h1, h2⟩ := hx
      exact ih m h1 h2
    · refine ⟨n, hn, fun m hm => ?_⟩
      by_cases hlt : m < n
      · exact absurd ⟨m, hlt, hm⟩ hx
      · omega
theorem Term.loop {B : (Exit → AFr → AW → Prop) → AFr → AW → Prop} (hB : ∀ {Q Q' : Exit → AFr → AW → Prop} {A W}, (∀ e A W, Q e A W → Q' e A W) → B Q A W → B Q' A W) {Q : Exit → AFr → AW → Prop} {n : Nat} {A : AFr} {W : AW} (h : Term B Q W.nx n A W) : ALoop B Q A W := by
  classical
  refine ⟨fun A1 W1 => ∃ n, Term B Q W.nx n A1 W1, fun A1 W1 => if h : ∃ n, Term B Q W.nx n A1 W1 then Classical.choose (exists_least _ h) else 0, ⟨A, W, .refl (Nat.le_refl _), n, h⟩, ?_⟩
  rintro A1 W1 ⟨m, hm⟩ hn
  have hex : ∃ n, Term B Q W.nx n A1 W1 := ⟨m, hm⟩
  obtain ⟨hspec, _⟩ := Classical.choose_spec (exists_least _ hex)
  obtain ⟨k, hk⟩ : ∃ k, Classical.choose (exists_least _ hex) = k + 1 := by
    cases hf : Classical.choose (exists_least _ hex) with
    | zero => rw [hf] at hspec; exact hspec.elim
    | succ k => exact ⟨k, rfl⟩
  rw [hk] at hspec
  refine hB ?_ hspec
  intro e A' W' hq
  cases e with
  | normal =>
    obtain ⟨q1, q2⟩ := hq
    have hex' : ∃ n, Term B Q W.nx n A' W' := ⟨k, q1⟩
    refine ⟨A', W', .refl q2, hex', ?_⟩
    simp only [dif_pos hex', dif_pos hex, hk]
    have := (Classical.choose_spec (exists_least _ hex')).2 k q1
    omega
  | _ => exact hq

/-- What a run shows of code. -/
def CodeOk (P : Program) (cx : Ctx) (n : Nat) (ys : List YI) (c : AC) (A : Tr V) (W : CW) (os : List Out) : Prop :=
  ∀ E : Env, GoodY P cx.gl ys E → (∀ o ∈ os, W.Fr o.2.2) ∧ ∀ Q : Exit → AFr → AW → Prop, (∀ o ∈ os, Q o.1 o.2.1.get o.2.2.w) → awp E c Q A.get W.w ∧ ∀ c', c = .loop c' → ∀ lo, lo ≤ W.nx → Term (awp E c') Q lo n A.get W.w
def RunOk (P : Program) (cx : Ctx) (n : Nat) (R : RunT) : Prop := ∀ ys c A W os, R ys c A W = some os → CodeOk P cx n ys c A W os

theorem CodeOk.get {P : Program} {cx : Ctx} {n : Nat} {ys : List YI} {c : AC} {A : Tr V} {W : CW} {os : List Out} (h : CodeOk P cx n ys c A W os) {E : Env} (hE : GoodY P cx.gl ys E) {Q : Exit → AFr → AW → Prop} (hQ : ∀ o ∈ os, Q o.1 o.2.1.get o.2.2.w) : awp E c Q A.get W.w := ((h E hE).2 Q hQ).1

/-! what a function leaves -/
theorem finW_log {W0 W1 : CW} : ∀ r, r < W0.nx → r ∉ (W1.log.filter fun r => Nat.blt r W0.nx) → r ∉ W1.log := fun r hr hn hm => hn (by simp [hm, blt_iff.2 hr])
theorem finW_fr {W0 W1 : CW} {X : V} (hf : CW.Fr ⟨W0.t, W0.nx, []⟩ W1) : CW.Fr ⟨W0.t, W0.nx, []⟩ (finW W0 X W1) := by
  have hnx : W0.nx ≤ W1.nx := hf.nx
  cases hb : (X.bel W0.nx && (W1.log.filter fun r => Nat.blt r W0.nx).all fun r => match W1.w.get r with
    | some o => o.bel W0.nx
    | none => true)
  · have e : finW W0 X W1 = ⟨W1.t, W1.nx, W1.log.filter fun r => Nat.blt r W0.nx⟩ := by simp only [finW, hb, cond_false]
    rw [e]
    exact ⟨hnx, by simp, fun r hr hn => hf.same r hr (finW_log r hr hn)⟩
  · have e : finW W0 X W1 = ⟨W1.t, W0.nx, W1.log.filter fun r => Nat.blt r W0.nx⟩ := by simp only [finW, hb, cond_true]
    rw [e]
    refine ⟨Nat.le_refl _, by simp, fun r hr hn => ?_⟩
    rw [← hf.same r hr (finW_log r hr hn)]
    have hr' : r < W0.nx := hr
    simp only [CW.w]
    rw [blt_iff.2 hr', blt_iff.2 (Nat.lt_of_lt_of_le hr' hnx)]
theorem finW_ok {W0 W1 : CW} {X : V} (hok : W0.w.ok) (hf : CW.Fr ⟨W0.t, W0.nx, []⟩ W1) : WeakV X W1.w (finW W0 X W1).w := by
  have hnx : W0.nx ≤ W1.nx := hf.nx
  cases hb : (X.bel W0.nx && (W1.log.filter fun r => Nat.blt r W0.nx).all fun r => match W1.w.get r with
    | some o => o.bel W0.nx
    | none => true)
  · have e : finW W0 X W1 = ⟨W1.t, W1.nx, W1.log.filter fun r => Nat.blt r W0.nx⟩ := by simp only [finW, hb, cond_false]
    rw [e]
    exact ⟨.inl rfl, fun _ _ h => h, .inl rfl, .inl rfl⟩
  · have e : finW W0 X W1 = ⟨W1.t, W0.nx, W1.log.filter fun r => Nat.blt r W0.nx⟩ := by simp only [finW, hb, cond_true]
    rw [e]
    simp only [Bool.and_eq_true, List.all_eq_true] at hb
    have hget : ∀ r o, (CW.w ⟨W1.t, W0.nx, W1.log.filter fun r => Nat.blt r W0.nx⟩).get r = some o → r < W0.nx ∧ W1.w.get r = some o := fun r o ho => by
      have hr := CW.get_lt ho
      refine ⟨hr, ?_⟩
      simp only [CW.w] at ho ⊢
      rw [blt_iff.2 hr] at ho
      rw [blt_iff.2 (Nat.lt_of_lt_of_le hr hnx)]
      exact ho
    refine ⟨.inr hb.1, fun r o ho => (hget r o ho).2, .inr fun r o ho => (hget r o ho).1, .inr fun r o ho => ?_⟩
    obtain ⟨hr, ho⟩ := hget r o ho
    by_cases hm : r ∈ (W1.log.filter fun r => Nat.blt r W0.nx)
    · have := hb.2 r hm
      rw [ho] at this
      exact this
    · rw [hf.same r hr (finW_log r hr hm)] at ho
      exact (hok r o ho).2

theorem dropIt_ok {t t' : Tr AObj} {r : Nat} (h : dropIt t r = some t') : ∀ x o, t'.get x = some o → t.get x = some o := by
  unfold dropIt at h
  split at h
  · intro x o ho
    rw [Tr.get_put _ _ _ _ _ h x] at ho
    split at ho
    · cases ho
    · exact ho
  · intro x o ho
    rw [Tr.get_put _ _ _ _ _ h x] at ho
    split at ho
    · cases ho
    · exact ho
  · cases h; exact fun _ _ h => h
theorem dropIt_other {t t' : Tr AObj} {r : Nat} (h : dropIt t r = some t') : ∀ x, x ≠ r → t'.get x = t.get x := by
  intro x hx
  unfold dropIt at h
  split at h
  · rw [Tr.get_put _ _ _ _ _ h x, if_neg hx]
  · rw [Tr.get_put _ _ _ _ _ h x, if_neg hx]
  · cases h; rfl
theorem strip_ok {lo : Nat} : ∀ {n : Nat} {t t' : Tr AObj}, strip lo n t = some t' → (∀ x o, t'.get x = some o → t.get x = some o) ∧ ∀ x, x < lo → t'.get x = t.get x
  | 0, t, t', h => by simp only [strip] at h; cases h; exact ⟨fun _ _ h => h, fun _ _ => rfl⟩
  | n + 1, t, t', h => by
    simp only [strip] at h
    split at h
    · rename_i t1 h1
      obtain ⟨g1, g2⟩ := strip_ok h
      exact ⟨fun x o ho => dropIt_ok h1 x o (g1 x o ho), fun x hx => (g2 x hx).trans (dropIt_other h1 x (by omega))⟩
    · cases h

theorem retOne_ok {W0 : CW} {multi : Bool} {rs : List RT} {o : Out} {l : List (V × CW)} (hf : CW.Fr ⟨W0.t, W0.nx, []⟩ o.2.2) (h : retOne multi rs W0 o = some l) :
    (∀ q ∈ l, CW.Fr ⟨W0.t, W0.nx, []⟩ q.2) ∧ (W0.w.ok → ∀ Q : V → AW → Prop, (∀ q ∈ l, Q q.1 q.2.w) → retQ rs W0.nx Q o.1 o.2.1.get o.2.2.w) := by
  obtain ⟨e, A, W1⟩ := o
  have key : (match resV A.get W1.w rs with
      | some X => cond multi (match strip W0.nx ((finW W0 X W1).nx - W0.nx) (finW W0 X W1).t with
        | some t => some [(X, (⟨t, (finW W0 X W1).nx, (finW W0 X W1).log⟩ : CW))]
        | none => none) (some [(X, finW W0 X W1)])
      | none => none) = some l → (∀ q ∈ l, CW.Fr ⟨W0.t, W0.nx, []⟩ q.2) ∧ (W0.w.ok → ∀ Q : V → AW → Prop, (∀ q ∈ l, Q q.1 q.2.w) → ∃ X, resV A.get W1.w rs = some X ∧ ∃ W', WeakV X W1.w W' ∧ W0.nx ≤ W'.nx ∧ Q X W') := by
    intro h
    split at h
    · rename_i X hX
      have g1 : CW.Fr ⟨W0.t, W0.nx, []⟩ (finW W0 X W1) := finW_fr hf
      have g3 : W0.nx ≤ (finW W0 X W1).nx := g1.nx
      cases multi
      · simp only [cond_false] at h
        cases h
        exact ⟨by simpa using g1, fun hok Q hQ => ⟨X, hX, (finW W0 X W1).w, finW_ok hok hf, g3, hQ (X, finW W0 X W1) (by simp)⟩⟩
      · simp only [cond_true] at h
        split at h
        · rename_i t ht
          cases h
          obtain ⟨s1, s2⟩ := strip_ok ht
          have hsub : ∀ r o, (CW.w ⟨t, (finW W0 X W1).nx, (finW W0 X W1).log⟩).get r = some o → (finW W0 X W1).w.get r = some o := fun r o ho => by
            have hr := CW.get_lt ho
            simp only [CW.w] at ho ⊢
            rw [blt_iff.2 hr] at ho ⊢
            exact s1 r o ho
          refine ⟨?_, fun hok Q hQ => ?_⟩
          · intro q hq
            rw [List.mem_singleton.1 hq]
            refine ⟨g1.nx, g1.log, fun r hr hn => ?_⟩
            rw [← g1.same r hr hn]
            have hr' : r < W0.nx := hr
            simp only [CW.w]
            rw [s2 r hr']
          · have g2 : WeakV X W1.w (finW W0 X W1).w := finW_ok hok hf
            refine ⟨X, hX, CW.w ⟨t, (finW W0 X W1).nx, (finW W0 X W1).log⟩, ⟨g2.bel, fun r o ho => g2.sub r o (hsub r o ho), ?_, ?_⟩, g3, hQ _ (List.mem_singleton.2 rfl)⟩
            · rcases g2.lt with e | h1
              · exact .inl e
              · exact .inr fun r o ho => h1 r o (hsub r o ho)
            · rcases g2.obel with e | h1
              · exact .inl e
              · exact .inr fun r o ho => h1 r o (hsub r o ho)
        · cases h
    · cases h
  simp only [retOne] at h
  cases e with
  | normal => exact key h
  | ret => exact key h
  | _ => cases h

theorem sameW_ok {W0 : CW} {a b : CW} (ha : CW.Fr ⟨W0.t, W0.nx, []⟩ a) (hb : CW.Fr ⟨W0.t, W0.nx, []⟩ b) (h : sameW W0.nx a b = true) : a.w = b.w := by
  simp only [sameW, Bool.and_eq_true, List.all_eq_true, Nat.beq_eq] at h
  obtain ⟨⟨⟨h2, h3⟩, h4⟩, h5⟩ := h
  have hg : ∀ r, a.w.get r = b.w.get r := by
    intro r
    by_cases hr : r < W0.nx
    · by_cases ha' : r ∈ a.log
      · exact beqOO_eq (h3 r ha')
      · by_cases hb' : r ∈ b.log
        · exact beqOO_eq (h4 r hb')
        · rw [ha.same r hr ha', hb.same r hr hb']
    · by_cases hr2 : r < a.nx
      · exact beqOO_eq (rangeAll_iff h5 r (by omega) (by omega))
      · simp only [CW.w]
        rw [blt_false hr2, blt_false (by omega)]
        rfl
  have hn : a.w.nx = b.w.nx := h2
  show AW.mk a.w.get a.w.nx = AW.mk b.w.get b.w.nx
  rw [hn, funext hg]
theorem dedup_sub {α : Type} {eq : α → α → Bool} {lo : Nat} : ∀ {os : List (α × CW)}, ∀ o ∈ dedup eq lo os, o ∈ os
  | [], o, h => by simp [dedup] at h
  | x :: os, o, h => by
    simp only [dedup] at h
    cases hb : ((dedup eq lo os).any fun o' => eq x.1 o'.1 && sameW lo x.2 o'.2)
    · rw [hb] at h
      rcases List.mem_cons.1 h with rfl | h
      · simp
      · exact List.mem_cons_of_mem _ (dedup_sub o h)
    · rw [hb] at h
      exact List.mem_cons_of_mem _ (dedup_sub o h)
theorem dedup_ok {α : Type} {eq : α → α → Bool} (he : ∀ a b, eq a b = true → a = b) {W0 : CW} : ∀ {os : List (α × CW)}, (∀ o ∈ os, CW.Fr ⟨W0.t, W0.nx, []⟩ o.2) → ∀ o ∈ os, ∃ o' ∈ dedup eq W0.nx os, o'.1 = o.1 ∧ o'.2.w = o.2.w
  | [], _, o, h => by simp at h
  | x :: os, hf, o, h => by
    simp only [dedup]
    have ih := dedup_ok he (W0 := W0) (os := os) (fun o ho => hf o (List.mem_cons_of_mem _ ho))
    cases hb : ((dedup eq W0.nx os).any fun o' => eq x.1 o'.1 && sameW W0.nx x.2 o'.2)
    · rcases List.mem_cons.1 h with rfl | h
      · exact ⟨o, by simp, rfl, rfl⟩
      · obtain ⟨o', h1, h2⟩ := ih o h
        exact ⟨o', by simp [h1], h2⟩
    · rcases List.mem_cons.1 h with rfl | h
      · rw [List.any_eq_true] at hb
        obtain ⟨o', h1, h2⟩ := hb
        simp only [Bool.and_eq_true] at h2
        exact ⟨o', h1, (he _ _ h2.1).symm, (sameW_ok (hf o (by simp)) (hf o' (List.mem_cons_of_mem _ (dedup_sub o' h1))) h2.2).symm⟩
      · exact ih o h
end Go.AL
namespace Go.AL
variable {P : Program} {cx : Ctx} {n : Nat} {ih : RunT}

theorem withLog_ok {W : CW} {os : List (V × CW)} {S : (V → AW → Prop) → Prop} (hf : ∀ o ∈ os, CW.Fr ⟨W.t, W.nx, []⟩ o.2) (h : ∀ K : V → AW → Prop, (∀ o ∈ os, K o.1 o.2.w) → S K) : StepOk W (withLog W.log os) S := by
  refine ⟨fun o ho => ?_, fun K hK => h K fun o ho => ?_⟩
  · obtain ⟨q, hq, rfl⟩ := List.mem_map.1 ho
    have g := hf q hq
    refine ⟨g.nx, fun x hx => by simp [hx], fun r hr hn => ?_⟩
    simp only [List.mem_append, not_or] at hn
    exact g.same r hr hn.1
  · exact hK (o.1, ⟨o.2.t, o.2.nx, o.2.log ++ W.log⟩) (List.mem_map.2 ⟨o, ho, rfl⟩)

theorem callF_ok (hi : IrsOk P cx.irs) (he : ExtOk P cx) (hR : RunOk P cx n ih) {ys : List YI} {f : FuncId} {vs : List V} {W : CW} {os : List (V × CW)} (h : callF cx ih ys f vs W = some os) {E : Env} (hE : GoodY P cx.gl ys E) : StepOk W os (ACalls E f vs W.w) := by
  simp only [callF] at h
  split at h
  · rename_i os' hx
    cases h
    exact he f vs W _ hx E hE.P hE.gl
  · split at h
    · cases h
    · rename_i c rs m hir
      obtain ⟨fn, ex, hfn, hc⟩ := hi f _ hir
      obtain ⟨hn, h⟩ := cond_some h
      simp only [Nat.ble_eq] at hn
      split at h
      · cases h
      · rename_i A hA
        split at h
        · cases h
        · rename_i os1 ho1
          split at h
          · cases h
          · rename_i l hl
            cases h
            obtain ⟨hfr, hcode⟩ := hR _ _ _ _ _ ho1 E hE
            have hfl : ∀ q ∈ l, CW.Fr ⟨W.t, W.nx, []⟩ q.2 := fun q hq => by
              obtain ⟨o, ho, l', h1, h2⟩ := flat_from hl q hq
              exact (retOne_ok (hfr o ho) h1).1 q h2
            have main : ∀ Q : V → AW → Prop, (∀ q ∈ l, Q q.1 q.2.w) → ACalls E f vs W.w Q := fun Q hQ => by
              refine ACalls.of hE.P hfn hc hn fun _ hok => ?_
              rw [← argsT_ok hA]
              refine (hcode _ fun o ho => ?_).1
              obtain ⟨l', h1, h2⟩ := flat_mem hl o ho
              exact (retOne_ok (hfr o ho) h1).2 hok Q fun q hq => hQ q (h2 q hq)
            cases hm : isMulti l
            · simp only [cond_false]
              exact withLog_ok hfl main
            · simp only [cond_true]
              refine withLog_ok (fun o ho => hfl o (dedup_sub o ho)) fun K hK => main K fun q hq => ?_
              obtain ⟨o', h1, h2, h3⟩ := dedup_ok V.beq_eq (W0 := W) hfl q hq
              rw [← h2, ← h3]
              exact hK o' h1

theorem fr_nil {W W' : CW} (h : CW.Fr ⟨W.t, W.nx, []⟩ W') (hn : W'.nx = W.nx) (hl : W'.log = []) : W'.w = W.w := by
  have hg : ∀ r, W'.w.get r = W.w.get r := fun r => by
    by_cases hr : r < W.nx
    · exact h.same r hr (by simp [hl])
    · simp only [CW.w]
      rw [blt_false hr, hn, blt_false hr]
      rfl
  show AW.mk W'.w.get W'.nx = AW.mk W.w.get W.nx
  rw [hn, funext hg]

theorem pureF_ok {W : CW} {f : FuncId} {vs : List V} {o : Outs} {os : List (V × CW)} {E : Env} (h : pureF W o = some os) (ho : ∀ l, o = some l → StepOk ⟨W.t, W.nx, []⟩ l (ACalls E f vs W.w)) :
    StepOk W os (fun K => ∃ v, ACalls E f vs W.w (fun X W' => X = v ∧ W' = W.w) ∧ K v W.w) := by
  unfold pureF at h
  split at h
  · rename_i X W' l
    obtain ⟨hc, h⟩ := cond_some h
    simp only [Bool.and_eq_true, Nat.beq_eq, List.isEmpty_iff, List.all_eq_true] at hc
    cases h
    obtain ⟨hf, hs⟩ := ho _ rfl
    refine StepOk.one (CW.Fr.refl W) fun K hK => ⟨X, hs _ fun q hq => ?_, hK⟩
    rcases List.mem_cons.1 hq with rfl | hq'
    · exact ⟨rfl, fr_nil (hf _ hq) hc.1.1 hc.1.2⟩
    · have := hc.2 q hq'
      exact ⟨(V.beq_eq _ _ this.1.1).symm, fr_nil (hf q hq) this.1.2 this.2⟩
  · cases h

theorem yieldF_ok (hR : RunOk P cx n ih) {ys : List YI} {r : Nat} {vs : List V} {W : CW} {os : List (V × CW)} (h : yieldF ih ys r vs W = some os) {E : Env} (hE : GoodY P cx.gl ys E) : StepOk W os (E.yield r vs W.w) := by
  simp only [yieldF] at h
  split at h
  · cases h
  · rename_i y ys' hy
    obtain ⟨E0, hE0, hyield⟩ := findY_ok hE hy
    split at h
    · rename_i hg
      obtain ⟨hl, h⟩ := cond_some h
      have hl := Nat.eq_of_beq_eq_true hl
      split at h
      · cases h
      · rename_i A hA
        split at h
        · cases h
        · rename_i os1 ho1
          obtain ⟨hf1, hc1⟩ := hR _ _ _ _ _ ho1 E0 hE0
          -- each outcome of the assignment
          have each : ∀ o ∈ os1, ∀ l, (match o.1 with
              | .normal => match o.2.2.w.get r with
                | some (.loop .ready none) => match o.2.2.put r (.loop .busy none) with
                  | none => none
                  | some W2 => match ih ys' y.body o.2.1 W2 with
                    | none => none
                    | some os2 => flat (fun (q : Out) => match q.2.2.w.get r with
                      | some (.loop .busy none) => match q.1 with
                        | .normal => outs1 (.bool true) (q.2.2.put r (.loop .ready none))
                        | .ret => outs1 (.bool false) (q.2.2.put r (.loop .done (some .ret)))
                        | .exit i => outs1 (.bool false) (q.2.2.put r (.loop .done (some (.exit i))))
                        | _ => none
                      | _ => none) os2
                | _ => none
              | _ => none) = some l → (∀ x ∈ l, W.Fr x.2) ∧ ∀ K : V → AW → Prop, (∀ x ∈ l, K x.1 x.2.w) →
                thenQ (fun A1 W1 => W1.get r = some (.loop .ready none) ∧ awp E0 y.body (endQ r K) A1 (W1.put r (.loop .busy none))) (fun _ _ _ => False) o.1 o.2.1.get o.2.2.w := by
            rintro ⟨e, A1, W1⟩ ho l hl2
            have hfo := hf1 _ ho
            simp only [] at hl2 hfo
            split at hl2
            · split at hl2
              · rename_i hg1
                split at hl2
                · cases hl2
                · rename_i W2 hp
                  obtain ⟨hw2, hf2⟩ := CW.put_w hp
                  split at hl2
                  · cases hl2
                  · rename_i os2 ho2
                    obtain ⟨hf3, hc3⟩ := hR _ _ _ _ _ ho2 E0 hE0
                    have each2 : ∀ q ∈ os2, ∀ l2, (match q.2.2.w.get r with
                        | some (.loop .busy none) => match q.1 with
                          | .normal => outs1 (.bool true) (q.2.2.put r (.loop .ready none))
                          | .ret => outs1 (.bool false) (q.2.2.put r (.loop .done (some .ret)))
                          | .exit i => outs1 (.bool false) (q.2.2.put r (.loop .done (some (.exit i))))
                          | _ => none
                        | _ => none) = some l2 → (∀ x ∈ l2, q.2.2.Fr x.2) ∧ ∀ K : V → AW → Prop, (∀ x ∈ l2, K x.1 x.2.w) → endQ r K q.1 q.2.1.get q.2.2.w := by
                      rintro ⟨e2, A3, W3⟩ hq l2 h2
                      simp only [] at h2
                      split at h2
                      · rename_i hg3
                        split at h2
                        · have := StepOk.outs1 (S := fun K => endQ r K .normal A3.get W3.w) h2 (fun W' hW => by obtain ⟨g1, g2⟩ := CW.put_w hW; exact ⟨g2, fun K hK => by rw [g1] at hK; exact ⟨hg3, hK⟩⟩)
                          exact this
                        · have := StepOk.outs1 (S := fun K => endQ r K .ret A3.get W3.w) h2 (fun W' hW => by obtain ⟨g1, g2⟩ := CW.put_w hW; exact ⟨g2, fun K hK => by rw [g1] at hK; exact ⟨hg3, hK⟩⟩)
                          exact this
                        · rename_i i
                          have := StepOk.outs1 (S := fun K => endQ r K (.exit i) A3.get W3.w) h2 (fun W' hW => by obtain ⟨g1, g2⟩ := CW.put_w hW; exact ⟨g2, fun K hK => by rw [g1] at hK; exact ⟨hg3, hK⟩⟩)
                          exact this
                        · cases h2
                      · cases h2
                    refine ⟨fun x hx => ?_, fun K hK => ⟨hg1, ?_⟩⟩
                    · obtain ⟨q, hq, l2, h1, h2⟩ := flat_from hl2 x hx
                      exact (hfo.trans hf2).trans ((hf3 q hq).trans ((each2 q hq l2 h1).1 x h2))
                    · show awp E0 y.body (endQ r K) A1.get (W1.w.put r (.loop .busy none))
                      rw [← hw2]
                      refine (hc3 _ fun q hq => ?_).1
                      obtain ⟨l2, h1, h2⟩ := flat_mem hl2 q hq
                      exact (each2 q hq l2 h1).2 K fun x hx => hK x (h2 x hx)
              · cases hl2
            · cases hl2
          refine ⟨fun x hx => ?_, fun K hK => hyield vs W.w K ⟨hg, hl, ?_⟩⟩
          · obtain ⟨o, ho, l, h1, h2⟩ := flat_from h x hx
            exact (each o ho l h1).1 x h2
          · rw [← putsT_ok hA]
            refine (hc1 _ fun o ho => ?_).1
            obtain ⟨l, h1, h2⟩ := flat_mem h o ho
            exact (each o ho l h1).2 K fun x hx => hK x (h2 x hx)
    · cases h

theorem runK_ok (hi : IrsOk P cx.irs) (he : ExtOk P cx) (hR : RunOk P cx n ih) {ys : List YI} {k : AK} {vs : List V} {W : CW} {os : List (V × CW)} (h : runK cx ih ys k vs W = some os) {E : Env} (hE : GoodY P cx.gl ys E) : StepOk W os (sem E k vs W.w) := by
  cases k
  case call f => exact callF_ok hi he hR h hE
  case callv =>
    simp only [runK] at h
    split at h
    · exact callF_ok hi he hR h hE
    · exact yieldF_ok hR h hE
    · cases h
  case pcall f => exact pureF_ok h fun l hl => callF_ok hi he hR hl hE
  case pcallv =>
    simp only [runK] at h
    split at h
    · exact pureF_ok h fun l hl => callF_ok hi he hR hl hE
    · cases h
  all_goals exact stepK_ok h

/-- Operations. -/
def OpsOk (W : CW) (os : List (Tr V × CW)) (S : (AFr → AW → Prop) → Prop) : Prop :=
  (∀ o ∈ os, W.Fr o.2) ∧ ∀ K : AFr → AW → Prop, (∀ o ∈ os, K o.1.get o.2.w) → S K
theorem withLogT_ok {W : CW} {os : List (Tr V × CW)} {S : (AFr → AW → Prop) → Prop} (hf : ∀ o ∈ os, CW.Fr ⟨W.t, W.nx, []⟩ o.2) (h : ∀ K : AFr → AW → Prop, (∀ o ∈ os, K o.1.get o.2.w) → S K) : OpsOk W (withLog W.log os) S := by
  refine ⟨fun o ho => ?_, fun K hK => h K fun o ho => ?_⟩
  · obtain ⟨q, hq, rfl⟩ := List.mem_map.1 ho
    have g := hf q hq
    refine ⟨g.nx, fun x hx => by simp [hx], fun r hr hn => ?_⟩
    simp only [List.mem_append, not_or] at hn
    exact g.same r hr hn.1
  · exact hK (o.1, ⟨o.2.t, o.2.nx, o.2.log ++ W.log⟩) (List.mem_map.2 ⟨o, ho, rfl⟩)
theorem skipO_ok {o : AOp} {A : Tr V} {W : CW} {os : List (Tr V × CW)} (h : skipO o A W = some os) : OpsOk W os (fun K => K (AFr.putd A.get o.dst .undef) W.w) := by
  unfold skipO at h
  split at h
  · rename_i A' hA
    cases h
    exact ⟨by simpa using CW.Fr.refl W, fun K hK => by have := hK (A', W) (by simp); simp only [putdT_ok hA] at this; exact this⟩
  · cases h
theorem goO_ok (hi : IrsOk P cx.irs) (he : ExtOk P cx) (hR : RunOk P cx n ih) {ys : List YI} {o : AOp} {A : Tr V} {W : CW} {os : List (Tr V × CW)} (h : goO cx ih ys o A W = some os) {E : Env} (hE : GoodY P cx.gl ys E) :
    OpsOk W os (fun K => osem E o A.get W.w (putK o.dst A.get K)) := by
  simp only [goO] at h
  split at h
  · cases h
  · rename_i vs hvs
    split at h
    · cases h
    · rename_i l hl
      obtain ⟨h1, h2⟩ := runK_ok hi he hR hl hE
      refine ⟨fun x hx => ?_, fun K hK => ?_⟩
      · obtain ⟨q, hq, l', g1, g2⟩ := flat_from h x hx
        split at g1
        · cases g1
          rw [List.mem_singleton.1 g2]
          exact h1 q hq
        · cases g1
      · unfold osem
        rw [evXs_ok hE.gl, hvs]
        refine h2 _ fun q hq => ?_
        obtain ⟨l', g1, g2⟩ := flat_mem h q hq
        split at g1
        · rename_i A' hA
          cases g1
          have := hK (A', q.2) (g2 _ (List.mem_singleton.2 rfl))
          simp only [putdT_ok hA] at this
          exact this
        · cases g1
theorem runO_ok (hi : IrsOk P cx.irs) (he : ExtOk P cx) (hR : RunOk P cx n ih) {ys : List YI} {o : AOp} {A : Tr V} {W : CW} {os : List (Tr V × CW)} (h : runO cx ih ys o A W = some os) {E : Env} (hE : GoodY P cx.gl ys E) :
    OpsOk W os (fun K => exec1 E o K A.get W.w) := by
  unfold runO at h
  split at h
  · rename_i hg
    have := goO_ok hi he hR h hE
    exact ⟨this.1, fun K hK => by unfold exec1; rw [hg]; exact this.2 K hK⟩
  · rename_i t want hg
    split at h
    · rename_i c hA
      cases hc : (c == want)
      · rw [hc] at h
        have hne : c ≠ want := by simpa using hc
        have := skipO_ok h
        refine ⟨this.1, fun K hK => ?_⟩
        unfold exec1
        simp only [hg, hA]
        exact ⟨fun e => absurd e hne, fun _ => this.2 K hK⟩
      · rw [hc] at h
        have hee : c = want := by simpa using hc
        have := goO_ok hi he hR h hE
        refine ⟨this.1, fun K hK => ?_⟩
        unfold exec1
        simp only [hg, hA]
        exact ⟨fun _ => this.2 K hK, fun e => by rw [hee] at e; cases want <;> cases e⟩
    · rename_i hA
      have := skipO_ok h
      refine ⟨this.1, fun K hK => ?_⟩
      unfold exec1
      simp only [hg, hA]
      exact this.2 K hK
    · cases h
theorem runL_ok (hi : IrsOk P cx.irs) (he : ExtOk P cx) (hR : RunOk P cx n ih) {ys : List YI} {E : Env} (hE : GoodY P cx.gl ys E) : ∀ {l : List AOp} {A : Tr V} {W : CW} {os : List (Tr V × CW)}, runL cx ih ys l A W = some os →
    OpsOk W os (fun K => execL E l K A.get W.w)
  | [], A, W, os, h => by simp only [runL] at h; cases h; exact ⟨by simpa using CW.Fr.refl W, fun K hK => hK (A, W) (by simp)⟩
  | o :: l, A, W, os, h => by
    simp only [runL] at h
    split at h
    · cases h
    · rename_i l1 hl1
      obtain ⟨h1, h2⟩ := runO_ok hi he hR hl1 hE
      refine ⟨fun x hx => ?_, fun K hK => h2 _ fun q hq => ?_⟩
      · obtain ⟨q, hq, l', g1, g2⟩ := flat_from h x hx
        exact (h1 q hq).trans ((runL_ok hi he hR hE g1).1 x g2)
      · obtain ⟨l', g1, g2⟩ := flat_mem h q hq
        exact (runL_ok hi he hR hE g1).2 K fun x hx => hK x (g2 x hx)
theorem runP_ok (hi : IrsOk P cx.irs) (he : ExtOk P cx) (hR : RunOk P cx n ih) {ys : List YI} {E : Env} (hE : GoodY P cx.gl ys E) : ∀ {t : PT} {A : Tr V} {W : CW} {os : List (Tr V × CW)}, runP cx ih ys t A W = some os →
    OpsOk W os (fun K => aT E t K A.get W.w)
  | .done, A, W, os, h => by simp only [runP] at h; cases h; exact ⟨by simpa using CW.Fr.refl W, fun K hK => hK (A, W) (by simp)⟩
  | .step _ o t, A, W, os, h => by
    simp only [runP] at h
    split at h
    · cases h
    · rename_i l1 hl1
      obtain ⟨h1, h2⟩ := runO_ok hi he hR hl1 hE
      refine ⟨fun x hx => ?_, fun K hK => h2 _ fun q hq => ?_⟩
      · obtain ⟨q, hq, l', g1, g2⟩ := flat_from h x hx
        exact (h1 q hq).trans ((runP_ok hi he hR hE g1).1 x g2)
      · obtain ⟨l', g1, g2⟩ := flat_mem h q hq
        exact (runP_ok hi he hR hE g1).2 K fun x hx => hK x (g2 x hx)
  | .alt a b, A, W, os, h => by
    simp only [runP] at h
    split at h
    · rename_i l l' h1 h2
      cases h
      obtain ⟨f1, g1⟩ := runP_ok hi he hR hE h1
      obtain ⟨f2, g2⟩ := runP_ok hi he hR hE h2
      refine ⟨fun x hx => ?_, fun K hK => ⟨g1 K fun o ho => hK o (by simp [ho]), g2 K fun o ho => hK o (by simp [ho])⟩⟩
      rcases List.mem_append.1 hx with hx | hx
      · exact f1 x hx
      · exact f2 x hx
    · cases h

theorem norm_ok {W : CW} {o : Outs2} {os : List Out} {S : (AFr → AW → Prop) → Prop} (h : norm o = some os) (ho : ∀ l, o = some l → OpsOk W l S) : (∀ x ∈ os, W.Fr x.2.2) ∧ ∀ Q : Exit → AFr → AW → Prop, (∀ x ∈ os, Q x.1 x.2.1.get x.2.2.w) → S (Q .normal) := by
  unfold norm at h
  split at h
  · rename_i l
    cases h
    obtain ⟨h1, h2⟩ := ho l rfl
    refine ⟨fun x hx => ?_, fun Q hQ => h2 _ fun q hq => hQ (.normal, q.1, q.2) (List.mem_map.2 ⟨q, hq, rfl⟩)⟩
    obtain ⟨q, hq, rfl⟩ := List.mem_map.1 hx
    exact h1 q hq
  · cases h

/-- An environment that knows the rounds of one more range. -/
def Env.round (E : Env) (r0 : Nat) (ps : List Nat) (A : AFr) (asg body : AC) : Env where
  P := E.P
  B := E.B
  w0 := E.w0
  glob := E.glob
  globOk := E.globOk
  γ0 := E.γ0
  n0 := E.n0
  yield := fun r vs W2 K => (r = r0 ∧ roundY r0 ps A (awp E asg) (awp E body) vs W2 K) ∨ (r ≠ r0 ∧ E.yield r vs W2 K)
  yieldMono := fun r vs W2 K K' hk hy => by
    rcases hy with ⟨e, hr⟩ | ⟨e, hy⟩
    · refine .inl ⟨e, hr.1, hr.2.1, awp_mono _ ?_ hr.2.2⟩
      intro ex A' W' hq
      cases ex with
      | normal =>
        refine ⟨hq.1, awp_mono _ ?_ hq.2⟩
        intro ex A' W' hq
        cases ex <;> first | exact hq.elim | exact ⟨hq.1, hk _ _ hq.2⟩
      | _ => exact hq
    · exact .inr ⟨e, E.yieldMono r vs W2 K K' hk hy⟩

theorem flatOk {W : CW} {l1 os : List Out} {f : Out → Option (List Out)} {S : (Exit → AFr → AW → Prop) → Exit → AFr → AW → Prop} (hf : ∀ o ∈ l1, W.Fr o.2.2) (h : flat f l1 = some os)
    (each : ∀ o ∈ l1, ∀ l', f o = some l' → (∀ x ∈ l', o.2.2.Fr x.2.2) ∧ ∀ Q : Exit → AFr → AW → Prop, (∀ x ∈ l', Q x.1 x.2.1.get x.2.2.w) → S Q o.1 o.2.1.get o.2.2.w) :
    (∀ x ∈ os, W.Fr x.2.2) ∧ ∀ Q : Exit → AFr → AW → Prop, (∀ x ∈ os, Q x.1 x.2.1.get x.2.2.w) → ∀ o ∈ l1, S Q o.1 o.2.1.get o.2.2.w := by
  refine ⟨fun x hx => ?_, fun Q hQ o ho => ?_⟩
  · obtain ⟨o, ho, l', g1, g2⟩ := flat_from h x hx
    exact (hf o ho).trans ((each o ho l' g1).1 x g2)
  · obtain ⟨l', g1, g2⟩ := flat_mem h o ho
    exact (each o ho l' g1).2 Q fun x hx => hQ x (g2 x hx)

set_option maxHeartbeats 1000000 in
theorem stepR_ok (hi : IrsOk P cx.irs) (he : ExtOk P cx) (hR : RunOk P cx n ih) : RunOk P cx (n + 1) (stepR cx ih) := by
  intro ys c A W os h E hE
  cases c
  case skip =>
    simp only [stepR] at h; cases h
    exact ⟨by simpa using CW.Fr.refl W, fun Q hQ => ⟨hQ (.normal, A, W) (by simp), fun c' hc => by cases hc⟩⟩
  case exit id =>
    simp only [stepR] at h; cases h
    exact ⟨by simpa using CW.Fr.refl W, fun Q hQ => ⟨hQ (.exit id, A, W) (by simp), fun c' hc => by cases hc⟩⟩
  case ret =>
    simp only [stepR] at h; cases h
    exact ⟨by simpa using CW.Fr.refl W, fun Q hQ => ⟨hQ (.ret, A, W) (by simp), fun c' hc => by cases hc⟩⟩
  case reg ops =>
    simp only [stepR] at h
    obtain ⟨h1, h2⟩ := norm_ok h fun l' hl' => runL_ok hi he hR hE hl'
    exact ⟨h1, fun Q hQ => ⟨h2 Q hQ, fun c' hc => by cases hc⟩⟩
  case par t =>
    simp only [stepR] at h
    split at h
    · rename_i l hl
      obtain ⟨f1, f2⟩ := runP_ok hi he hR hE hl
      have f1 : ∀ o ∈ l, CW.Fr ⟨W.t, W.nx, []⟩ o.2 := f1
      have f3 : OpsOk W (withLog W.log (cond (isMulti l) (dedup Tr.beqV W.nx l) l)) (fun K => aT E t K A.get W.w) := by
        cases isMulti l
        · exact withLogT_ok f1 f2
        · refine withLogT_ok (fun o ho => f1 o (dedup_sub o ho)) fun K hK => f2 K fun q hq => ?_
          obtain ⟨o', h1, h2, h3⟩ := dedup_ok (fun _ _ => Tr.beqV_eq) (W0 := W) f1 q hq
          rw [← h2, ← h3]
          exact hK o' h1
      obtain ⟨h1, h2⟩ := norm_ok h fun l' hl' => by cases hl'; exact f3
      exact ⟨h1, fun Q hQ => ⟨h2 Q hQ, fun c' hc => by cases hc⟩⟩
    · cases h
  case seq a b =>
    simp only [stepR] at h
    split at h
    · cases h
    · rename_i l1 hl1
      obtain ⟨h1, h2⟩ := hR _ _ _ _ _ hl1 E hE
      obtain ⟨g1, g2⟩ := flatOk (S := fun Q => thenQ (awp E b Q) Q) h1 h (fun o ho l' hl' => by
        obtain ⟨e, A1, W1⟩ := o
        simp only [] at hl'
        split at hl'
        · obtain ⟨q1, q2⟩ := hR _ _ _ _ _ hl' E hE
          exact ⟨q1, fun Q hQ => (q2 Q hQ).1⟩
        · rename_i hne
          cases hl'
          refine ⟨by simpa using CW.Fr.refl W1, fun Q hQ => ?_⟩
          have := hQ _ (List.mem_singleton.2 rfl)
          cases e <;> first | exact this | exact absurd rfl hne)
      exact ⟨g1, fun Q hQ => ⟨(h2 _ fun o ho => g2 Q hQ o ho).1, fun c' hc => by cases hc⟩⟩
  case cond x a b =>
    simp only [stepR] at h
    split at h
    · rename_i t ht
      cases t
      · obtain ⟨q1, q2⟩ := hR _ _ _ _ _ h E hE
        refine ⟨q1, fun Q hQ => ⟨?_, fun c' hc => by cases hc⟩⟩
        simp only [awp, evX_ok hE.gl, ht]
        exact ⟨fun e => (by cases e), fun _ => (q2 Q hQ).1⟩
      · obtain ⟨q1, q2⟩ := hR _ _ _ _ _ h E hE
        refine ⟨q1, fun Q hQ => ⟨?_, fun c' hc => by cases hc⟩⟩
        simp only [awp, evX_ok hE.gl, ht]
        exact ⟨fun _ => (q2 Q hQ).1, fun e => (by cases e)⟩
    · cases h
  case rangef g ps asg body =>
    simp only [stepR] at h
    split at h
    · rename_i gf cap hg
      split at h
      · cases h
      · rename_i W1 hW1
        obtain ⟨hw1, hf1⟩ := CW.alloc_w hW1
        split at h
        · cases h
        · rename_i l hl
          -- the outcomes behind the iterator
          have each : ∀ o ∈ l, ∀ l', (match o.2.w.get W.nx with
              | some (.loop .ready none) => put1 .normal A (o.2.put W.nx (.loop .exhausted none))
              | some (.loop .done (some .ret)) => put1 .ret A (o.2.put W.nx (.loop .exhausted (some .ret)))
              | some (.loop .done (some (.exit i))) => put1 (.exit i) A (o.2.put W.nx (.loop .exhausted (some (.exit i))))
              | _ => none) = some l' → (∀ x ∈ l', o.2.Fr x.2.2) ∧ ∀ Q : Exit → AFr → AW → Prop, (∀ x ∈ l', Q x.1 x.2.1.get x.2.2.w) → doneQ W.nx Q A.get o.2.w := by
            rintro ⟨X, W2⟩ ho l' hl'
            have p1 : ∀ {e : Exit} {x : Option CW}, put1 e A x = some l' → ∃ W3, x = some W3 ∧ l' = [(e, A, W3)] := fun {e x} hx => by
              cases x with
              | none => simp [put1] at hx
              | some W3 => simp only [put1, Option.some.injEq] at hx; exact ⟨W3, rfl, hx.symm⟩
            simp only [] at hl'
            split at hl'
            · rename_i hgt
              obtain ⟨W3, hp, rfl⟩ := p1 hl'
              obtain ⟨g1, g2⟩ := CW.put_w hp
              refine ⟨by simpa using g2, fun Q hQ => ?_⟩
              have := hQ _ (List.mem_singleton.2 rfl)
              simp only [doneQ, hgt]
              simp only [g1] at this
              exact this
            · rename_i hgt
              obtain ⟨W3, hp, rfl⟩ := p1 hl'
              obtain ⟨g1, g2⟩ := CW.put_w hp
              refine ⟨by simpa using g2, fun Q hQ => ?_⟩
              have := hQ _ (List.mem_singleton.2 rfl)
              simp only [doneQ, hgt]
              simp only [g1] at this
              exact this
            · rename_i i hgt
              obtain ⟨W3, hp, rfl⟩ := p1 hl'
              obtain ⟨g1, g2⟩ := CW.put_w hp
              refine ⟨by simpa using g2, fun Q hQ => ?_⟩
              have := hQ _ (List.mem_singleton.2 rfl)
              simp only [doneQ, hgt]
              simp only [g1] at this
              exact this
            · cases hl'
          -- an environment in which rounds are known
          have call : ∀ E' : Env, E'.P = E.P → E'.glob = E.glob → (∀ vs W1 K, roundY W.w.nx ps A.get (awp E asg) (awp E body) vs W1 K → E'.yield W.w.nx vs W1 K) → (∀ r vs W1 K, r ≠ W.w.nx → E.yield r vs W1 K → E'.yield r vs W1 K) →
              StepOk W1 l (ACalls E' gf (.yld W.nx :: cap.map W.w.frz) W1.w) := fun E' e1 e2 e3 e4 =>
            callF_ok hi he hR hl (E := E') ⟨e1.trans hE.P, e2.trans hE.gl, E, hE, e3, e4⟩
          refine ⟨fun x hx => ?_, fun Q hQ => ⟨?_, fun c' hc => by cases hc⟩⟩
          · obtain ⟨o, ho, l', q1, q2⟩ := flat_from h x hx
            have hc := call (E.round W.w.nx ps A.get asg body) rfl rfl (fun vs W2 K hr => .inl ⟨rfl, hr⟩) (fun r vs W2 K hne hy => .inr ⟨hne, hy⟩)
            exact hf1.trans ((hc.1 o ho).trans ((each o ho l' q1).1 x q2))
          · simp only [awp, evX_ok hE.gl, hg]
            intro E' e1 e2 e3 e4
            have hc := call E' e1 e2 e3 e4
            rw [← hw1]
            refine hc.2 _ fun o ho => ?_
            obtain ⟨l', q1, q2⟩ := flat_mem h o ho
            exact (each o ho l' q1).2 Q fun x hx => hQ x (q2 x hx)
    · cases h
  case block id a =>
    simp only [stepR] at h
    split at h
    · cases h
    · rename_i l1 hl1
      cases h
      obtain ⟨h1, h2⟩ := hR _ _ _ _ _ hl1 E hE
      have key : ∀ o : Out, (match o.1 with | .exit j => cond (Nat.beq j id) ((.normal, o.2.1, o.2.2) : Out) o | _ => o).2.2 = o.2.2 ∧ ∀ Q : Exit → AFr → AW → Prop,
          Q (match o.1 with | .exit j => cond (Nat.beq j id) ((.normal, o.2.1, o.2.2) : Out) o | _ => o).1 (match o.1 with | .exit j => cond (Nat.beq j id) ((.normal, o.2.1, o.2.2) : Out) o | _ => o).2.1.get (match o.1 with | .exit j => cond (Nat.beq j id) ((.normal, o.2.1, o.2.2) : Out) o | _ => o).2.2.w → blockQ id Q o.1 o.2.1.get o.2.2.w := by
        rintro ⟨e, A1, W1⟩
        cases e with
        | exit j =>
          simp only []
          cases hb : Nat.beq j id
          · refine ⟨rfl, fun Q hq => ?_⟩
            simp only [blockQ]
            rw [if_neg (fun e => by rw [e] at hb; simp at hb)]
            exact hq
          · refine ⟨rfl, fun Q hq => ?_⟩
            simp only [blockQ]
            rw [if_pos (Nat.eq_of_beq_eq_true hb)]
            exact hq
        | _ => exact ⟨rfl, fun Q hq => hq⟩
      refine ⟨fun x hx => ?_, fun Q hQ => ⟨(h2 _ fun o ho => (key o).2 Q (hQ _ (List.mem_map.2 ⟨o, ho, rfl⟩))).1, fun c' hc => by cases hc⟩⟩
      obtain ⟨o, ho, rfl⟩ := List.mem_map.1 hx
      exact Eq.mpr (congrArg W.Fr (key o).1) (h1 o ho)
  case loop a =>
    simp only [stepR] at h
    split at h
    · cases h
    · rename_i l1 hl1
      obtain ⟨h1, h2⟩ := hR _ _ _ _ _ hl1 E hE
      have term : ∀ Q : Exit → AFr → AW → Prop, (∀ x ∈ os, Q x.1 x.2.1.get x.2.2.w) → ∀ lo, lo ≤ W.nx → Term (awp E a) Q lo (n + 1) A.get W.w := fun Q hQ lo hlo => by
        refine (h2 _ fun o ho => ?_).1
        obtain ⟨l', q1, q2⟩ := flat_mem h o ho
        have hfo := h1 o ho
        obtain ⟨e, A1, W1⟩ := o
        simp only [] at q1 hfo
        split at q1
        · obtain ⟨p1, p2⟩ := hR _ _ _ _ _ q1 E hE
          exact ⟨(p2 Q fun x hx => hQ x (q2 x hx)).2 a rfl lo (Nat.le_trans hlo hfo.nx), Nat.le_trans hlo hfo.nx⟩
        · rename_i hne
          cases q1
          have := hQ _ (q2 _ (List.mem_singleton.2 rfl))
          cases e <;> first | exact this | exact absurd rfl hne
      refine ⟨fun x hx => ?_, fun Q hQ => ⟨Term.loop (B := awp E a) (fun hq hb => awp_mono a hq hb) (term Q hQ W.nx (Nat.le_refl _)), fun c' hc lo hlo => by cases hc; exact term Q hQ lo hlo⟩⟩
      obtain ⟨o, ho, l', q1, q2⟩ := flat_from h x hx
      have hfo := h1 o ho
      obtain ⟨e, A1, W1⟩ := o
      simp only [] at q1 hfo
      split at q1
      · exact hfo.trans ((hR _ _ _ _ _ q1 E hE).1 x q2)
      · cases q1
        rw [List.mem_singleton.1 q2]
        exact hfo

/-- WHAT IS RUN IS SO. -/
theorem run_ok (hi : IrsOk P cx.irs) (he : ExtOk P cx) : ∀ n, RunOk P cx n (run cx n)
  | 0 => fun _ _ _ _ _ h => by cases h
  | n + 1 => stepR_ok hi he (run_ok hi he n)

/-- A function is run. -/
def runF (cx : Ctx) (n : Nat) (f : FuncId) (vs : List V) (W : CW) : Outs := callF cx (run cx n) [] f vs W
theorem runF_ok (hi : IrsOk P cx.irs) (he : ExtOk P cx) {n : Nat} {f : FuncId} {vs : List V} {W : CW} {os : List (V × CW)} (h : runF cx n f vs W = some os) {E : Env} (hP : E.P = P) (hg : E.glob = cx.gl) : StepOk W os (ACalls E f vs W.w) :=
  callF_ok hi he (run_ok hi he n) h ⟨hP, hg⟩
end Go.AL
namespace Go.AL
open RowKit

/-- The rules' environment at a call from outside. -/
def Env.start (P : Program) (W : World) : Env where
  P := P
  B := W.heap.size
  w0 := W
  glob := fun _ => none
  globOk := fun _ _ _ h => by cases h
  γ0 := ⟨fun _ => none, fun _ => none, fun _ => none, fun _ => false, fun _ => false, fun _ => (0, 0), fun _ => default⟩
  n0 := 0
  yield := fun _ _ _ _ => False
  yieldMono := fun _ _ _ _ _ _ h => h
theorem Env.start_sound (P : Program) (W : World) : (Env.start P W).Sound := fun _ _ _ _ _ _ _ _ _ h => h.elim
def AW.empty : AW := ⟨fun _ => none, 0⟩
theorem Env.start_rel (P : Program) (W : World) : RelW (Env.start P W) (Env.start P W).γ0 W AW.empty where
  below := Below.refl _ _
  base := Nat.le_refl _
  con _ _ _ h := by cases h
  own _ _ h := by cases h
  obj _ _ h := by cases h
  bd := ⟨fun _ _ h => (by cases h), fun _ _ h => (by cases h), fun _ h => (by cases h)⟩
  lt _ _ h := by cases h
  inj _ _ _ _ _ h := by cases h
  apart _ _ _ h := by cases h
  glob _ _ h := by cases h
  dfr _ h := by cases h
  dfrB _ h := by cases h
  ext := G.le.refl _ _
  n0 := Nat.le_refl _

/-- A closed law that answers true. -/
theorem calls_closed {P : Program} {f : FuncId} {W : World} (h : ACalls (Env.start P W) f [] AW.empty fun X _ => X = .bool true) :
    Calls P f #[] W fun e w' => e = .returned (.bool true) ∧ Below W.heap.size W w' := by
  refine (h.2 (Env.start_sound P W) _ _ [] (Env.start_rel P W) rfl).mono ?_
  rintro e w' ⟨v, γ', X, W', rfl, _, _, h4, h5, rfl⟩
  cases h5
  exact ⟨rfl, h4.below⟩

def CW.empty : CW := ⟨.nil, 0, []⟩
theorem CW.empty_w : CW.empty.w = AW.empty := by
  show AW.mk _ _ = AW.mk _ _
  congr 1
/-- What is asked of a closed run. -/
def allTrue : Outs → Bool
  | some os => os.all fun o => match o.1 with
    | .bool b => b
    | _ => false
  | none => false
theorem closed_of_run {P : Program} {cx : Ctx} (hg : cx.gl = fun _ => none) (hi : IrsOk P cx.irs) (he : ExtOk P cx) {n : Nat} {f : FuncId} (h : allTrue (runF cx n f [] CW.empty) = true) {W : World} :
    Calls P f #[] W fun e w' => e = .returned (.bool true) ∧ Below W.heap.size W w' := by
  refine calls_closed ?_
  cases hr : runF cx n f [] CW.empty with
  | none => rw [hr] at h; cases h
  | some os =>
    rw [hr] at h
    rw [← CW.empty_w]
    refine (runF_ok hi he hr (E := Env.start P W) rfl hg.symm).2 _ fun o ho => ?_
    have := List.all_eq_true.1 h o ho
    split at this
    · rename_i b hb
      rw [hb, this]
    · cases this
end Go.AL
