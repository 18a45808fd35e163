/- The abstract logic, part 1: values, worlds, the small code and how the program's text is read as it. Conditions: none. -/
import Derived.Calls
import Derived.Below
import Derived.Orders
import Derived.OrdersIn
import Derived.RangeFuncLeaves
import Derived.RangeFuncRecord
import Derived.Defers
import Derived.Laws.Sem
import Derived.Laws.World
import Derived.Laws.Cells
import Derived.Laws.CopyRow
import Derived.Laws.Entries
open Nat renaming reduceEqDiff → nE, reduceLeDiff → nL, reduceAdd → nA, reduceLT → nT, le_refl → lr
open List renaming getElem?_eq_getElem → gEg, length_map → lmp, getElem_mem → gmm, length_append → lap, length_cons → lcs, mem_singleton → msg, append_nil → apn, mem_append → map', take_length → tkl, map_cons → mcs, map_append → mpp, mem_map → mmp, any_eq_true → aet, length_replicate → lrp, take_add_one → tao, length_take → ltk, mem_filter → mfl
namespace Go.AL
inductive V where
 | bool (b : Bool)
 | int (k : IntKind) (n : Int)
 | str (s : ByteArray)
 | agg (cs : List V)
 | nilptr
 | ptr (r off : Nat)
 | cptr (cells : List V)
 | nilsl
 | sl (s : Nat) (full : Bool) (xs : List V)
 | buf (np : Bool) (r s m : Nat)
 | slr (r k len s : Nat)
 | vptr (r off : Nat)
 | slz
 | nilmap
 | map (r : Nat)
 | fn (f : Fn) (first captured : List V)
 | nilfn
 | tuple (vs : List V)
 | nilif
 | iface (t : TypeId) (v : V)
 | yld (r : Nat)
 deriving Inhabited
def V.cells : V → List V
 | .agg cs => cs
 | v => [v]
def V.undef : V := .tuple []
structure G where
 obj : Nat → Option Nat
 own : Nat → Option Nat
 con : Nat → Option (List Value × Nat)
 kn : Nat → Bool
 dfr : Nat → Bool
 vb : Nat → Nat × Nat
 tk : Nat → Loop
structure G.le (n : Nat) (γ γ' : G) : Prop where
 obj : ∀ r, r < n → γ'.obj r = γ.obj r
 own : ∀ b r, γ.own b = some r → r < n → γ'.own b = some r
 con : ∀ b c s, γ.con b = some (c, s) → ∃ t, γ'.con b = some (c ++ t, s)
 kn : ∀ r, γ.kn r = true → r < n → γ'.kn r = true
 dfr : ∀ b, γ.dfr b = true → γ'.dfr b = true
 vb : ∀ r, r < n → γ'.vb r = γ.vb r
 tk : ∀ r, r < n → γ'.tk r = γ.tk r
theorem G.le.refl (n : Nat) (γ : G) : G.le n γ γ := ⟨fun _ _ => rfl, fun _ _ h _ => h, fun _ _ _ h => ⟨[], by simpa using h⟩, fun _ h _ => h, fun _ h => h, fun _ _ => rfl, fun _ _ => rfl⟩
theorem G.le.trans {n m : Nat} {a b c : G} (h : G.le n a b) (h' : G.le m b c) (hn : n ≤ m) : G.le n a c where
 obj r hr := (h'.obj r (by omega)).trans (h.obj r hr)
 own x r hx hr := h'.own x r (h.own x r hx hr) (by omega)
 con x l s hx := by
  obtain ⟨t, h1⟩ := h.con x l s hx
  obtain ⟨t', h2⟩ := h'.con x _ s h1
  exact ⟨t ++ t', by simpa using h2⟩
 kn r hx hr := h'.kn r (h.kn r hx hr) (by omega)
 dfr b hb := h'.dfr b (h.dfr b hb)
 vb r hr := (h'.vb r (by omega)).trans (h.vb r hr)
 tk r hr := (h'.tk r (by omega)).trans (h.tk r hr)
mutual
def RelV (γ : G) : V → Value → Prop
 | .bool b, v => v = .bool b
 | .int k n, v => v = .int k n
 | .str s, v => v = .string s
 | .agg cs, v => ∃ vs : List Value, v = .agg vs.toArray ∧ RelL γ cs vs
 | .nilptr, v => v = .pointer none
 | .ptr r off, v => ∃ b, γ.obj r = some b ∧ v = .pointer (some ⟨b, off, none⟩)
 | .cptr cells, v => ∃ b pre l post sz, γ.con b = some (pre ++ l ++ post, sz) ∧ RelL γ cells l ∧ v = .pointer (some ⟨b, pre.length, none⟩)
 | .nilsl, v => v = .slice none 0 0
 | .sl s full xs, v => ∃ b pre l post sz cap, γ.con b = some (pre ++ l ++ post, sz) ∧ RelE γ s xs l ∧
   v = .slice (some ⟨b, pre.length, none⟩) xs.length cap ∧ xs.length ≤ cap ∧ (full = true → cap = xs.length) ∧ xs.length < 2 ^ 48
 | .buf np r s m, v => (∃ b, γ.own b = some r ∧ ∃ c sz cap, γ.con b = some (c, sz) ∧ m * s ≤ c.length ∧ cap * s ≤ sz ∧ m ≤ cap ∧ v = .slice (some ⟨b, 0, none⟩) m cap ∧ m < 2 ^ 48) ∨
   ((γ.kn r = true ∧ np = true) ∧ m = 0 ∧ v = .slice none 0 0)
 | .slr r k len s, v => ∃ b a, γ.obj r = some b ∧ v = .slice (some a) len ((γ.vb r).2 - k) ∧ k + len ≤ (γ.vb r).2 ∧ (k < (γ.vb r).2 → a = ⟨b, (γ.vb r).1 + k * s, none⟩) ∧ len < 2 ^ 48
 | .vptr r off, v => ∃ b, γ.obj r = some b ∧ v = .pointer (some ⟨b, (γ.vb r).1 + off, none⟩)
 | .slz, v => ∃ a, v = .slice (some a) 0 0
 | .nilmap, v => v = .map none
 | .map r, v => ∃ b, γ.obj r = some b ∧ v = .map (some b)
 | .fn f first cap, v => ∃ fs cs : List Value, v = .func f fs.toArray cs.toArray ∧ RelL γ first fs ∧ RelL γ cap cs
 | .nilfn, v => v = .nilFunc
 | .tuple vs, v => ∃ ws : List Value, v = .tuple ws.toArray ∧ RelL γ vs ws
 | .nilif, v => v = .nilIface
 | .iface t x, v => ∃ y, v = .iface t y ∧ RelV γ x y
 | .yld r, v => ∃ b, γ.obj r = some b ∧ v = .func (.yield b) #[] #[]
def RelL (γ : G) : List V → List Value → Prop
 | [], l => l = []
 | c :: cs, l => ∃ v l', l = v :: l' ∧ RelV γ c v ∧ RelL γ cs l'
def RelE (γ : G) (s : Nat) : List V → List Value → Prop
 | [], l => l = []
 | x :: xs, l => ∃ v l', l = v.cells.toList ++ l' ∧ v.cells.size = s ∧ RelV γ x v ∧ RelE γ s xs l'
end
end Go.AL
namespace Go.AL
structure G.Bd (n : Nat) (γ : G) : Prop where
 obj : ∀ r b, γ.obj r = some b → r < n
 own : ∀ b r, γ.own b = some r → r < n
 kn : ∀ r, γ.kn r = true → r < n
section
variable {γ γ' : G} {n : Nat} {ds : List Nat}
mutual
theorem RelV.mono (hb : γ.Bd n) (h : G.le n γ γ') : ∀ (x : V) (v : Value), RelV γ x v → RelV γ' x v
 | .bool _, _, hv => hv
 | .int _ _, _, hv => hv
 | .str _, _, hv => hv
 | .agg cs, _, ⟨vs, e, hv⟩ => ⟨vs, e, RelL.mono hb h cs vs hv⟩
 | .nilptr, _, hv => hv
 | .ptr r _, _, ⟨b, e, hv⟩ => ⟨b, (h.obj r (hb.obj r b e)).trans e, hv⟩
 | .cptr cells, _, ⟨b, pre, l, post, sz, hc, hl, hv⟩ => by
  obtain ⟨t, ht⟩ := h.con _ _ _ hc
  exact ⟨b, pre, l, post ++ t, sz, by simpa using ht, RelL.mono hb h cells l hl, hv⟩
 | .nilsl, _, hv => hv
 | .sl s full xs, _, ⟨b, pre, l, post, sz, cap, hc, hl, hv⟩ => by
  obtain ⟨t, ht⟩ := h.con _ _ _ hc
  exact ⟨b, pre, l, post ++ t, sz, cap, by simpa using ht, RelE.mono hb h s xs l hl, hv⟩
 | .buf np r s m, _, .inl ⟨b, ho, c, sz, cap, hc, h1, h2, h3, hv, h4⟩ => by
  obtain ⟨t, ht⟩ := h.con _ _ _ hc
  exact .inl ⟨b, h.own b r ho (hb.own b r ho), c ++ t, sz, cap, ht, by simp; omega, h2, h3, hv, h4⟩
 | .buf _ r _ _, _, .inr ⟨⟨h1, h2⟩, hv⟩ => .inr ⟨⟨h.kn r h1 (hb.kn r h1), h2⟩, hv⟩
 | .slr r _ _ _, _, ⟨b, a, e, hv⟩ => ⟨b, a, (h.obj r (hb.obj r b e)).trans e, by rw [h.vb r (hb.obj r b e)]; exact hv⟩
 | .vptr r _, _, ⟨b, e, hv⟩ => ⟨b, (h.obj r (hb.obj r b e)).trans e, by rw [h.vb r (hb.obj r b e)]; exact hv⟩
 | .slz, _, hv => hv
 | .nilmap, _, hv => hv
 | .map r, _, ⟨b, e, hv⟩ => ⟨b, (h.obj r (hb.obj r b e)).trans e, hv⟩
 | .fn _ first cap, _, ⟨fs, cs, e, h1, h2⟩ => ⟨fs, cs, e, RelL.mono hb h first fs h1, RelL.mono hb h cap cs h2⟩
 | .nilfn, _, hv => hv
 | .tuple vs, _, ⟨ws, e, hv⟩ => ⟨ws, e, RelL.mono hb h vs ws hv⟩
 | .nilif, _, hv => hv
 | .iface _ x, _, ⟨y, e, hv⟩ => ⟨y, e, RelV.mono hb h x y hv⟩
 | .yld r, _, ⟨b, e, hv⟩ => ⟨b, (h.obj r (hb.obj r b e)).trans e, hv⟩
theorem RelL.mono (hb : γ.Bd n) (h : G.le n γ γ') : ∀ (xs : List V) (l : List Value), RelL γ xs l → RelL γ' xs l
 | [], _, hv => hv
 | c :: cs, _, ⟨v, l', e, h1, h2⟩ => ⟨v, l', e, RelV.mono hb h c v h1, RelL.mono hb h cs l' h2⟩
theorem RelE.mono (hb : γ.Bd n) (h : G.le n γ γ') : ∀ (s : Nat) (xs : List V) (l : List Value), RelE γ s xs l → RelE γ' s xs l
 | _, [], _, hv => hv
 | s, x :: xs, _, ⟨v, l', e, h0, h1, h2⟩ => ⟨v, l', e, h0, RelV.mono hb h x v h1, RelE.mono hb h s xs l' h2⟩
end
mutual
def V.bel (m : Nat) : V → Bool
 | .agg cs => V.belL m cs
 | .ptr r _ => decide (r < m)
 | .cptr cs => V.belL m cs
 | .sl _ _ xs => V.belL m xs
 | .buf _ r _ _ => decide (r < m)
 | .slr r _ _ _ => decide (r < m)
 | .vptr r _ => decide (r < m)
 | .map r => decide (r < m)
 | .fn _ a b => V.belL m a && V.belL m b
 | .tuple vs => V.belL m vs
 | .iface _ x => V.bel m x
 | .yld r => decide (r < m)
 | _ => true
def V.belL (m : Nat) : List V → Bool
 | [] => true
 | x :: xs => V.bel m x && V.belL m xs
end
def G.cut (γ : G) (m : Nat) (ds : List Nat) : G :=
 ⟨fun r => if r < m then γ.obj r else none, fun b => match γ.own b with | some r => if r < m then some r else none | none => none, γ.con, fun r => γ.kn r && decide (r < m), fun b => γ.dfr b && !ds.contains b, γ.vb, γ.tk⟩
theorem G.cut_obj {r b m : Nat} (h : γ.obj r = some b) (hr : r < m) : (γ.cut m ds).obj r = some b := by simp [G.cut, hr, h]
theorem G.cut_own {r b m : Nat} (h : γ.own b = some r) (hr : r < m) : (γ.cut m ds).own b = some r := by simp [G.cut, hr, h]
mutual
theorem RelV.cut (m : Nat) : ∀ (x : V) (v : Value), x.bel m = true → RelV γ x v → RelV (γ.cut m ds) x v
 | .bool _, _, _, hv => hv
 | .int _ _, _, _, hv => hv
 | .str _, _, _, hv => hv
 | .agg cs, _, hm, ⟨vs, e, hv⟩ => ⟨vs, e, RelL.cut m cs vs hm hv⟩
 | .nilptr, _, _, hv => hv
 | .ptr r _, _, hm, ⟨b, e, hv⟩ => ⟨b, G.cut_obj e (by simpa [V.bel] using hm), hv⟩
 | .cptr cells, _, hm, ⟨b, pre, l, post, sz, hc, hl, hv⟩ => ⟨b, pre, l, post, sz, hc, RelL.cut m cells l hm hl, hv⟩
 | .nilsl, _, _, hv => hv
 | .sl s full xs, _, hm, ⟨b, pre, l, post, sz, cap, hc, hl, hv⟩ => ⟨b, pre, l, post, sz, cap, hc, RelE.cut m s xs l hm hl, hv⟩
 | .buf np r s k, _, hm, .inl ⟨b, ho, c, sz, cap, hc, hv⟩ => .inl ⟨b, G.cut_own ho (by simpa [V.bel] using hm), c, sz, cap, hc, hv⟩
 | .buf _ r _ _, _, hm, .inr ⟨⟨h1, h2⟩, hv⟩ => .inr ⟨⟨by simp only [V.bel, decide_eq_true_eq] at hm; simp [G.cut, h1, hm], h2⟩, hv⟩
 | .slr r _ _ _, _, hm, ⟨b, a, e, hv⟩ => ⟨b, a, G.cut_obj e (by simpa [V.bel] using hm), hv⟩
 | .vptr r _, _, hm, ⟨b, e, hv⟩ => ⟨b, G.cut_obj e (by simpa [V.bel] using hm), hv⟩
 | .slz, _, _, hv => hv
 | .nilmap, _, _, hv => hv
 | .map r, _, hm, ⟨b, e, hv⟩ => ⟨b, G.cut_obj e (by simpa [V.bel] using hm), hv⟩
 | .fn _ first cap, _, hm, ⟨fs, cs, e, h1, h2⟩ => by
  simp only [V.bel, Bool.and_eq_true] at hm
  exact ⟨fs, cs, e, RelL.cut m first fs hm.1 h1, RelL.cut m cap cs hm.2 h2⟩
 | .nilfn, _, _, hv => hv
 | .tuple vs, _, hm, ⟨ws, e, hv⟩ => ⟨ws, e, RelL.cut m vs ws hm hv⟩
 | .nilif, _, _, hv => hv
 | .iface _ x, _, hm, ⟨y, e, hv⟩ => ⟨y, e, RelV.cut m x y hm hv⟩
 | .yld r, _, hm, ⟨b, e, hv⟩ => ⟨b, G.cut_obj e (by simpa [V.bel] using hm), hv⟩
theorem RelL.cut (m : Nat) : ∀ (xs : List V) (l : List Value), V.belL m xs = true → RelL γ xs l → RelL (γ.cut m ds) xs l
 | [], _, _, hv => hv
 | c :: cs, _, hm, ⟨v, l', e, h1, h2⟩ => by
  simp only [V.belL, Bool.and_eq_true] at hm
  exact ⟨v, l', e, RelV.cut m c v hm.1 h1, RelL.cut m cs l' hm.2 h2⟩
theorem RelE.cut (m : Nat) : ∀ (s : Nat) (xs : List V) (l : List Value), V.belL m xs = true → RelE γ s xs l → RelE (γ.cut m ds) s xs l
 | _, [], _, _, hv => hv
 | s, x :: xs, _, hm, ⟨v, l', e, h0, h1, h2⟩ => by
  simp only [V.belL, Bool.and_eq_true] at hm
  exact ⟨v, l', e, h0, RelV.cut m x v hm.1 h1, RelE.cut m s xs l' hm.2 h2⟩
end
end
inductive AObj where
 | row (cells : List V)
 | map (es : List (V × V × Nat)) (clock : Nat)
 | buf (np : Bool) (s : Nat) (xs : List V)
 | iter (m : Option Nat) (since : Nat) (seen : List Nat) (last : Nat)
 | loop (st : LoopState) (pend : Option Code)
 | vec (s : Nat) (cells : List V)
 deriving Inhabited
structure AW where
 get : Nat → Option AObj
 nx : Nat
def AW.alloc (W : AW) (o : AObj) : AW := ⟨fun r => if r = W.nx then some o else W.get r, W.nx + 1⟩
def AW.put (W : AW) (r : Nat) (o : AObj) : AW := ⟨fun x => if x = r then some o else W.get x, W.nx⟩
def AW.move (W : AW) (r : Nat) (o : AObj) : AW := ⟨fun x => if x = W.nx then some o else if x = r then none else W.get x, W.nx + 1⟩
def AW.drop (W : AW) (r : Nat) : AW := ⟨fun x => if x = r then none else W.get x, W.nx⟩
def RelEs (γ : G) : List (V × V × Nat) → List MapEntry → Prop
 | [], l => l = []
 | (k, v, n) :: es, l => ∃ e l', l = e :: l' ∧ RelV γ k e.key ∧ RelV γ v e.val ∧ e.born = n ∧ RelEs γ es l'
def RelObj (γ : G) (w : World) (r : Nat) : AObj → Prop
 | .row cells => ∃ b c e, γ.obj r = some b ∧ w.heap[b]? = some (.cells (List.toArray c) e (0, 0)) ∧ RelL γ cells c
 | .map es clock => ∃ b mes, γ.obj r = some b ∧ w.heap[b]? = some (.map (List.toArray mes) clock) ∧ RelEs γ es mes
 | .iter m since seen last => ∃ b mb, γ.obj r = some b ∧ w.heap[b]? = some (.mapIter mb since seen.toArray last) ∧
   ((m = none ∧ mb = none) ∨ ∃ r' b', m = some r' ∧ mb = some b' ∧ γ.obj r' = some b')
 | .loop st pend => ∃ b, γ.obj r = some b ∧ w.heap[b]? = some (.loop { γ.tk r with state := st, pending := pend })
 | .vec s cells => ∃ b pre c t e, γ.obj r = some b ∧ w.heap[b]? = some (.cells (List.toArray (pre ++ c ++ t)) e (0, 0)) ∧ pre.length = (γ.vb r).1 ∧ RelL γ cells c ∧ (c ++ t).length = (γ.vb r).2 * s
 | .buf np s xs => 0 < s ∧ ∃ cur : Option Nat,
   (∀ b, γ.own b = some r → ∃ c sz k, γ.con b = some (c, sz) ∧ c.length = k * s ∧ k ≤ xs.length ∧ RelE γ s (xs.take k) c ∧ (cur ≠ some b → k < xs.length) ∧ (cur = some b → k = xs.length)) ∧
   (∀ b, cur = some b → γ.own b = some r) ∧ (cur = none → xs = [] ∧ np = true) ∧ (np = true → xs = [] → ∀ b, γ.own b ≠ some r)
def AObj.bel (m : Nat) : AObj → Bool
 | .row cells => V.belL m cells
 | .map es _ => es.all fun e => e.1.bel m && e.2.1.bel m
 | .iter (some r) _ _ _ => decide (r < m)
 | .iter none _ _ _ => true
 | .buf _ _ xs => V.belL m xs
 | .loop _ _ => true
 | .vec _ cells => V.belL m cells
structure Below (B : Nat) (w w' : World) : Prop where
 row : RowKit.Below B w w'
 drawn : w.drawn ≤ w'.drawn
theorem Below.refl (B : Nat) (w : World) : Below B w w := ⟨.refl _ _, lr _⟩
theorem Below.trans {B : Nat} {a b c : World} (h : Below B a b) (k : Below B b c) : Below B a c := ⟨h.row.trans k.row, Nat.le_trans h.drawn k.drawn⟩
theorem Below.drew {B : Nat} {a w : World} (h : Below B a w) : Below B a w.drew := ⟨h.row.drew, Nat.le_succ_of_le h.drawn⟩
theorem Below.alloc {B : Nat} {a w : World} (h : Below B a w) (hB : B ≤ w.heap.size) (o : Obj) : Below B a (w.alloc o) := ⟨h.row.alloc hB o, h.drawn⟩
structure Env where
 P : Program
 B : Nat
 w0 : World
 glob : Nat → Option (List V)
 globOk : ∀ g cells m, glob g = some cells → V.belL m cells = true
 γ0 : G
 n0 : Nat
 yield : Nat → List V → AW → (V → AW → Prop) → Prop
 yieldMono : ∀ r vs W (K K' : V → AW → Prop), (∀ v W', K v W' → K' v W') → yield r vs W K → yield r vs W K'
structure RelW (E : Env) (γ : G) (w : World) (W : AW) : Prop where
 below : Below E.B E.w0 w
 base : E.B ≤ w.heap.size
 con : ∀ b c sz, γ.con b = some (c, sz) → ∃ t e fz, w.heap[b]? = some (.cells (List.toArray (c ++ t)) e fz) ∧ (c ++ t).length = sz
 own : ∀ b r, γ.own b = some r → (∃ c sz, γ.con b = some (c, sz)) ∧ E.B ≤ b ∧ ∃ a e, w.heap[b]? = some (.cells a e (0, 0))
 obj : ∀ r o, W.get r = some o → RelObj γ w r o
 bd : γ.Bd W.nx
 lt : ∀ r o, W.get r = some o → r < W.nx
 inj : ∀ r r' o o' b, W.get r = some o → W.get r' = some o' → γ.obj r = some b → γ.obj r' = some b → r = r'
 apart : ∀ r o b, W.get r = some o → γ.obj r = some b → E.B ≤ b ∧ b < w.heap.size ∧ γ.con b = none
 glob : ∀ g cells, E.glob g = some cells → RelV γ (.cptr cells) (.pointer (some ⟨g, 0, none⟩))
 dfr : ∀ b, γ.dfr b = true → w.heap[b]? = some (.deferred (some []))
 dfrB : ∀ b, γ.dfr b = true → E.B ≤ b
 ext : G.le E.n0 E.γ0 γ
 n0 : E.n0 ≤ W.nx
end Go.AL
namespace Go.AL
open RowKit
variable {E : Env} {γ γ' : G} {w w' : World} {W : AW}
theorem RelEs.mono {n : Nat} (hb : γ.Bd n) (h : G.le n γ γ') : ∀ (es : List (V × V × Nat)) (l : List MapEntry), RelEs γ es l → RelEs γ' es l
 | [], _, hv => hv
 | (_, _, _) :: es, _, ⟨e, l', h0, h1, h2, h3, h4⟩ => ⟨e, l', h0, RelV.mono hb h _ _ h1, RelV.mono hb h _ _ h2, h3, RelEs.mono hb h es l' h4⟩
theorem RelObj.frame {r n : Nat} {o : AObj} (h : RelObj γ w r o) (hle : G.le n γ γ') (hbd : γ.Bd n) (hr : r < n)
  (hheap : ∀ b, γ.obj r = some b → w'.heap[b]? = w.heap[b]?) (hown : ∀ b, γ'.own b = some r → γ.own b = some r)
  (hcon : ∀ b, γ.own b = some r → γ'.con b = γ.con b) : RelObj γ' w' r o := by
 cases o with
 | row cells =>
  obtain ⟨b, c, e, ho, hh, hl⟩ := h
  exact ⟨b, c, e, (hle.obj r hr).trans ho, (hheap b ho).trans hh, RelL.mono hbd hle _ _ hl⟩
 | map es clock =>
  obtain ⟨b, mes, ho, hh, hl⟩ := h
  exact ⟨b, mes, (hle.obj r hr).trans ho, (hheap b ho).trans hh, RelEs.mono hbd hle _ _ hl⟩
 | iter m since seen last =>
  obtain ⟨b, mb, ho, hh, hm⟩ := h
  refine ⟨b, mb, (hle.obj r hr).trans ho, (hheap b ho).trans hh, ?_⟩
  rcases hm with hm | ⟨r', b', h1, h2, h3⟩
  ·exact .inl hm
  ·exact .inr ⟨r', b', h1, h2, (hle.obj r' (hbd.obj r' b' h3)).trans h3⟩
 | loop st pend =>
  obtain ⟨b, ho, hh⟩ := h
  exact ⟨b, (hle.obj r hr).trans ho, by rw [hle.tk r hr]; exact (hheap b ho).trans hh⟩
 | vec s cells =>
  obtain ⟨b, pre, c, t, e, ho, hh, hp, hl, hz⟩ := h
  exact ⟨b, pre, c, t, e, (hle.obj r hr).trans ho, (hheap b ho).trans hh, by rw [hle.vb r hr]; exact hp, RelL.mono hbd hle _ _ hl, by rw [hle.vb r hr]; exact hz⟩
 | buf np s xs =>
  obtain ⟨hs, cur, h1, h2, h3, h4⟩ := h
  refine ⟨hs, cur, ?_, fun b hb => hle.own b r (h2 b hb) hr, h3, fun a b c hc => h4 a b c (hown c hc)⟩
  intro b hb
  obtain ⟨c, sz, k, g1, g2, g3, g4, g5⟩ := h1 b (hown b hb)
  exact ⟨c, sz, k, (hcon b (hown b hb)).trans g1, g2, g3, RelE.mono hbd hle _ _ _ g4, g5⟩
theorem heap_alloc_new (w : World) (o : Obj) : (w.alloc o).heap[w.heap.size]? = some o := by
 show (w.heap.push o)[w.heap.size]? = _
 simp
theorem con_lt (h : RelW E γ w W) {b : Nat} {x : List Value × Nat} (hc : γ.con b = some x) : b < w.heap.size := by
 obtain ⟨t, e, fz, h1, _⟩ := h.con b x.1 x.2 hc
 exact (Array.getElem?_eq_some_iff.1 h1).1
theorem con_new (h : RelW E γ w W) : γ.con w.heap.size = none := by
 cases hc : γ.con w.heap.size with
 | none => rfl
 | some x => exact absurd (con_lt h hc) (by omega)
theorem own_lt (h : RelW E γ w W) {b r : Nat} (hc : γ.own b = some r) : b < w.heap.size := by
 obtain ⟨⟨c, sz, hcon⟩, _⟩ := h.own b r hc
 exact con_lt h hcon
theorem own_new (h : RelW E γ w W) : γ.own w.heap.size = none := by
 cases hc : γ.own w.heap.size with
 | none => rfl
 | some x => exact absurd (own_lt h hc) (by omega)
theorem dfr_lt (h : RelW E γ w W) {b : Nat} (hc : γ.dfr b = true) : b < w.heap.size :=
 (Array.getElem?_eq_some_iff.1 (h.dfr b hc)).1
theorem RelW.grow (h : RelW E γ w W) (hb : Below E.B w w') (hs : ∀ b, b < w.heap.size → w'.heap[b]? = w.heap[b]?) (hz : w.heap.size ≤ w'.heap.size) : RelW E γ w' W where
 below := h.below.trans hb
 base := Nat.le_trans h.base hz
 con b c sz hc := by
  obtain ⟨t, e, fz, h1, h2⟩ := h.con b c sz hc
  exact ⟨t, e, fz, (hs b (con_lt h hc)).trans h1, h2⟩
 own b r hc := by
  obtain ⟨h1, h2, a, e, h3⟩ := h.own b r hc
  exact ⟨h1, h2, a, e, (hs b (own_lt h hc)).trans h3⟩
 obj r o ho := (h.obj r o ho).frame (G.le.refl _ _) h.bd (h.lt r o ho) (fun b hob => hs b (h.apart r o b ho hob).2.1) (fun _ h => h) (fun _ _ => rfl)
 bd := h.bd
 lt := h.lt
 inj := h.inj
 apart r o b ho hb := by
  obtain ⟨h1, h2, h3⟩ := h.apart r o b ho hb
  exact ⟨h1, by omega, h3⟩
 glob := h.glob
 dfr b hb := (hs b (dfr_lt h hb)).trans (h.dfr b hb)
 dfrB := h.dfrB
 ext := h.ext
 n0 := h.n0
theorem RelW.drew (h : RelW E γ w W) : RelW E γ w.drew W :=
 h.grow (Below.refl _ _).drew (fun _ _ => rfl) (lr _)
theorem RelW.junk (h : RelW E γ w W) (o : Obj) : RelW E γ (w.alloc o) W :=
 h.grow ((Below.refl _ _).alloc h.base o) (fun b hb => Below.heap_alloc w o b hb) (by simp)
def G.addCon (γ : G) (b : Nat) (l : List Value) (z : Nat) : G := ⟨γ.obj, γ.own, fun x => if x = b then some (l, z) else γ.con x, γ.kn, γ.dfr, γ.vb, γ.tk⟩
theorem G.le_addCon {n b : Nat} {l : List Value} {z : Nat} (h : γ.con b = none) : G.le n γ (γ.addCon b l z) where
 obj _ _ := rfl
 own _ _ h _ := h
 con x c s hx := ⟨[], by
  have : x ≠ b := fun e => by rw [e, h] at hx; cases hx
  simp [G.addCon, this, hx]⟩
 kn _ h _ := h
 dfr _ h := h
 vb _ _ := rfl
 tk _ _ := rfl
theorem RelW.newCon (h : RelW E γ w W) (l : List Value) (e : TypeId) :
  RelW E (γ.addCon w.heap.size l l.length) (w.alloc (.cells l.toArray e (0, 0))) W ∧ G.le W.nx γ (γ.addCon w.heap.size l l.length) := by
 have hle : G.le W.nx γ (γ.addCon w.heap.size l l.length) := G.le_addCon (con_new h)
 refine ⟨?_, hle⟩
 have h' := h.junk (.cells l.toArray e (0, 0))
 exact {
  below := h'.below
  base := h'.base
  con := fun b c sz hc => by
   by_cases hb : b = w.heap.size
   ·subst hb
    simp only [G.addCon, if_true, Option.some.injEq, Prod.mk.injEq] at hc
    obtain ⟨rfl, rfl⟩ := hc
    exact ⟨[], e, (0, 0), by rw [heap_alloc_new]; simp, by simp⟩
   ·simp only [G.addCon, hb, if_false] at hc
    exact h'.con b c sz hc
  own := fun b r ho => by
   obtain ⟨⟨c, sz, h1⟩, h2⟩ := h'.own b r ho
   obtain ⟨t, ht⟩ := hle.con b c sz h1
   exact ⟨⟨_, sz, ht⟩, h2⟩
  obj := fun r o ho => (h'.obj r o ho).frame hle h.bd (h.lt r o ho) (fun _ _ => rfl) (fun _ h => h) (fun b hb => by
   have : b ≠ w.heap.size := fun e => by rw [e, own_new h] at hb; cases hb
   simp [G.addCon, this])
  bd := ⟨h.bd.obj, h.bd.own, h.bd.kn⟩
  lt := h.lt
  inj := h.inj
  apart := fun r o b ho hb => by
   obtain ⟨h1, h2, h3⟩ := h.apart r o b ho hb
   refine ⟨h1, by simp; omega, ?_⟩
   have : b ≠ w.heap.size := by omega
   simp [G.addCon, this, h3]
  glob := fun g cells hg => RelV.mono h.bd hle _ _ (h.glob g cells hg)
  dfr := h'.dfr
  dfrB := h.dfrB
  ext := h.ext.trans hle h.n0
  n0 := h.n0 }
def G.addObj (γ : G) (r b : Nat) (p : Nat × Nat := (0, 0)) (q : Loop := default) : G := ⟨fun x => if x = r then some b else γ.obj x, γ.own, γ.con, γ.kn, γ.dfr, fun x => if x = r then p else γ.vb x, fun x => if x = r then q else γ.tk x⟩
theorem G.le_addObj {n b : Nat} {p : Nat × Nat} {q : Loop} : G.le n γ (γ.addObj n b p q) where
 obj r hr := by simp only [G.addObj]; rw [if_neg (by omega)]
 own _ _ h _ := h
 con _ _ _ hx := ⟨[], by rw [apn]; exact hx⟩
 kn _ h _ := h
 dfr _ h := h
 vb r hr := by simp only [G.addObj]; rw [if_neg (by omega)]
 tk r hr := by simp only [G.addObj]; rw [if_neg (by omega)]
theorem RelW.newObj' (h : RelW E γ w W) (o : Obj) (ao : AObj) {p : Nat × Nat} {q : Loop} (hao : RelObj (γ.addObj W.nx w.heap.size p q) (w.alloc o) W.nx ao) :
  RelW E (γ.addObj W.nx w.heap.size p q) (w.alloc o) (W.alloc ao) ∧ G.le W.nx γ (γ.addObj W.nx w.heap.size p q) := by
 have hle : G.le W.nx γ (γ.addObj W.nx w.heap.size p q) := G.le_addObj
 refine ⟨?_, hle⟩
 have h' := h.junk o
 exact {
  below := h'.below
  base := h'.base
  con := h'.con
  own := h'.own
  obj := fun r x ho => by
   by_cases hr : r = W.nx
   ·subst hr
    simp only [AW.alloc, if_true, Option.some.injEq] at ho
    exact ho ▸ hao
   ·simp only [AW.alloc, hr, if_false] at ho
    exact (h'.obj r x ho).frame hle h.bd (h.lt r x ho) (fun _ _ => rfl) (fun _ h => h) (fun _ _ => rfl)
  bd := ⟨fun r b hb => by
    by_cases hr : r = W.nx
    ·subst hr; simp [AW.alloc]
    ·simp only [G.addObj, hr, if_false] at hb
     have := h.bd.obj r b hb
     simp only [AW.alloc]; omega,
   fun b r hb => by have := h.bd.own b r hb; simp only [AW.alloc]; omega,
   fun r hr => by have := h.bd.kn r hr; simp only [AW.alloc]; omega⟩
  lt := fun r x ho => by
   by_cases hr : r = W.nx
   ·subst hr; simp [AW.alloc]
   ·simp only [AW.alloc, hr, if_false] at ho
    have := h.lt r x ho
    simp only [AW.alloc]; omega
  inj := fun r r' x x' b ho ho' hb hb' => by
   simp only [AW.alloc] at ho ho'
   simp only [G.addObj] at hb hb'
   by_cases hr : r = W.nx <;> by_cases hr' : r' = W.nx
   ·omega
   ·simp only [hr, if_true, Option.some.injEq] at hb
    simp only [hr', if_false] at ho' hb'
    have := (h.apart r' x' b ho' hb').2.1
    omega
   ·simp only [hr', if_true, Option.some.injEq] at hb'
    simp only [hr, if_false] at ho hb
    have := (h.apart r x b ho hb).2.1
    omega
   ·simp only [hr, hr', if_false] at *
    exact h.inj r r' x x' b ho ho' hb hb'
  apart := fun r x b ho hb => by
   simp only [AW.alloc] at ho
   simp only [G.addObj] at hb
   by_cases hr : r = W.nx
   ·simp only [hr, if_true, Option.some.injEq] at hb
    subst hb
    exact ⟨h.base, by simp, (show γ.con w.heap.size = none from con_new h)⟩
   ·simp only [hr, if_false] at ho hb
    obtain ⟨h1, h2, h3⟩ := h.apart r x b ho hb
    exact ⟨h1, by simp; omega, h3⟩
  glob := fun g cells hg => RelV.mono h.bd hle _ _ (h.glob g cells hg)
  dfr := h'.dfr
  dfrB := h.dfrB
  ext := h.ext.trans hle h.n0
  n0 := by have := h.n0; simp only [AW.alloc]; omega }
theorem RelW.newVec (h : RelW E γ w W) {cells : List V} {l t : List Value} {s cap : Nat} (hl : RelL γ cells l) (hz : (l ++ t).length = cap * s) (e : TypeId) :
  RelW E (γ.addObj W.nx w.heap.size (0, cap)) (w.alloc (.cells (l ++ t).toArray e (0, 0))) (W.alloc (.vec s cells)) ∧ G.le W.nx γ (γ.addObj W.nx w.heap.size (0, cap)) :=
 h.newObj' _ _ ⟨w.heap.size, [], l, t, e, by simp [G.addObj], heap_alloc_new _ _, by simp [G.addObj], RelL.mono h.bd G.le_addObj _ _ hl, by simpa [G.addObj] using hz⟩
theorem RelW.moveObj (h : RelW E γ w W) {r b : Nat} {o ao : AObj} {p : Nat × Nat} (hr : W.get r = some o) (hb : γ.obj r = some b) (hnd : w.heap[b]? ≠ some (.deferred (some [])))
  (hbelow : Below E.B w w') (hsz : w'.heap.size = w.heap.size) (hheap : ∀ k, k ≠ b → w'.heap[k]? = w.heap[k]?) (hao : RelObj (γ.addObj W.nx b p) w' W.nx ao) :
  RelW E (γ.addObj W.nx b p) w' (W.move r ao) ∧ G.le W.nx γ (γ.addObj W.nx b p) := by
 have hle : G.le W.nx γ (γ.addObj W.nx b p) := G.le_addObj
 obtain ⟨hB, hlt, hcn⟩ := h.apart r o b hr hb
 have get' : ∀ r' x, r' ≠ W.nx → (W.move r ao).get r' = some x → W.get r' = some x ∧ r' ≠ r := fun r' x hr' hx => by
  simp only [AW.move, hr', if_false] at hx
  by_cases hrr : r' = r
  ·simp [hrr] at hx
  ·simp only [hrr, if_false] at hx; exact ⟨hx, hrr⟩
 refine ⟨?_, hle⟩
 exact {
  below := h.below.trans hbelow
  base := by rw [hsz]; exact h.base
  con := fun k c sz hc => by
   have : k ≠ b := fun e => by rw [e] at hc; exact absurd (hcn.symm.trans hc) (by simp)
   rw [hheap k this]; exact h.con k c sz hc
  own := fun k r' hk => by
   obtain ⟨⟨c, sz, h1⟩, h2⟩ := h.own k r' hk
   have : k ≠ b := fun e => by rw [e, hcn] at h1; cases h1
   rw [hheap k this]; exact ⟨⟨c, sz, h1⟩, h2⟩
  obj := fun r' x hx => by
   by_cases hr' : r' = W.nx
   ·subst hr'
    simp only [AW.move, if_true, Option.some.injEq] at hx
    exact hx ▸ hao
   ·obtain ⟨hx', hrr⟩ := get' r' x hr' hx
    refine (h.obj r' x hx').frame hle h.bd (h.lt r' x hx') (fun k hk => hheap k (fun e => hrr ?_)) (fun _ h => h) (fun _ _ => rfl)
    subst e
    exact h.inj r' r x o k hx' hr hk hb
  bd := ⟨fun r' b' hb' => by
    by_cases hr' : r' = W.nx
    ·subst hr'; simp [AW.move]
    ·simp only [G.addObj, hr', if_false] at hb'
     have := h.bd.obj r' b' hb'
     simp only [AW.move]; omega,
   fun b r hb => by have := h.bd.own b r hb; simp only [AW.move]; omega,
   fun r hr => by have := h.bd.kn r hr; simp only [AW.move]; omega⟩
  lt := fun r' x hx => by
   by_cases hr' : r' = W.nx
   ·subst hr'; simp [AW.move]
   ·have := h.lt r' x (get' r' x hr' hx).1
    simp only [AW.move]; omega
  inj := fun r1 r2 x1 x2 k h1 h2 g1 g2 => by
   simp only [G.addObj] at g1 g2
   by_cases e1 : r1 = W.nx <;> by_cases e2 : r2 = W.nx
   ·omega
   ·obtain ⟨h2', n2⟩ := get' r2 x2 e2 h2
    simp only [e1, if_true, Option.some.injEq] at g1
    simp only [e2, if_false] at g2
    subst g1
    exact absurd (h.inj r2 r x2 o _ h2' hr g2 hb) n2
   ·obtain ⟨h1', n1⟩ := get' r1 x1 e1 h1
    simp only [e2, if_true, Option.some.injEq] at g2
    simp only [e1, if_false] at g1
    subst g2
    exact absurd (h.inj r1 r x1 o _ h1' hr g1 hb) n1
   ·simp only [e1, e2, if_false] at g1 g2
    exact h.inj r1 r2 x1 x2 k (get' r1 x1 e1 h1).1 (get' r2 x2 e2 h2).1 g1 g2
  apart := fun r' x k hx hk => by
   simp only [G.addObj] at hk
   rw [hsz]
   by_cases hr' : r' = W.nx
   ·simp only [hr', if_true, Option.some.injEq] at hk
    subst hk
    exact ⟨hB, hlt, hcn⟩
   ·simp only [hr', if_false] at hk
    exact h.apart r' x k (get' r' x hr' hx).1 hk
  glob := fun g cells hg => RelV.mono h.bd hle _ _ (h.glob g cells hg)
  dfr := fun k hk => by
   have : k ≠ b := fun e => hnd (e ▸ h.dfr k hk)
   rw [hheap k this]; exact h.dfr k hk
  dfrB := h.dfrB
  ext := h.ext.trans hle h.n0
  n0 := by have := h.n0; simp only [AW.move]; omega }
theorem RelW.newObj (h : RelW E γ w W) (o : Obj) (ao : AObj) (hao : RelObj (γ.addObj W.nx w.heap.size) (w.alloc o) W.nx ao) :
  RelW E (γ.addObj W.nx w.heap.size) (w.alloc o) (W.alloc ao) ∧ G.le W.nx γ (γ.addObj W.nx w.heap.size) := h.newObj' o ao hao
theorem RelW.newRow (h : RelW E γ w W) {cells : List V} {l : List Value} (hl : RelL γ cells l) (e : TypeId) :
  RelW E (γ.addObj W.nx w.heap.size) (w.alloc (.cells l.toArray e (0, 0))) (W.alloc (.row cells)) ∧ G.le W.nx γ (γ.addObj W.nx w.heap.size) :=
 h.newObj _ _ ⟨w.heap.size, l, e, by simp [G.addObj], heap_alloc_new _ _, RelL.mono h.bd G.le_addObj _ _ hl⟩
theorem RelW.setObj (h : RelW E γ w W) {r b : Nat} {o o' : AObj} (hr : W.get r = some o) (hb : γ.obj r = some b) (hnd : w.heap[b]? ≠ some (.deferred (some [])))
  (hbelow : Below E.B w w') (hsz : w'.heap.size = w.heap.size) (hheap : ∀ k, k ≠ b → w'.heap[k]? = w.heap[k]?) (ho' : RelObj γ w' r o') : RelW E γ w' (W.put r o') := by
 obtain ⟨hB, hlt, hcn⟩ := h.apart r o b hr hb
 exact {
  below := h.below.trans hbelow
  base := by rw [hsz]; exact h.base
  con := fun k c sz hc => by
   have : k ≠ b := fun e => by rw [e, hcn] at hc; cases hc
   rw [hheap k this]; exact h.con k c sz hc
  own := fun k r' hk => by
   obtain ⟨⟨c, sz, h1⟩, h2⟩ := h.own k r' hk
   have : k ≠ b := fun e => by rw [e, hcn] at h1; cases h1
   rw [hheap k this]; exact ⟨⟨c, sz, h1⟩, h2⟩
  obj := fun r' x hx => by
   by_cases hrr : r' = r
   ·subst hrr
    simp only [AW.put, if_true, Option.some.injEq] at hx
    exact hx ▸ ho'
   ·simp only [AW.put, hrr, if_false] at hx
    refine (h.obj r' x hx).frame (G.le.refl _ _) h.bd (h.lt r' x hx) (fun k hk => hheap k (fun e => hrr ?_)) (fun _ h => h) (fun _ _ => rfl)
    subst e
    exact h.inj r' r x o k hx hr hk hb
  bd := h.bd
  lt := fun r' x hx => by
   by_cases hrr : r' = r
   ·subst hrr; exact h.lt r' o hr
   ·simp only [AW.put, hrr, if_false] at hx; exact h.lt r' x hx
  inj := fun r1 r2 x1 x2 k h1 h2 g1 g2 => by
   have q : ∀ r' x, (W.put r o').get r' = some x → ∃ y, W.get r' = some y := fun r' x hx => by
    by_cases hrr : r' = r
    ·subst hrr; exact ⟨o, hr⟩
    ·simp only [AW.put, hrr, if_false] at hx; exact ⟨x, hx⟩
   obtain ⟨y1, e1⟩ := q r1 x1 h1
   obtain ⟨y2, e2⟩ := q r2 x2 h2
   exact h.inj r1 r2 y1 y2 k e1 e2 g1 g2
  apart := fun r' x k hx hk => by
   have : ∃ y, W.get r' = some y := by
    by_cases hrr : r' = r
    ·subst hrr; exact ⟨o, hr⟩
    ·simp only [AW.put, hrr, if_false] at hx; exact ⟨x, hx⟩
   obtain ⟨y, hy⟩ := this
   rw [hsz]; exact h.apart r' y k hy hk
  glob := h.glob
  dfr := fun k hk => by
   have : k ≠ b := fun e => hnd (e ▸ h.dfr k hk)
   rw [hheap k this]; exact h.dfr k hk
  dfrB := h.dfrB
  ext := h.ext
  n0 := h.n0 }
theorem RelW.forget {ao : AObj} (h : RelW E γ w (W.alloc ao)) (r : Nat) (_ : r < W.nx) : RelW E γ w (W.move r ao) := by
 have g : ∀ x o, (W.move r ao).get x = some o → (W.alloc ao).get x = some o := fun x o hx => by
  simp only [AW.move] at hx
  simp only [AW.alloc]
  by_cases h1 : x = W.nx
  ·simpa [h1] using hx
  ·simp only [h1, if_false] at hx ⊢
   by_cases h2 : x = r
   ·simp [h2] at hx
   ·simpa [h2] using hx
 exact { h with
  obj := fun x o hx => h.obj x o (g x o hx)
  bd := h.bd
  lt := fun x o hx => h.lt x o (g x o hx)
  inj := fun r1 r2 o1 o2 b h1 h2 => h.inj r1 r2 o1 o2 b (g _ _ h1) (g _ _ h2)
  apart := fun x o b hx => h.apart x o b (g x o hx)
  n0 := h.n0 }
theorem RelW.freeze (h : RelW E γ w W) {r b s : Nat} {cells : List V} {l t : List Value} {e : TypeId} (hr : W.get r = some (.vec s cells)) (hb : γ.obj r = some b) (hheap : w.heap[b]? = some (.cells (List.toArray (l ++ t)) e (0, 0))) :
  RelW E (γ.addCon b l (l ++ t).length) w (W.drop r) ∧ G.le W.nx γ (γ.addCon b l (l ++ t).length) := by
 obtain ⟨hB, hlt, hcn⟩ := h.apart r _ b hr hb
 have hle : G.le W.nx γ (γ.addCon b l (l ++ t).length) := G.le_addCon hcn
 have get' : ∀ r' x, (W.drop r).get r' = some x → W.get r' = some x ∧ r' ≠ r := fun r' x hx => by
  simp only [AW.drop] at hx
  by_cases hrr : r' = r
  ·simp [hrr] at hx
  ·simp only [hrr, if_false] at hx; exact ⟨hx, hrr⟩
 have other : ∀ r' x b', (W.drop r).get r' = some x → γ.obj r' = some b' → b' ≠ b := fun r' x b' hx hb' e => by
  obtain ⟨h1, h2⟩ := get' r' x hx
  exact h2 (h.inj r' r x _ b' h1 hr hb' (e ▸ hb))
 refine ⟨?_, hle⟩
 exact {
  below := h.below
  base := h.base
  con := fun x c sz hc => by
   by_cases hx : x = b
   ·subst hx
    simp only [G.addCon, if_true, Option.some.injEq, Prod.mk.injEq] at hc
    obtain ⟨rfl, rfl⟩ := hc
    exact ⟨t, e, (0, 0), hheap, rfl⟩
   ·simp only [G.addCon, hx, if_false] at hc
    exact h.con x c sz hc
  own := fun x r' ho => by
   obtain ⟨⟨c, sz, h1⟩, h2⟩ := h.own x r' ho
   obtain ⟨t', ht⟩ := hle.con x c sz h1
   exact ⟨⟨_, sz, ht⟩, h2⟩
  obj := fun r' x hx => (h.obj r' x (get' r' x hx).1).frame hle h.bd (h.lt r' x (get' r' x hx).1) (fun _ _ => rfl) (fun _ h => h) (fun x hx' => by
   have : x ≠ b := fun e => by
    obtain ⟨⟨c, sz, h1⟩, _⟩ := h.own x r' hx'
    rw [e, hcn] at h1; cases h1
   simp [G.addCon, this])
  bd := ⟨h.bd.obj, h.bd.own, h.bd.kn⟩
  lt := fun r' x hx => h.lt r' x (get' r' x hx).1
  inj := fun r1 r2 x1 x2 k h1 h2 => h.inj r1 r2 x1 x2 k (get' r1 x1 h1).1 (get' r2 x2 h2).1
  apart := fun r' x k hx hk => by
   obtain ⟨h1, h2, h3⟩ := h.apart r' x k (get' r' x hx).1 hk
   refine ⟨h1, h2, ?_⟩
   have := other r' x k hx hk
   simp [G.addCon, this, h3]
  glob := fun g cells hg => RelV.mono h.bd hle _ _ (h.glob g cells hg)
  dfr := h.dfr
  dfrB := h.dfrB
  ext := h.ext.trans hle h.n0
  n0 := h.n0 }
theorem G.le_cut {n m : Nat} {ds : List Nat} (h : G.le n γ γ') (hn : n ≤ m) (hds : ∀ b ∈ ds, γ.dfr b = false) : G.le n γ (γ'.cut m ds) where
 obj r hr := by simp only [G.cut]; rw [if_pos (by omega)]; exact h.obj r hr
 own b r hb hr := G.cut_own (h.own b r hb hr) (by omega)
 con := h.con
 kn r hr hn' := by simp only [G.cut, Bool.and_eq_true, decide_eq_true_eq]; exact ⟨h.kn r hr hn', by omega⟩
 dfr b hb := by
  have : b ∉ ds := fun hm => by rw [hds b hm] at hb; cases hb
  simp [G.cut, h.dfr b hb, this]
 vb := h.vb
 tk := h.tk
theorem RelW.cut (h : RelW E γ w W) {W' : AW} (hsub : ∀ r o, W'.get r = some o → W.get r = some o) (hlt : ∀ r o, W'.get r = some o → r < W'.nx)
  (hbel : ∀ r o, W'.get r = some o → o.bel W'.nx = true) (hn0 : E.n0 ≤ W'.nx) (ds : List Nat := []) (hds : ∀ b ∈ ds, E.γ0.dfr b = false := by simp) :
  RelW E (γ.cut W'.nx ds) w W' where
 below := h.below
 base := h.base
 con := h.con
 own b r ho := by
  simp only [G.cut] at ho
  cases hq : γ.own b with
  | none => rw [hq] at ho; cases ho
  | some r' => exact h.own b r' hq
 obj r o ho := by
  have hr := hlt r o ho
  have hb := hbel r o ho
  have := h.obj r o (hsub r o ho)
  have hcut : ∀ x, V.bel W'.nx x = true → ∀ v, RelV γ x v → RelV (γ.cut W'.nx ds) x v := fun x hx v hv => RelV.cut _ x v hx hv
  cases o with
  | row cells =>
   obtain ⟨b, c, e, h1, h2, h3⟩ := this
   exact ⟨b, c, e, G.cut_obj h1 hr, h2, RelL.cut _ _ _ hb h3⟩
  | map es clock =>
   obtain ⟨b, mes, h1, h2, h3⟩ := this
   refine ⟨b, mes, G.cut_obj h1 hr, h2, ?_⟩
   have key : ∀ (es : List (V × V × Nat)) (l : List MapEntry), (es.all fun e => e.1.bel W'.nx && e.2.1.bel W'.nx) = true → RelEs γ es l → RelEs (γ.cut W'.nx ds) es l := by
    intro es
    induction es with
    | nil => exact fun l _ h => h
    | cons x xs ih =>
     obtain ⟨k, v, n⟩ := x
     rintro l hall ⟨e, l', g0, g1, g2, g3, g4⟩
     simp only [List.all_cons, Bool.and_eq_true] at hall
     exact ⟨e, l', g0, hcut _ hall.1.1 _ g1, hcut _ hall.1.2 _ g2, g3, ih l' (by simpa using hall.2) g4⟩
   exact key es mes hb h3
  | iter m since seen last =>
   obtain ⟨b, mb, h1, h2, h3⟩ := this
   refine ⟨b, mb, G.cut_obj h1 hr, h2, ?_⟩
   rcases h3 with h3 | ⟨r', b', g1, g2, g3⟩
   ·exact .inl h3
   ·subst g1
    exact .inr ⟨r', b', rfl, g2, G.cut_obj g3 (by simpa [AObj.bel] using hb)⟩
  | loop st pend =>
   obtain ⟨b, h1, h2⟩ := this
   exact ⟨b, G.cut_obj h1 hr, h2⟩
  | vec s cells =>
   obtain ⟨b, pre, c, t, e, h1, h2, h3, h4, h5⟩ := this
   exact ⟨b, pre, c, t, e, G.cut_obj h1 hr, h2, h3, RelL.cut _ _ _ hb h4, h5⟩
  | buf np s xs =>
   obtain ⟨hs, cur, h1, h2, h3, h4⟩ := this
   have ho : ∀ b, (γ.cut W'.nx ds).own b = some r → γ.own b = some r := fun b hb => by
    simp only [G.cut] at hb
    cases hq : γ.own b with
    | none => rw [hq] at hb; cases hb
    | some r' => rw [hq] at hb; simp only [] at hb; split at hb <;> simp_all
   refine ⟨hs, cur, ?_, fun b hb => G.cut_own (h2 b hb) hr, h3, fun a b c hc => h4 a b c (ho c hc)⟩
   intro b hbo
   obtain ⟨c, sz, k, g1, g2, g3, g4, g5⟩ := h1 b (ho b hbo)
   refine ⟨c, sz, k, g1, g2, g3, RelE.cut _ _ _ _ ?_ g4, g5⟩
   have key : ∀ (l : List V) k, V.belL W'.nx l = true → V.belL W'.nx (l.take k) = true := by
    intro l
    induction l with
    | nil => intro k _; simp [V.belL]
    | cons x xs ih =>
     intro k hl
     cases k with
     | zero => simp [V.belL]
     | succ k =>
      simp only [V.belL, Bool.and_eq_true, List.take_succ_cons] at hl ⊢
      exact ⟨hl.1, ih k hl.2⟩
   exact key xs k hb
 bd := ⟨fun r b hb => by simp only [G.cut] at hb; split at hb <;> simp_all,
  fun b r hb => by
   simp only [G.cut] at hb
   cases hq : γ.own b with
   | none => rw [hq] at hb; cases hb
   | some r' => rw [hq] at hb; simp only [] at hb; split at hb <;> simp_all,
  fun r hr => by simp only [G.cut, Bool.and_eq_true, decide_eq_true_eq] at hr; exact hr.2⟩
 lt := hlt
 inj r r' o o' b h1 h2 g1 g2 := by
  have q : ∀ x b, (γ.cut W'.nx ds).obj x = some b → γ.obj x = some b := fun x b hx => by
   simp only [G.cut] at hx; split at hx <;> simp_all
  exact h.inj r r' o o' b (hsub _ _ h1) (hsub _ _ h2) (q _ _ g1) (q _ _ g2)
 apart r o b h1 h2 := by
  have q : ∀ x b, (γ.cut W'.nx ds).obj x = some b → γ.obj x = some b := fun x b hx => by
   simp only [G.cut] at hx; split at hx <;> simp_all
  exact h.apart r o b (hsub _ _ h1) (q _ _ h2)
 glob g cells hg := RelV.cut _ _ _ (E.globOk g cells _ hg) (h.glob g cells hg)
 dfr b hb := by simp only [G.cut, Bool.and_eq_true] at hb; exact h.dfr b hb.1
 dfrB b hb := by simp only [G.cut, Bool.and_eq_true] at hb; exact h.dfrB b hb.1
 ext := G.le_cut h.ext hn0 hds
 n0 := hn0
end Go.AL
namespace Go.AL
inductive AX where
 | t (n : Nat)
 | c (v : V)
 | f (id : FuncId)
 | g (n : Nat)
 deriving Inhabited
inductive SK where
 | b | i (k : IntKind) | s
 deriving DecidableEq, Inhabited
inductive AK where
 | mov | pick
 | alloc (zero : List V) | box
 | build (zero : List V) (places : List (Nat × Nat))
 | bslice (s n : Nat) (zero : V) (places : List Nat)
 | load (agg : Bool) (s : Nat) | store (s : Nat)
 | nilck | bin (op : BinOp) | eqv (neg : Bool) (sh : Bool × List SK) | eqn (neg : Bool) (cat : Nat) | un (op : UnOp) | conv (k : IntKind)
 | mkfn (f : Fn) (first : Nat) | mkmap
 | fld (off : Nat) | fldv (off s : Nat) (agg : Bool)
 | idxp (s : Nat) | idxa (n s : Nat) | idxv (n s : Nat) (agg : Bool) | idxs
 | lookup (sh : Bool × List SK) (zero : V) (ok : Bool) | mupd (sh : Bool × List SK) | rangem | nextm | entry
 | ext (i : Nat) | len (cat n : Nat) | slc (s : Nat) (lo hi mx : Bool)
 | append (s bytes : Nat) | appendx (s bytes : Nat) (z : List V)
 | makesl (s bytes : Nat) (z : List V) | ment (sh : Bool × List SK) (zero : V) | mest
 | call (f : FuncId) | callv | pcall (f : FuncId) | pcallv
 deriving Inhabited
structure AOp where
 dst : Option Nat
 k : AK
 xs : List AX
 g : Option (Nat × Bool)
 deriving Inhabited
inductive PT where
 | done
 | step (i : Nat) (x : AOp) (t : PT)
 | alt (a b : PT)
 deriving Inhabited
inductive AC where
 | par (t : PT)
 | skip
 | reg (ops : List AOp)
 | seq (a b : AC)
 | cond (c : AX) (x y : AC)
 | rangef (g : AX) (ps : List Nat) (asg body : AC)
 | block (id : Nat) (c : AC)
 | loop (c : AC)
 | exit (id : Nat)
 | ret
 deriving Inhabited
abbrev AFr := Nat → Option V
def AFr.put (A : AFr) (d : Nat) (v : V) : AFr := fun i => if i = d then some v else A i
def AFr.putd (A : AFr) : Option Nat → V → AFr
 | some d, v => A.put d v
 | none, _ => A
def AX.ev (E : Env) (A : AFr) : AX → Option V
 | .t n => A n
 | .c v => some v
 | .f id => some (.fn (.func id) [] [])
 | .g n => (E.glob n).map .cptr
def evs (E : Env) (A : AFr) : List AX → Option (List V)
 | [] => some []
 | x :: xs => match x.ev E A, evs E A xs with
  | some v, some vs => some (v :: vs)
  | _, _ => none
def V.hasK : SK → V → Bool
 | .b, .bool _ => true
 | .i k, .int k' n => decide (k = k') && (Lit.int k n).wf
 | .s, .str s => decide (s.size ≤ maxLen)
 | _, _ => false
def V.hasKs : List SK → List V → Bool
 | [], [] => true
 | k :: ks, v :: vs => v.hasK k && V.hasKs ks vs
 | _, _ => false
def V.eq1 : V → V → Bool
 | .bool a, .bool b => a == b
 | .int _ a, .int _ b => a == b
 | .str a, .str b => a == b
 | _, _ => false
def V.eqs : List V → List V → Bool
 | [], [] => true
 | a :: as, b :: bs => V.eq1 a b && V.eqs as bs
 | _, _ => false
def V.keq (a b : V) : Bool := V.eqs a.cells b.cells
def V.one : V → Bool
 | .agg _ => false
 | .tuple _ => false
 | _ => true
def V.isAgg : V → Bool
 | .agg _ => true
 | _ => false
def V.has (sh : Bool × List SK) (v : V) : Bool := v.isAgg == sh.1 && V.hasKs sh.2 v.cells
def eqNil : Nat → V → V → Option Bool
 | 0, .nilptr, .nilptr => some true
 | 0, .nilptr, .ptr _ _ => some false
 | 0, .nilptr, .cptr _ => some false
 | 0, .nilptr, .vptr _ _ => some false
 | 0, .vptr _ _, .nilptr => some false
 | 0, .ptr _ _, .nilptr => some false
 | 0, .cptr _, .nilptr => some false
 | 1, .nilsl, .nilsl => some true
 | 1, .nilsl, .sl _ _ _ => some false
 | 1, .sl _ _ _, .nilsl => some false
 | 1, .nilsl, .slr _ _ _ _ => some false
 | 1, .slr _ _ _ _, .nilsl => some false
 | 1, .nilsl, .slz => some false
 | 1, .slz, .nilsl => some false
 | 2, .nilmap, .nilmap => some true
 | 2, .nilmap, .map _ => some false
 | 2, .map _, .nilmap => some false
 | 3, .nilfn, .nilfn => some true
 | 3, .nilfn, .fn _ _ _ => some false
 | 3, .fn _ _ _, .nilfn => some false
 | _, _, _ => none
def cmpI (op : BinOp) (a b : Int) : Option Bool :=
 match op with
 | .eql => some (a == b) | .neq => some (a != b) | .lss => some (decide (a < b)) | .leq => some (decide (a ≤ b))
 | .gtr => some (decide (a > b)) | .geq => some (decide (a ≥ b)) | _ => none
def bitI (op : BinOp) (k : IntKind) (x y : Int) : Option Int :=
 let a := BitVec.ofInt k.bits x
 let b := BitVec.ofInt k.bits y
 match op with
 | .and => some (k.wrap (a &&& b).toNat) | .or => some (k.wrap (a ||| b).toNat) | .xor => some (k.wrap (a ^^^ b).toNat)
 | .andNot => some (k.wrap (a &&& ~~~b).toNat) | _ => none
def shI (op : BinOp) (k : IntKind) (a b : Int) : Option V :=
 if 0 ≤ b then (match op with
  | .shl => some (.int k (k.wrap (a * 2 ^ (min b.toNat k.bits))))
  | .shr => some (.int k (a.fdiv (2 ^ (min b.toNat k.bits))))
  | _ => none) else none
def binI (op : BinOp) (k : IntKind) (a b : Int) : Option V :=
 match op with
 | .add => some (.int k (k.wrap (a + b)))
 | .sub => some (.int k (k.wrap (a - b)))
 | .mul => some (.int k (k.wrap (a * b)))
 | .quo => if b = 0 then none else some (.int k (k.wrap (a.tdiv b)))
 | .rem => if b = 0 then none else some (.int k (a.tmod b))
 | .and | .or | .xor | .andNot => (bitI op k a b).map (.int k)
 | .shl => shI .shl k a b
 | .shr => shI .shr k a b
 | _ => (cmpI op a b).map .bool
def binS (op : BinOp) (x y : ByteArray) : Option V :=
 let eq := x.toList == y.toList
 let lt := Op.bytesLess x.toList y.toList
 match op with
 | .add => none
 | .eql => some (.bool eq) | .neq => some (.bool !eq) | .lss => some (.bool lt) | .leq => some (.bool (lt || eq))
 | .gtr => some (.bool !(lt || eq)) | .geq => some (.bool !lt) | _ => none
def fillV : List V → List (Nat × Nat) → List V → Option (List V)
 | cells, [], [] => some cells
 | cells, (off, s) :: ps, x :: xs =>
  if x.cells.length = s ∧ off + s ≤ cells.length then fillV (cells.take off ++ x.cells ++ cells.drop (off + s)) ps xs else none
 | _, _, _ => none
def fillE (s : Nat) : List V → List Nat → List V → Option (List V)
 | l, [], [] => some l
 | l, i :: is, x :: xs => if x.cells.length = s ∧ i < l.length then fillE s (l.set i x) is xs else none
 | _, _, _ => none
def partV (cells : List V) (off s : Nat) (agg : Bool) : Option V :=
 if agg then (if off + s ≤ cells.length then some (.agg ((cells.drop off).take s)) else none) else cells[off]?
def slcV (s : Nat) (x : V) (lo : Nat) (hi mx : Option Nat) : Option V :=
 match x with
 | .nilsl => if lo = 0 ∧ hi.getD 0 = 0 ∧ mx.getD 0 = 0 then some .nilsl else none
 | .slz => if lo = 0 ∧ hi.getD 0 = 0 ∧ mx.getD 0 = 0 then some .slz else none
 | .sl s' full xs => if s = s' ∧ lo ≤ hi.getD xs.length ∧ hi.getD xs.length ≤ xs.length then (match mx with
   | none => some (.sl s (full && hi.getD xs.length == xs.length) ((xs.take (hi.getD xs.length)).drop lo))
   | some m => if hi = some m then some (.sl s true ((xs.take m).drop lo)) else none)
  else none
 | .slr r k len s' => if s = s' ∧ lo ≤ hi.getD len ∧ hi.getD len ≤ len then (match mx with
   | none => some (.slr r (k + lo) (hi.getD len - lo) s)
   | some m => if m = lo ∧ hi = some m then some .slz else none)
  else none
 | _ => none
def natV : V → Option Nat
 | .int _ n => if 0 ≤ n then some n.toNat else none
 | _ => none
def slcOp (s : Nat) (lo hi mx : Bool) (xs : List V) : Option V :=
 match lo, hi, mx, xs with
 | false, false, false, [x] => slcV s x 0 none none
 | true, false, false, [x, a] => (natV a).bind fun a => slcV s x a none none
 | false, true, false, [x, b] => (natV b).bind fun b => slcV s x 0 (some b) none
 | true, true, false, [x, a, b] => (natV a).bind fun a => (natV b).bind fun b => slcV s x a (some b) none
 | false, true, true, [x, b, c] => (natV b).bind fun b => (natV c).bind fun c => slcV s x 0 (some b) (some c)
 | true, true, true, [x, a, b, c] => (natV a).bind fun a => (natV b).bind fun b => (natV c).bind fun c => slcV s x a (some b) (some c)
 | _, _, _, _ => none
def tsem : AK → List V → Option V
 | .mov, [x] => some x
 | .pick, [.bool c, a, b] => some (if c then a else b)
 | .build zero places, xs => (fillV zero places xs).map .agg
 | .bslice s n zero places, xs => if zero.cells.length = s ∧ n * s ≤ 2 ^ 24 then (fillE s (List.replicate n zero) places xs).map (.sl s true) else none
 | .load agg s, [.cptr cells] => partV cells 0 s agg
 | .nilck, [.ptr r o] => some (.ptr r o)
 | .nilck, [.cptr c] => some (.cptr c)
 | .nilck, [.vptr r o] => some (.vptr r o)
 | .nilck, [.fn (.func f) a b] => some (.fn (.func f) a b)
 | .bin op, [.int k a, .int k' b] => if k = k' then binI op k a b else (match op with | .shl => shI .shl k a b | .shr => shI .shr k a b | _ => none)
 | .bin op, [.str a, .str b] => binS op a b
 | .eqv neg sh, [x, y] => if x.has sh && y.has sh then some (.bool (if neg then !x.keq y else x.keq y)) else none
 | .eqn neg cat, [x, y] => (eqNil cat x y).map fun b => .bool (if neg then !b else b)
 | .un .not, [.bool b] => some (.bool !b)
 | .un .neg, [.int k n] => some (.int k (k.wrap (0 - n)))
 | .conv k, [.int _ n] => some (.int k (k.wrap n))
 | .mkfn f n, xs => some (.fn f (xs.take n) (xs.drop n))
 | .fld off, [.ptr r o] => some (.ptr r (o + off))
 | .fld off, [.vptr r o] => some (.vptr r (o + off))
 | .fld off, [.cptr cells] => if off ≤ cells.length then some (.cptr (cells.drop off)) else none
 | .fldv off s agg, [.agg cs] => partV cs off s agg
 | .idxp s, [.sl s' _ xs, .int _ i] => if s = s' ∧ 0 ≤ i then (xs[i.toNat]?).map fun x => .cptr x.cells else none
 | .idxp s, [.slr r k len s', .int _ i] => if s = s' ∧ 0 ≤ i ∧ i < len then some (.vptr r ((k + i.toNat) * s)) else none
 | .idxa n s, [.ptr r off, .int _ i] => if 0 ≤ i ∧ i < n then some (.ptr r (off + i.toNat * s)) else none
 | .idxa n s, [.cptr cells, .int _ i] => if 0 ≤ i ∧ i < n ∧ i.toNat * s ≤ cells.length then some (.cptr (cells.drop (i.toNat * s))) else none
 | .idxv n s agg, [.agg cs, .int _ i] => if 0 ≤ i ∧ i < n then partV cs (i.toNat * s) s agg else none
 | .idxs, [.str s, .int _ i] => if 0 ≤ i then (s[i.toNat]?).map fun b => .int .u8 b.toNat else none
 | .ext i, [.tuple vs] => vs[i]?
 | .slc s lo hi mx, xs => slcOp s lo hi mx xs
 | _, _ => none
def rsem (k : AK) (vs : List V) (W : AW) : Option V :=
 match k, vs with
 | .load agg s, [.ptr r off] => match W.get r with
  | some (.row cells) => partV cells off s agg
  | _ => none
 | .load agg s, [.vptr r off] => match W.get r with
  | some (.vec _ cells) => partV cells off s agg
  | _ => none
 | .idxp s, [.buf _ r s' m, .int _ i] => match W.get r with
  | some (.buf _ s'' xs) => if s = s' ∧ s = s'' ∧ 0 ≤ i ∧ i < m ∧ m ≤ xs.length then (xs[i.toNat]?).map fun x => .cptr x.cells else none
  | _ => none
 | k, vs => tsem k vs
def findK (k : V) : List (V × V × Nat) → Option (V × V × Nat)
 | [] => none
 | e :: es => if k.keq e.1 then some e else findK k es
def updK (k v : V) : List (V × V × Nat) → List (V × V × Nat)
 | [] => []
 | e :: es => if k.keq e.1 then (k, v, e.2.2) :: es else e :: updK k v es
def keysOk (sh : Bool × List SK) (k : V) (es : List (V × V × Nat)) : Prop :=
 k.has sh = true ∧ ∀ e ∈ es, e.1.has sh = true
def zerosV (z : List V) (k : Nat) : List V := (List.replicate k z).flatten
def chunks (s : Nat) : Nat → List V → List V
 | 0, _ => []
 | n + 1, l => (if s = 1 then (l.headD default) else .agg (l.take s)) :: chunks s n (l.drop s)
def setS (n : Nat) (v : V) : List (V × V × Nat) → Option (List (V × V × Nat))
 | [] => none
 | e :: es => if e.2.2 = n then some ((e.1, v, e.2.2) :: es) else (setS n v es).map (e :: ·)
def elemsV (s : Nat) (W : AW) : V → Option (List V)
 | .nilsl => some []
 | .sl s' _ ys => if s = s' then some ys else none
 | .buf np r s' m => match W.get r with
  | some (.buf np' s'' xs) => if s = s' ∧ s = s'' ∧ np = np' ∧ m ≤ xs.length then some (xs.take m) else none
  | _ => none
 | .slz => some []
 | .slr r k len s' => match W.get r with
  | some (.vec s'' cells) => if s = s' ∧ s = s'' ∧ (k + len) * s ≤ cells.length ∧ ((cells.drop (k * s)).take (len * s)).all V.one = true then some (chunks s len (cells.drop (k * s))) else none
  | _ => none
 | _ => none
def AW.frz (W : AW) : V → V
 | .buf np r s m => match W.get r with
  | some (.buf np' s' xs) => if np = np' ∧ s = s' ∧ m = xs.length then (if xs.isEmpty && np then .nilsl else .sl s false xs) else .buf np r s m
  | _ => .buf np r s m
 | v => v
def Env.Sound (E : Env) : Prop := ∀ γ w W r vs (ws : List Value) K, RelW E γ w W → RelL γ vs ws → E.yield r vs W K →
 ∃ b, γ.obj r = some b ∧ ∃ fn tmps assign body, (Instr.yield b ws.toArray).run E.P w = .ok (.round b fn tmps assign body) w ∧
  RoundIn Fence.wide 0 E.P b fn tmps assign body w (fun e w' => ∃ v γ' X W', e = .returned v ∧ G.le W.nx γ γ' ∧ W.nx ≤ W'.nx ∧ RelW E γ' w' W' ∧ RelV γ' X v ∧ K X W')
def hasBody (P : Program) (f : FuncId) : Prop := ∃ fn c, P.funcs[f]? = some fn ∧ fn.body = some c ∧ fn.name ≠ "runtime.NumGoroutine"
def ACalls (E : Env) (f : FuncId) (vs : List V) (W : AW) (Q : V → AW → Prop) : Prop :=
 hasBody E.P f ∧ (E.Sound → ∀ γ w (ws : List Value), RelW E γ w W → RelL γ vs ws →
  Calls E.P f ws.toArray w fun e w' => ∃ v γ' X W', e = .returned v ∧ G.le W.nx γ γ' ∧ W.nx ≤ W'.nx ∧ RelW E γ' w' W' ∧ RelV γ' X v ∧ Q X W')
def sem (E : Env) (k : AK) (vs : List V) (W : AW) (K : V → AW → Prop) : Prop :=
 match k, vs with
 | .alloc zero, [] => K (.ptr W.nx 0) (W.alloc (.row zero))
 | .box, [x] => K (.ptr W.nx 0) (W.alloc (.row x.cells))
 | .mkmap, [] => K (.map W.nx) (W.alloc (.map [] 0))
 | .store s, [.ptr r off, x] => match W.get r with
  | some (.row cells) => x.cells.length = s ∧ x.cells.all V.one = true ∧ off + s ≤ cells.length ∧ K .undef (W.put r (.row (cells.take off ++ x.cells ++ cells.drop (off + s))))
  | _ => False
 | .store s, [.vptr r off, x] => match W.get r with
  | some (.vec s' cells) => x.cells.length = s ∧ x.cells.all V.one = true ∧ off + s ≤ cells.length ∧ K .undef (W.put r (.vec s' (cells.take off ++ x.cells ++ cells.drop (off + s))))
  | _ => False
 | .makesl s bytes z, [.int _ n, .int _ c] => 0 < s ∧ n = c ∧ 0 ≤ n ∧ n.toNat * bytes ≤ 2 ^ 46 ∧ K (.slr W.nx 0 n.toNat s) (W.alloc (.vec s (zerosV z n.toNat)))
 | .ment sh zero, [.map r, key] => match W.get r with
  | some (.map es clock) => keysOk sh key es ∧ (match findK key es with
   | some e => K (.tuple [e.2.1, .int .i64 e.2.2]) W
   | none => K (.tuple [zero, .int .i64 clock]) (W.put r (.map (es ++ [(key, zero, clock)]) (clock + 1))))
  | _ => False
 | .mest, [.map r, .int _ n, x] => match W.get r with
  | some (.map es clock) => 0 ≤ n ∧ (match setS n.toNat x es with
   | some es' => K .undef (W.put r (.map es' clock))
   | none => False)
  | _ => False
 | .lookup sh zero ok, [.nilmap, key] => key.has sh = true ∧ K (if ok then .tuple [zero, .bool false] else zero) W
 | .lookup sh zero ok, [.map r, key] => match W.get r with
  | some (.map es _) => keysOk sh key es ∧ (match findK key es with
   | some e => K (if ok then .tuple [e.2.1, .bool true] else e.2.1) W
   | none => K (if ok then .tuple [zero, .bool false] else zero) W)
  | _ => False
 | .mupd sh, [.map r, key, x] => match W.get r with
  | some (.map es clock) => keysOk sh key es ∧ (match findK key es with
   | some _ => K .undef (W.put r (.map (updK key x es) clock))
   | none => K .undef (W.put r (.map (es ++ [(key, x, clock)]) (clock + 1))))
  | _ => False
 | .rangem, [.nilmap] => K (.ptr W.nx 0) (W.alloc (.iter none 0 [] 0))
 | .rangem, [.map r] => match W.get r with
  | some (.map _ clock) => K (.ptr W.nx 0) (W.alloc (.iter (some r) clock [] clock))
  | _ => False
 | .nextm, [.ptr i 0] => match W.get i with
  | some (.iter none _ _ _) => K (.tuple [.bool false]) W
  | some (.iter (some m) since seen last) => (match W.get m with
   | some (.map es clock) =>
    (seen = [] ∨ es = [] ∨ ∃ e ∈ es, e.2.2 < last) ∧
    ((∀ e ∈ es, e.2.2 ∉ seen → since ≤ e.2.2) → K (.tuple [.bool false]) W) ∧
    (∀ e ∈ es, e.2.2 ∉ seen → K (.tuple [.bool true, e.1, e.2.1]) (W.put i (.iter (some m) since (seen ++ [e.2.2]) clock)))
   | _ => False)
  | _ => False
 | .entry, [.ptr i 0] => match W.get i with
  | some (.iter (some m) _ seen last) => (match W.get m, seen.getLast? with
   | some (.map es clock), some stamp => clock = last ∧ (match es.find? fun e => e.2.2 == stamp with
    | some e => K (.tuple [e.1, e.2.1]) W
    | none => False)
   | _, _ => False)
  | _ => False
 | .len 1 _, [.nilsl] => K (.int .i64 0) W
 | .len 1 _, [.sl _ _ xs] => K (.int .i64 xs.length) W
 | .len 1 _, [.buf _ _ _ m] => K (.int .i64 m) W
 | .len 1 _, [.slr _ _ n _] => K (.int .i64 n) W
 | .len 1 _, [.slz] => K (.int .i64 0) W
 | .len 0 _, [.str s] => K (.int .i64 s.size) W
 | .len 2 _, [.nilmap] => K (.int .i64 0) W
 | .len 2 _, [.map r] => match W.get r with
  | some (.map es _) => K (.int .i64 es.length) W
  | _ => False
 | .len 3 n, [_] => K (.int .i64 n) W
 | .len 4 _, [.int k a, .int k' b] => k = k' ∧ K (.int k (if b > a then b else a)) W
 | .len 5 _, [.int k a, .int k' b] => k = k' ∧ K (.int k (if b < a then b else a)) W
 | .append s bytes, [x, y] => 0 < s ∧ (match elemsV s W y with
  | none => False
  | some ys => (match x with
   | .nilsl => ys.length * bytes ≤ 2 ^ 46 ∧ (if ys.isEmpty then K .nilsl W else K (.buf true W.nx s ys.length) (W.alloc (.buf true s ys)))
   | .sl s' true xs => s' = s ∧ (xs.length + ys.length) * bytes ≤ 2 ^ 46 ∧ (if ys.isEmpty then K x W else K (.buf false W.nx s (xs.length + ys.length)) (W.alloc (.buf false s (xs ++ ys))))
   | .buf np r s' m => s' = s ∧ (match W.get r with
    | some (.buf np' s'' xs) => s'' = s ∧ np' = np ∧ m = xs.length ∧ (m + ys.length) * bytes ≤ 2 ^ 46 ∧ (ys.all fun y => y.cells.all V.one) = true ∧ K (.buf np r s (m + ys.length)) (W.put r (.buf np s (xs ++ ys)))
    | _ => False)
   | _ => False))
 | .appendx s bytes _, [x, y] => 0 < s ∧ (match elemsV s W y with
  | none => False
  | some ys => (match x with
   | .nilsl => ys.length * bytes ≤ 2 ^ 46 ∧ (if ys.isEmpty then K .nilsl W else K (.slr W.nx 0 ys.length s) (W.alloc (.vec s (ys.flatMap V.cells))))
   | .slz => ys.length * bytes ≤ 2 ^ 46 ∧ (if ys.isEmpty then K .slz W else K (.slr W.nx 0 ys.length s) (W.alloc (.vec s (ys.flatMap V.cells))))
   | .sl s' true xs => s' = s ∧ (xs.length + ys.length) * bytes ≤ 2 ^ 46 ∧ (if ys.isEmpty then K x W else K (.slr W.nx 0 (xs.length + ys.length) s) (W.alloc (.vec s ((xs ++ ys).flatMap V.cells))))
   | .slr r k len s' => s' = s ∧ (match W.get r with
    | some (.vec s'' cells) => s'' = s ∧ (k + len) * s ≤ cells.length ∧ (len + ys.length) * bytes ≤ 2 ^ 46 ∧ (ys.all fun y => y.cells.all V.one) = true ∧
     (if ys.isEmpty then K x W else K (.slr W.nx 0 (len + ys.length) s) (W.move r (.vec s ((cells.take ((k + len) * s)).drop (k * s) ++ ys.flatMap V.cells))))
    | _ => False)
   | _ => False))
 | .call f, vs => ACalls E f (vs.map W.frz) W K
 | .callv, .fn (.func f) first cap :: vs => ACalls E f ((first ++ vs ++ cap).map W.frz) W K
 | .callv, .yld r :: vs => E.yield r (vs.map W.frz) W K
 | .pcall f, vs => ∃ v, ACalls E f (vs.map W.frz) W (fun X W' => X = v ∧ W' = W) ∧ K v W
 | .pcallv, .fn (.func f) first cap :: vs => ∃ v, ACalls E f ((first ++ vs ++ cap).map W.frz) W (fun X W' => X = v ∧ W' = W) ∧ K v W
 | k, vs => match rsem k vs W with
  | some v => K v W
  | none => False
def putK (d : Option Nat) (A : AFr) (K : AFr → AW → Prop) : V → AW → Prop := fun v W => K (A.putd d v) W
def osem (E : Env) (o : AOp) (A : AFr) (W : AW) (K : V → AW → Prop) : Prop :=
 match evs E A o.xs with
 | some vs => sem E o.k vs W K
 | none => False
def exec1 (E : Env) (o : AOp) (K : AFr → AW → Prop) (A : AFr) (W : AW) : Prop :=
 match o.g with
 | none => osem E o A W (putK o.dst A K)
 | some (t, want) => match A t with
  | some (.bool c) => (c = want → osem E o A W (putK o.dst A K)) ∧ (c = !want → K (A.putd o.dst .undef) W)
  | some (.tuple []) => K (A.putd o.dst .undef) W
  | _ => False
def execL (E : Env) : List AOp → (AFr → AW → Prop) → AFr → AW → Prop
 | [], K => K
 | o :: os, K => exec1 E o (execL E os K)
def aT (E : Env) : PT → (AFr → AW → Prop) → AFr → AW → Prop
 | .done, K => K
 | .step _ x t, K => exec1 E x (aT E t K)
 | .alt a b, K => fun A W => aT E a K A W ∧ aT E b K A W
def thenQ (K : AFr → AW → Prop) (Q : Exit → AFr → AW → Prop) : Exit → AFr → AW → Prop
 | .normal => K
 | e => Q e
def blockQ (id : Nat) (Q : Exit → AFr → AW → Prop) : Exit → AFr → AW → Prop
 | .exit id' => if id' = id then Q .normal else Q (.exit id')
 | e => Q e
structure Weak (A : AFr) (W : AW) (A' : AFr) (W' : AW) : Prop where
 fr : ∀ i v, A' i = some v → A i = some v
 bel : ∀ i v, A' i = some v → v.bel W'.nx = true
 sub : ∀ r o, W'.get r = some o → W.get r = some o
 lt : ∀ r o, W'.get r = some o → r < W'.nx
 obel : ∀ r o, W'.get r = some o → o.bel W'.nx = true
inductive Vs (lo : Nat) : AFr → AW → AFr → AW → Prop where
 | refl {A W} : lo ≤ W.nx → Vs lo A W A W
 | weak {A W A' W'} : Weak A W A' W' → lo ≤ W'.nx → Vs lo A W A' W'
 | nilbuf {A W A' W'} (i s : Nat) : A i = some .nilsl → 0 < s → Vs lo (A.put i (.buf true W.nx s 0)) (W.alloc (.buf true s [])) A' W' → Vs lo A W A' W'
 | frz {A W A' W'} (i : Nat) (v : V) : A i = some v → Vs lo (A.put i (W.frz v)) W A' W' → Vs lo A W A' W'
def ALoop (body : (Exit → AFr → AW → Prop) → AFr → AW → Prop) (Q : Exit → AFr → AW → Prop) (A : AFr) (W : AW) : Prop :=
 ∃ (I : AFr → AW → Prop) (μ : AFr → AW → Nat),
  (∃ A0 W0, Vs W.nx A W A0 W0 ∧ I A0 W0) ∧
  ∀ A1 W1, I A1 W1 → W.nx ≤ W1.nx →
   body (thenQ (fun A' W' => ∃ A2 W2, Vs W.nx A' W' A2 W2 ∧ I A2 W2 ∧ μ A2 W2 < μ A1 W1) Q) A1 W1
def AFr.puts (A : AFr) : List Nat → List V → AFr
 | p :: ps, v :: vs => (A.put p v).puts ps vs
 | _, _ => A
def endQ (r : Nat) (K : V → AW → Prop) : Exit → AFr → AW → Prop
 | .normal, _, W => W.get r = some (.loop .busy none) ∧ K (.bool true) (W.put r (.loop .ready none))
 | .ret, _, W => W.get r = some (.loop .busy none) ∧ K (.bool false) (W.put r (.loop .done (some .ret)))
 | .exit i, _, W => W.get r = some (.loop .busy none) ∧ K (.bool false) (W.put r (.loop .done (some (.exit i))))
 | _, _, _ => False
def roundY (r : Nat) (ps : List Nat) (A : AFr) (asg body : (Exit → AFr → AW → Prop) → AFr → AW → Prop) (vs : List V) (W : AW) (K : V → AW → Prop) : Prop :=
 W.get r = some (.loop .ready none) ∧ vs.length = ps.length ∧
 asg (thenQ (fun A1 W1 => W1.get r = some (.loop .ready none) ∧ body (endQ r K) A1 (W1.put r (.loop .busy none))) (fun _ _ _ => False)) (A.puts ps vs) W
def doneQ (r : Nat) (Q : Exit → AFr → AW → Prop) (A : AFr) (W : AW) : Prop :=
 match W.get r with
 | some (.loop .ready none) => Q .normal A (W.put r (.loop .exhausted none))
 | some (.loop .done (some .ret)) => Q .ret A (W.put r (.loop .exhausted (some .ret)))
 | some (.loop .done (some (.exit i))) => Q (.exit i) A (W.put r (.loop .exhausted (some (.exit i))))
 | _ => False
def awp (E : Env) : AC → (Exit → AFr → AW → Prop) → AFr → AW → Prop
 | .skip, Q, A, W => Q .normal A W
 | .reg ops, Q, A, W => execL E ops (Q .normal) A W
 | .par t, Q, A, W => aT E t (Q .normal) A W
 | .seq a b, Q, A, W => awp E a (thenQ (awp E b Q) Q) A W
 | .cond c x y, Q, A, W => match c.ev E A with
  | some (.bool t) => (t = true → awp E x Q A W) ∧ (t = false → awp E y Q A W)
  | _ => False
 | .rangef g ps asg body, Q, A, W => match g.ev E A with
  | some (.fn (.func gf) [] cap) => ∀ (E' : Env), E'.P = E.P → E'.glob = E.glob →
    (∀ vs W1 K, roundY W.nx ps A (awp E asg) (awp E body) vs W1 K → E'.yield W.nx vs W1 K) → (∀ r vs W1 K, r ≠ W.nx → E.yield r vs W1 K → E'.yield r vs W1 K) →
    ACalls E' gf (.yld W.nx :: cap.map W.frz) (W.alloc (.loop .ready none)) (fun _ W' => doneQ W.nx Q A W')
  | _ => False
 | .block id c, Q, A, W => awp E c (blockQ id Q) A W
 | .loop c, Q, A, W => ALoop (awp E c) Q A W
 | .exit id, Q, A, W => Q (.exit id) A W
 | .ret, Q, A, W => Q .ret A W
end Go.AL
namespace Go.AL
def ofValue0 : Value → Option V
 | .bool b => some (.bool b)
 | .int k n => some (.int k n)
 | .string s => some (.str s)
 | .pointer none => some .nilptr
 | .slice none 0 0 => some .nilsl
 | .map none => some .nilmap
 | .nilFunc => some .nilfn
 | .nilIface => some .nilif
 | _ => none
def ofCells : List Value → Option (List V)
 | [] => some []
 | v :: vs => match ofValue0 v, ofCells vs with
  | some x, some xs => some (x :: xs)
  | _, _ => none
def ofValue : Value → Option V
 | .agg cs => (ofCells cs.toList).map .agg
 | v => ofValue0 v
def compX : Operand → Option AX
 | .tmp t => some (.t t)
 | .const v => (ofValue v).map .c
 | .global g => some (.g g)
 | .func f => some (.f f)
def compXs : List Operand → Option (List AX)
 | [] => some []
 | x :: xs => match compX x, compXs xs with
  | some y, some ys => some (y :: ys)
  | _, _ => none
def isAggT (P : Program) (t : TypeId) : Option Bool := (P.underlying t).map fun | .struct _ | .array _ _ => true | _ => false
def zeroT (P : Program) (t : TypeId) : Option V := (P.info? t).bind fun i => i.zero.bind ofValue
def sizeT (P : Program) (t : TypeId) : Option Nat := (P.info? t).map (·.size)
def bytesT (P : Program) (t : TypeId) : Option Nat := (P.info? t).map (·.bytes)
def isIntT (P : Program) (t : TypeId) : Bool := match P.underlying t with | some (.int _) => true | _ => false
def isStrT (P : Program) (t : TypeId) : Bool := match P.underlying t with | some .string => true | _ => false
def runsT (P : Program) (fl : TypeId → Option (List SK)) : Nat → List Field → Option (List SK)
 | _, [] => some []
 | off, f :: fs => match fl f.type with
  | none => none
  | some l => if f.offset = off ∧ P.cellsOf f.type = l.length ∧ f.name ≠ "_" then (runsT P fl (off + l.length) fs).map (l ++ ·) else none
def flatT (P : Program) : Nat → TypeId → Option (List SK)
 | 0, _ => none
 | d + 1, t => match P.underlying t with
  | some .bool => some [.b]
  | some (.int k) => some [.i k]
  | some .string => some [.s]
  | some (.array n e) => match flatT P d e with
   | none => none
   | some l => if P.cellsOf e = l.length ∧ P.cellsOf t = n * l.length then some ((List.replicate n l).flatten) else none
  | some (.struct fs) => match runsT P (flatT P d) 0 fs.toList with
   | none => none
   | some l => if P.cellsOf t = l.length then some l else none
  | _ => none
def shT (P : Program) (t : TypeId) : Option (Bool × List SK) := if P.keyTypeAt 20 t && !P.eqGuardType P.depth t then (match isAggT P t, flatT P 20 t with | some g, some l => some (g, l) | _, _ => none) else none
def nilT (P : Program) (t : TypeId) : Option Nat := match P.underlying t with | some (.pointer _) => some 0 | some (.slice _) => some 1 | some (.map _ _) => some 2 | some (.func _ _ _) => some 3 | _ => none
def placesT (P : Program) (fs : Array Field) : List Nat → Option (List (Nat × Nat))
 | [] => some []
 | i :: is => match fs[i]?, placesT P fs is with
  | some f, some r => (sizeT P f.type).map fun s => (f.offset, s) :: r
  | _, _ => none
structure PM where
 pu : Bool
 ex : Bool
 pl : List Nat
def compOp (P : Program) (o : Oper) (pm : PM) : Option (AK × List AX) :=
 match o.op with
 | .move x | .assign x => (compXs [x]).map (.mov, ·)
 | .pick c a b => (compXs [c, a, b]).map (.pick, ·)
 | .alloc t => (zeroT P t).map fun z => (.alloc z.cells, [])
 | .box _ x => (compXs [x]).map (.box, ·)
 | .build t parts => match P.underlying t, zeroT P t with
  | some (.struct fs), some z => match placesT P fs (parts.toList.map (·.1)), compXs (parts.toList.map (·.2)) with
   | some ps, some xs => if (fs.toList.all fun f => (P.info? f.type).isSome) then some (.build z.cells ps, xs) else none
   | _, _ => none
  | some (.array _ e), some z => match sizeT P e, compXs (parts.toList.map (·.2)) with
   | some s, some xs => some (.build z.cells (parts.toList.map fun p => (p.1 * s, s)), xs)
   | _, _ => none
  | _, _ => none
 | .buildSlice t n parts => match P.underlying t with
  | some (.slice e) => match sizeT P e, zeroT P e, compXs (parts.toList.map (·.2)) with
   | some s, some z, some xs => if 0 < s then some (.bslice s n z (parts.toList.map (·.1)), xs) else none
   | _, _, _ => none
  | _ => none
 | .load t a => match isAggT P t, sizeT P t, compXs [a] with
  | some g, some s, some xs => some (.load g s, xs)
  | _, _, _ => none
 | .store t a x => match sizeT P t, compXs [a, x] with
  | some s, some xs => some (.store s, xs)
  | _, _ => none
 | .nilCheck x => (compXs [x]).map (.nilck, ·)
 | .binOp op t x y _ =>
  if isIntT P t || isStrT P t then (compXs [x, y]).map (.bin op, ·)
  else match op with
   | .eql | .neq => match nilT P t with
    | some cat => (compXs [x, y]).map (.eqn (op == .neq) cat, ·)
    | none => match shT P t with
     | some sh => (compXs [x, y]).map (.eqv (op == .neq) sh, ·)
     | none => none
   | _ => none
 | .unOp op _ x => (compXs [x]).map (.un op, ·)
 | .convert src dst x => match P.underlying src, P.underlying dst with
  | some (.int _), some (.int k) => (compXs [x]).map (.conv k, ·)
  | _, _ => none
 | .makeFunc f first cap => (compXs (first.toList ++ cap.toList)).map (.mkfn f first.size, ·)
 | .makeMap _ none => some (.mkmap, [])
 | .fieldAddr s x i => match P.underlying s with
  | some (.struct fs) => match fs[i]? with
   | some f => match sizeT P f.type, compXs [x] with
    | some z, some xs => if z ≠ 0 then some (.fld f.offset, xs) else none
    | _, _ => none
   | none => none
  | _ => none
 | .field t x i => match P.underlying t with
  | some (.struct fs) => match fs[i]? with
   | some f => match isAggT P f.type, sizeT P f.type, compXs [x] with
    | some g, some z, some xs => some (.fldv f.offset z g, xs)
    | _, _, _ => none
   | none => none
  | _ => none
 | .indexAddr t x i => match P.underlying t with
  | some (.slice e) => match sizeT P e, compXs [x, i] with
   | some s, some xs => some (.idxp s, xs)
   | _, _ => none
  | some (.array n e) => match sizeT P e, compXs [x, i] with
   | some s, some xs => some (.idxa n s, xs)
   | _, _ => none
  | _ => none
 | .index t x i => match P.underlying t with
  | some (.array n e) => match isAggT P e, sizeT P e, compXs [x, i] with
   | some g, some s, some xs => some (.idxv n s g, xs)
   | _, _, _ => none
  | some .string => (compXs [x, i]).map (.idxs, ·)
  | _ => none
 | .lookup t x i ok => match P.underlying t with
  | some (.map k e) => match shT P k, zeroT P e, compXs [x, i] with
   | some sh, some z, some xs => some (.lookup sh z ok, xs)
   | _, _, _ => none
  | _ => none
 | .mapUpdate t m k x | .insert t m k x => match P.underlying t with
  | some (.map kt _) => match shT P kt, compXs [m, k, x] with
   | some sh, some xs => some (.mupd sh, xs)
   | _, _ => none
  | _ => none
 | .slice t x lo hi mx => match P.underlying t with
  | some (.slice e) => match sizeT P e, compXs (x :: (lo.toList ++ hi.toList ++ mx.toList)) with
   | some s, some xs => if 0 < s then some (.slc s lo.isSome hi.isSome mx.isSome, xs) else none
   | _, _ => none
  | _ => none
 | .makeSlice t n c => match P.underlying t with
  | some (.slice e) => match sizeT P e, bytesT P e, zeroT P e, compXs [n, c] with
   | some s, some b, some z, some xs => if 0 < s ∧ 0 < b ∧ b ≤ 2 ^ 30 ∧ z.cells.length = s then some (.makesl s b z.cells, xs) else none
   | _, _, _, _ => none
  | _ => none
 | .mapEntry t m k => match P.underlying t with
  | some (.map kt e) => match shT P kt, zeroT P e, compXs [m, k] with
   | some sh, some z, some xs => some (.ment sh z, xs)
   | _, _, _ => none
  | _ => none
 | .entryStore _ m s x => (compXs [m, s, x]).map (.mest, ·)
 | .range t x => match P.underlying t with
  | some (.map _ _) => (compXs [x]).map (.rangem, ·)
  | _ => none
 | .next it false => (compXs [it]).map (.nextm, ·)
 | .entry it => (compXs [it]).map (.entry, ·)
 | .extract t i => (compXs [t]).map (.ext i, ·)
 | .call { callee := .builtin .len, args, argTypes } => match argTypes.toList with
  | [t] => match P.underlying t, compXs args.toList with
   | some (.array n _), some xs => some (.len 3 n, xs)
   | some .string, some xs => some (.len 0 0, xs)
   | some (.slice _), some xs => some (.len 1 0, xs)
   | some (.map _ _), some xs => some (.len 2 0, xs)
   | _, _ => none
  | _ => none
 | .call { callee := .builtin .append, args, argTypes } => match argTypes.toList with
  | [t, u] => match P.underlying t, P.underlying u, compXs args.toList with
   | some (.slice e), some (.slice _), some xs => match sizeT P e, bytesT P e, zeroT P e with
    | some s, some b, some z => if 0 < s ∧ 0 < b ∧ b ≤ 2 ^ 30 ∧ z.cells.length = s then some (if pm.ex then .appendx s b z.cells else .append s b, xs) else none
    | _, _, _ => none
   | _, _, _ => none
  | _ => none
 | .call { callee := .builtin .max, args, .. } => if args.size = 2 then (compXs args.toList).map (.len 4 0, ·) else none
 | .call { callee := .builtin .min, args, .. } => if args.size = 2 then (compXs args.toList).map (.len 5 0, ·) else none
 | .call { callee := .builtin .panic, args, .. } => (compXs args.toList).map (.len 6 0, ·)
 | .call { callee := .value (.func f), args, .. } => (compXs args.toList).map (if pm.pu || pm.pl.contains f then .pcall f else .call f, ·)
 | .call { callee := .value f, args, .. } => (compXs (f :: args.toList)).map (if pm.pu then .pcallv else .callv, ·)
 | _ => none
def isT : AK → Bool
 | .mov | .pick | .build .. | .bslice .. | .nilck | .bin _ | .eqv .. | .eqn .. | .un _ | .conv _ | .mkfn .. | .fld _ | .fldv .. | .idxa .. | .idxv .. | .idxs | .ext _ | .slc .. => true
 | _ => false
def isR : AK → Bool
 | .load .. | .idxp _ | .lookup .. | .len .. | .pcall _ | .pcallv => true
 | k => isT k
def swaps (y x : AK) : Bool := isT y || (isR y && isR x)
def compG (ops : Array Oper) : Option (Nat × Bool) → Option (Option (Nat × Bool))
 | none => some none
 | some (j, b) => ((ops[j]?).bind (·.dst)).map fun t => some (t, b)
def compOps (P : Program) (n : Nat) (ops : Array Oper) (pm : PM) : List Oper → Option (List AOp)
 | [] => some []
 | o :: os => match compOp P o pm, compG ops o.guard, compOps P n ops pm os with
  | some (k, xs), some g, some r => if (o.dst.all fun d => decide (d < n)) then some (⟨o.dst, k, xs, g⟩ :: r) else none
  | _, _, _ => none
def usesA (o : AOp) : List Nat := (o.xs.filterMap fun | .t n => some n | _ => none) ++ (match o.g with | some (t, _) => [t] | none => [])
def indepA (y x : AOp) : Bool :=
 swaps y.k x.k &&
 (match y.dst with | some d => !(usesA x).contains d && x.dst != some d | none => true) &&
 (match x.dst with | some d => !(usesA y).contains d | none => true)
def depsB (ops : Array Oper) (i : Nat) : List Nat := match ops[i]? with
 | some o => (o.after.toList.filter (Region.binds .any)).map (·.on)
 | none => []
def ancGo (ops : Array Oper) : Nat → List Nat → List Nat
 | 0, acc => acc
 | j + 1, acc => ancGo ops j (cond (acc.any (Nat.beq j)) ((depsB ops j).filter (fun d => !acc.any (Nat.beq d)) ++ acc) acc)
def ancB (ops : Array Oper) (f i : Nat) : List Nat := ancGo ops f (depsB ops i)
def readyR (ops : Array Oper) (rem : List Nat) (i : Nat) : Bool := (depsB ops i).all fun d => !rem.contains d
def firsts : PT → List Nat
 | .done => []
 | .step i _ _ => [i]
 | .alt a b => firsts a ++ firsts b
def loneOk (ops : Array Oper) (al : List AOp) (rem : List Nat) : PT → Bool
 | .step i x _ => rem.all fun z => z == i || (ancB ops ops.size z).contains i || indepA x (al.getD z default)
 | _ => false
def coverOk (ops : Array Oper) (al : List AOp) (rem : List Nat) (t : PT) : Bool := (rem.all fun z => !readyR ops rem z || (firsts t).contains z) || loneOk ops al rem t
def okS (ops : Array Oper) (al : List AOp) : List Nat → PT → Bool
 | rem, .done => rem.isEmpty
 | rem, .step i _ t => rem.contains i && okS ops al (rem.filter (· != i)) t && coverOk ops al (rem.filter (· != i)) t && decide (i < al.length)
 | rem, .alt a b => okS ops al rem a && okS ops al rem b
def sameT (al : List AOp) : PT → PT
 | .done => .done
 | .step i _ t => .step i (al.getD i default) (sameT al t)
 | .alt a b => .alt (sameT al a) (sameT al b)
def altsOf : List PT → PT
 | [] => .done
 | [t] => t
 | t :: ts => .alt t (altsOf ts)
def growT (ops : Array Oper) (al : List AOp) : Nat → List Nat → PT
 | 0, _ => .done
 | f + 1, rem =>
  let rs := rem.filter (readyR ops rem)
  let pref := rs.filter (fun i => isT (al.getD i default).k) ++ rs.filter (fun i => !isT (al.getD i default).k)
  match pref.find? (fun i => loneOk ops al rem (.step i (al.getD i default) .done)) with
  | some i => .step i (al.getD i default) (growT ops al f (rem.filter (· != i)))
  | none => altsOf (rs.map fun i => .step i (al.getD i default) (growT ops al f (rem.filter (· != i))))
def pickT (ops : Array Oper) (al : List AOp) : Option PT :=
 let t := growT ops al al.length (List.range al.length)
 if okS ops al (List.range al.length) t && coverOk ops al (List.range al.length) t && (List.range al.length).all (fun i => (depsB ops i).all fun d => decide (d < i)) then some t else none
def lineT : PT → Bool
 | .done => true
 | .step _ _ t => lineT t
 | .alt _ _ => false
structure Md where
 ex : Bool
 al : Bool
 ps : List Nat := []
def compC (P : Program) (n : Nat) (top : Bool) (ex : Md) : Code → Option AC
 | .skip => some .skip
 | .region _ ops false => (compOps P n ops ⟨false, ex.ex, []⟩ ops.toList).map .reg
 | .region _ ops true => if P.follows .mixedOrders then
   (match (compOps P n ops ⟨false, ex.ex, ex.ps⟩ ops.toList).bind (pickT ops), (compOps P n ops ⟨true, ex.ex, ex.ps⟩ ops.toList).bind (pickT ops) with
   | some t, none => some (.par t)
   | some t, some u => some (.par (if lineT t || ex.al then t else u))
   | none, some u => some (.par u)
   | none, none => none)
  else none
 | .seq a b => match compC P n top ex a, compC P n top ex b with
  | some x, some y => some (.seq x y)
  | _, _ => none
 | .cond c a b => match compX c, compC P n top ex a, compC P n top ex b with
  | some x, some y, some z => some (.cond x y z)
  | _, _, _ => none
 | .block id c => (compC P n top ex c).map (.block id)
 | .scope c => compC P n top ex c
 | .label _ => some .skip
 | .loop c => (compC P n top ex c).map .loop
 | .rangeFunc g ps a b => if top then (match compX g, compC P n false ex a, compC P n false ex b with
   | some x, some y, some z => if ps.toList.all (fun d => decide (d < n)) then some (.rangef x ps.toList y z) else none
   | _, _, _ => none)
  else none
 | .exit id => some (.exit id)
 | .ret => some .ret
 | _ => none
end Go.AL
namespace Go.AL
open RowKit
variable {γ : G} {E : Env} {w : World} {W : AW} {P : Program}
theorem RelL.length : ∀ {xs : List V} {l : List Value}, RelL γ xs l → l.length = xs.length
 | [], _, h => by simp only [RelL] at h; simp [h]
 | x :: xs, _, ⟨v, l', e, _, h⟩ => by subst e; simp [RelL.length h]
theorem RelL.get : ∀ {xs : List V} {l : List Value}, RelL γ xs l → ∀ {i : Nat} {x : V}, xs[i]? = some x → ∃ v, l[i]? = some v ∧ RelV γ x v
 | [], _, _, i, x, hx => by simp at hx
 | y :: ys, _, ⟨v, l', e, h1, h2⟩, i, x, hx => by
  subst e
  cases i with
  | zero => simp at hx; subst hx; exact ⟨v, by simp, h1⟩
  | succ i => simp at hx ⊢; exact RelL.get h2 hx
theorem RelL.drop : ∀ {xs : List V} {l : List Value}, RelL γ xs l → ∀ n, RelL γ (xs.drop n) (l.drop n)
 | [], _, h, n => by simp only [RelL] at h; subst h; simp [RelL]
 | y :: ys, _, ⟨v, l', e, h1, h2⟩, n => by
  subst e
  cases n with
  | zero => exact ⟨v, l', rfl, h1, h2⟩
  | succ n => simpa using RelL.drop h2 n
theorem RelL.take : ∀ {xs : List V} {l : List Value}, RelL γ xs l → ∀ n, RelL γ (xs.take n) (l.take n)
 | [], _, h, n => by simp only [RelL] at h; subst h; simp [RelL]
 | y :: ys, _, ⟨v, l', e, h1, h2⟩, n => by
  subst e
  cases n with
  | zero => simp [RelL]
  | succ n => exact ⟨v, l'.take n, rfl, h1, RelL.take h2 n⟩
theorem RelL.append : ∀ {xs ys : List V} {l m : List Value}, RelL γ xs l → RelL γ ys m → RelL γ (xs ++ ys) (l ++ m)
 | [], _, _, _, h, h' => by simp only [RelL] at h; subst h; simpa using h'
 | y :: ys, _, _, _, ⟨v, l', e, h1, h2⟩, h' => by subst e; exact ⟨v, _, rfl, h1, RelL.append h2 h'⟩
theorem RelL.split : ∀ {xs ys : List V} {l : List Value}, RelL γ (xs ++ ys) l → ∃ a b, l = a ++ b ∧ RelL γ xs a ∧ RelL γ ys b
 | [], _, l, h => ⟨[], l, rfl, rfl, h⟩
 | y :: ys, _, _, ⟨v, l', e, h1, h2⟩ => by
  obtain ⟨a, b, e', g1, g2⟩ := RelL.split h2
  exact ⟨v :: a, b, by simp [e, e'], ⟨v, a, rfl, h1, g1⟩, g2⟩
theorem RelV.cells {x : V} {v : Value} (h : RelV γ x v) : RelL γ x.cells v.cells.toList := by
 cases x
 case agg cs => obtain ⟨vs, rfl, h⟩ := h; simpa [V.cells, Value.cells] using h
 case buf =>
  have h' := h
  rcases h with ⟨b, _, c, sz, cap, _, _, _, _, rfl, _⟩ | ⟨_, _, rfl⟩ <;> exact ⟨_, [], rfl, h', rfl⟩
 case slr =>
  have h' := h
  obtain ⟨_, _, _, rfl, _⟩ := h
  exact ⟨_, [], rfl, h', rfl⟩
 all_goals
  have h' := h
  simp only [RelV] at h
  first
   | (subst h; exact ⟨_, [], rfl, h', rfl⟩)
   | (obtain ⟨_, h⟩ := h; subst h; exact ⟨_, [], rfl, h', rfl⟩)
   | (obtain ⟨_, _, h⟩ := h; subst h; exact ⟨_, [], rfl, h', rfl⟩)
   | (obtain ⟨_, rfl, h⟩ := h; exact ⟨_, [], rfl, h', rfl⟩)
   | (obtain ⟨_, _, rfl, h⟩ := h; exact ⟨_, [], rfl, h', rfl⟩)
   | (obtain ⟨_, _, _, _, _, _, _, h⟩ := h; subst h; exact ⟨_, [], rfl, h', rfl⟩)
   | (obtain ⟨_, _, _, _, _, _, _, _, h, _⟩ := h; subst h; exact ⟨_, [], rfl, h', rfl⟩)
theorem RelV.one {x : V} {v : Value} (h : RelV γ x v) (ho : x.one = true) : v.oneCell' = true := by
 cases x
 case agg => simp [V.one] at ho
 case tuple => simp [V.one] at ho
 case buf => rcases h with ⟨b, _, c, sz, cap, _, _, _, _, rfl, _⟩ | ⟨_, _, rfl⟩ <;> rfl
 case slr => obtain ⟨_, _, _, rfl, _⟩ := h; rfl
 all_goals
  simp only [RelV] at h
  first
   | (subst h; rfl)
   | (obtain ⟨_, h⟩ := h; subst h; rfl)
   | (obtain ⟨_, _, h⟩ := h; subst h; rfl)
   | (obtain ⟨_, rfl, h⟩ := h; rfl)
   | (obtain ⟨_, _, rfl, h⟩ := h; rfl)
   | (obtain ⟨_, _, _, _, _, _, _, h⟩ := h; subst h; rfl)
   | (obtain ⟨_, _, _, _, _, _, _, _, h, _⟩ := h; subst h; rfl)
theorem RelL.one : ∀ {xs : List V} {l : List Value}, RelL γ xs l → xs.all V.one = true → ∀ v ∈ l, v.oneCell' = true
 | [], _, h, _ => by simp only [RelL] at h; subst h; simp
 | y :: ys, _, ⟨v, l', e, h1, h2⟩, ho => by
  subst e
  simp only [List.all_cons, Bool.and_eq_true] at ho
  intro u hu
  rcases List.mem_cons.1 hu with rfl | hu
  ·exact h1.one ho.1
  ·exact RelL.one h2 ho.2 u hu
theorem RelE.length : ∀ {s : Nat} {xs : List V} {l : List Value}, RelE γ s xs l → l.length = xs.length * s
 | _, [], _, h => by simp only [RelE] at h; simp [h]
 | s, x :: xs, _, ⟨v, l', e, h0, _, h⟩ => by subst e; simp [RelE.length h, h0, Nat.add_mul, Nat.add_comm]
theorem RelE.get : ∀ {s : Nat} {xs : List V} {l : List Value}, RelE γ s xs l → ∀ {i : Nat} {x : V}, xs[i]? = some x →
  ∃ a v b, l = a ++ v.cells.toList ++ b ∧ a.length = i * s ∧ v.cells.size = s ∧ RelV γ x v
 | _, [], _, _, i, x, hx => by simp at hx
 | s, y :: ys, _, ⟨v, l', e, h0, h1, h2⟩, i, x, hx => by
  subst e
  cases i with
  | zero => simp at hx; subst hx; exact ⟨[], v, l', by simp, by simp, h0, h1⟩
  | succ i =>
   simp at hx
   obtain ⟨a, u, b, rfl, g1, g2, g3⟩ := RelE.get h2 hx
   exact ⟨v.cells.toList ++ a, u, b, by simp, by simp [h0, g1, Nat.add_mul, Nat.add_comm], g2, g3⟩
theorem RelE.append : ∀ {s : Nat} {xs ys : List V} {l m : List Value}, RelE γ s xs l → RelE γ s ys m → RelE γ s (xs ++ ys) (l ++ m)
 | _, [], _, _, _, h, h' => by simp only [RelE] at h; subst h; simpa using h'
 | s, y :: ys, _, _, _, ⟨v, l', e, h0, h1, h2⟩, h' => by subst e; exact ⟨v, _, by simp, h0, h1, RelE.append h2 h'⟩
theorem RelE.split : ∀ {s : Nat} {xs ys : List V} {l : List Value}, RelE γ s (xs ++ ys) l → ∃ a b, l = a ++ b ∧ RelE γ s xs a ∧ RelE γ s ys b
 | _, [], _, l, h => ⟨[], l, rfl, rfl, h⟩
 | s, y :: ys, _, _, ⟨v, l', e, h0, h1, h2⟩ => by
  obtain ⟨a, b, e', g1, g2⟩ := RelE.split h2
  exact ⟨v.cells.toList ++ a, b, by simp [e, e'], ⟨v, a, rfl, h0, h1, g1⟩, g2⟩
theorem ofValue0_rel {v : Value} {x : V} (h : ofValue0 v = some x) : RelV γ x v := by
 unfold ofValue0 at h
 split at h <;> first | (cases h; rfl) | cases h
theorem ofCells_rel : ∀ {l : List Value} {xs : List V}, ofCells l = some xs → RelL γ xs l
 | [], xs, h => by simp only [ofCells, Option.some.injEq] at h; subst h; rfl
 | v :: vs, xs, h => by
  unfold ofCells at h
  split at h
  ·rename_i x ys h1 h2
   cases h
   exact ⟨v, vs, rfl, ofValue0_rel h1, ofCells_rel h2⟩
  ·cases h
theorem ofValue_rel {v : Value} {x : V} (h : ofValue v = some x) : RelV γ x v := by
 unfold ofValue at h
 split at h
 ·rename_i cs
  simp only [Option.map_eq_some_iff] at h
  obtain ⟨xs, hx, rfl⟩ := h
  exact ⟨cs.toList, by simp, ofCells_rel hx⟩
 ·exact ofValue0_rel h
def coll (D : Nat) : Deferred := { target := .collected D, args := #[] }
structure RelF (γ : G) (h0 : Nat → Bool) (n : Nat) (a : Act) (A : AFr) : Prop where
 size : a.tmps.size = n
 defers : ∃ ds : List Nat, a.defers = ds.map coll ∧ ds.Nodup ∧ ∀ D ∈ ds, γ.dfr D = true ∧ h0 D = false
 base : ∀ b, h0 b = true → γ.dfr b = true
 slot : ∀ i v, A i = some v → ∃ x, a.tmps[i]? = some x ∧ RelV γ v x
theorem ev_sound {h0 : Nat → Bool} {n : Nat} {a : Act} {A : AFr} {op : Operand} {x : AX} {v : V} (hc : compX op = some x) (hv : x.ev E A = some v) (hF : RelF γ h0 n a A) (hW : RelW E γ w W) :
  RelV γ v (a.eval op) := by
 cases op with
 | tmp t =>
  simp only [compX, Option.some.injEq] at hc
  subst hc
  obtain ⟨y, h1, h2⟩ := hF.slot t v hv
  simpa [Act.eval, Array.getD_eq_getD_getElem?, h1] using h2
 | const c =>
  simp only [compX, Option.map_eq_some_iff] at hc
  obtain ⟨y, hy, rfl⟩ := hc
  simp only [AX.ev, Option.some.injEq] at hv
  subst hv
  exact ofValue_rel hy
 | global g =>
  simp only [compX, Option.some.injEq] at hc
  subst hc
  simp only [AX.ev, Option.map_eq_some_iff] at hv
  obtain ⟨cells, hg, rfl⟩ := hv
  exact hW.glob g cells hg
 | func f =>
  simp only [compX, Option.some.injEq] at hc
  subst hc
  simp only [AX.ev, Option.some.injEq] at hv
  subst hv
  exact ⟨[], [], rfl, rfl, rfl⟩
theorem evs_sound {h0 : Nat → Bool} {n : Nat} {a : Act} {A : AFr} (hF : RelF γ h0 n a A) (hW : RelW E γ w W) : ∀ {ops : List Operand} {xs : List AX} {vs : List V},
  compXs ops = some xs → evs E A xs = some vs → RelL γ vs (ops.map a.eval)
 | [], xs, vs, hc, hv => by
  simp only [compXs, Option.some.injEq] at hc
  subst hc
  simp only [evs, Option.some.injEq] at hv
  subst hv
  rfl
 | op :: ops, xs, vs, hc, hv => by
  unfold compXs at hc
  split at hc
  ·rename_i y ys h1 h2
   cases hc
   unfold evs at hv
   split at hv
   ·rename_i v us g1 g2
    cases hv
    exact ⟨_, _, rfl, ev_sound h1 g1 hF hW, evs_sound hF hW h2 g2⟩
   ·cases hv
  ·cases hc
theorem RelF.put {h0 : Nat → Bool} {n : Nat} {a : Act} {A : AFr} (hF : RelF γ h0 n a A) {d : Option Nat} (hd : (d.all fun d => decide (d < n)) = true) {v : V} {x : Value} (h : RelV γ v x) :
  RelF γ h0 n (a.put d x) (A.putd d v) := by
 cases d with
 | none => exact hF
 | some d =>
  simp only [Option.all_some, decide_eq_true_eq] at hd
  refine ⟨by simp [Act.put, hF.size], hF.defers, hF.base, fun i u hu => ?_⟩
  simp only [AFr.putd, AFr.put] at hu
  by_cases hi : i = d
  ·subst hi
   simp only [if_true, Option.some.injEq] at hu
   subst hu
   exact ⟨x, by simp [Act.put, hF.size, hd], h⟩
  ·simp only [hi, if_false] at hu
   obtain ⟨y, h1, h2⟩ := hF.slot i u hu
   exact ⟨y, by simp [Act.put, Ne.symm hi, h1], h2⟩
theorem RelF.mono {γ' : G} {h0 : Nat → Bool} {n m : Nat} {a : Act} {A : AFr} (hF : RelF γ h0 n a A) (hb : γ.Bd m) (h : G.le m γ γ') : RelF γ' h0 n a A :=
 ⟨hF.size, let ⟨ds, h1, h2, h3⟩ := hF.defers; ⟨ds, h1, h2, fun D hD => ⟨h.dfr D (h3 D hD).1, (h3 D hD).2⟩⟩, fun b hb => h.dfr b (hF.base b hb), fun i v hv => let ⟨x, h1, h2⟩ := hF.slot i v hv; ⟨x, h1, RelV.mono hb h _ _ h2⟩⟩
theorem run_isAggT {t : TypeId} {g : Bool} (h : isAggT P t = some g) (w : World) : (isAgg t).run P w = .ok g w := by
 unfold isAggT at h
 simp only [Option.map_eq_some_iff] at h
 obtain ⟨d, hd, hg⟩ := h
 unfold isAgg
 rw [Sem.run_bind, run_underlying hd]
 subst hg
 cases d <;> rfl
theorem info_of_size {t : TypeId} {s : Nat} (h : sizeT P t = some s) : ∃ i, P.info? t = some i ∧ i.size = s := by
 unfold sizeT at h
 simpa [Option.map_eq_some_iff] using h
theorem run_typeInfo' {t : TypeId} {i : TypeInfo} (h : P.info? t = some i) (w : World) : (typeInfo t).run P w = .ok i w := by
 simp [typeInfo, h]
theorem run_sizeT {t : TypeId} {s : Nat} (h : sizeT P t = some s) (w : World) : (sizeOf t).run P w = .ok s w := by
 obtain ⟨i, hi, rfl⟩ := info_of_size h
 simp [sizeOf, run_typeInfo' hi]
theorem run_zeroT {t : TypeId} {x : V} (h : zeroT P t = some x) (γ : G) (w : World) : ∃ v, (zeroValue t).run P w = .ok v w ∧ RelV γ x v := by
 unfold zeroT at h
 simp only [Option.bind_eq_some_iff] at h
 obtain ⟨i, hi, z, hz, hx⟩ := h
 exact ⟨z, by simp [zeroValue, run_typeInfo' hi, hz], ofValue_rel hx⟩
theorem cell_of_heap {b o : Nat} {c : Array Value} {e : TypeId} {fz : Nat × Nat} (h : w.heap[b]? = some (.cells c e fz)) : w.cell? ⟨b, o, none⟩ = c[o]? := by
 simp [World.cell?, h]
theorem run_loadVar_block {t : TypeId} {g : Bool} {s b off : Nat} {l : List Value} {e : TypeId} {fz : Nat × Nat} {cells : List V} {X : V} (hg : isAggT P t = some g) (hs : sizeT P t = some s)
  (hb : w.heap[b]? = some (.cells l.toArray e fz)) {pre m post : List Value} (hl : l = pre ++ m ++ post) (hrel : RelL γ cells m) (hX : partV cells off s g = some X) :
  ∃ v, (loadVar t ⟨b, pre.length + off, none⟩).run P w = .ok v w ∧ RelV γ X v := by
 have hlen := hrel.length
 unfold loadVar
 rw [Sem.run_bind, run_isAggT hg, Result.andThen_ok]
 cases g
 ·simp only [partV, Bool.false_eq_true, if_false] at hX ⊢
  obtain ⟨v, hv, hr⟩ := hrel.get hX
  refine ⟨v, ?_, hr⟩
  have hc : w.cell? ⟨b, pre.length + off, none⟩ = some v := by
   rw [cell_of_heap hb, hl]
   have : off < m.length := (List.getElem?_eq_some_iff.1 hv).1
   simp [List.getElem?_append, this]
   simpa [gEg this] using hv
  simp [hc]
 ·simp only [partV, if_true] at hX ⊢
  split at hX
  ·rename_i hle
   cases hX
   refine ⟨.agg ((m.drop off).take s).toArray, ?_, ⟨_, rfl, (hrel.drop off).take s⟩⟩
   have hl2 : ((m.drop off).take s).length = s := by simp; omega
   have := run_loadCells_list (P := P) w ⟨b, pre.length + off, none⟩ ((m.drop off).take s) (fun j v hv => by
    have hj : j < s := by have := (List.getElem?_eq_some_iff.1 hv).1; omega
    have hadd : (⟨b, pre.length + off, none⟩ : Addr).add j = ⟨b, pre.length + off + j, none⟩ := by
     unfold Addr.add; split <;> simp_all
    rw [hadd, cell_of_heap hb, hl]
    rw [List.getElem?_take, if_pos hj, List.getElem?_drop] at hv
    have : off + j < m.length := by omega
    simp [List.getElem?_append, Nat.add_assoc, this]
    simpa [gEg this] using hv)
   rw [hl2] at this
   simp [run_sizeT hs, this]
  ·cases hX
end Go.AL
