/- Rules for worlds that grow; slices; what events may be. Conditions: none. -/
import Derived.Test.YtchoohbdpkolgaaGreatDoorBc
set_option maxRecDepth 100000
namespace Go.AL.S
open Go Go.AL Go.Proofs
/-! worlds that grew: a base, and what was made since -/
def rf (n k : Nat) : Nat := n + k
def X (W : AW) (n : Nat) (l : List AObj) : AW := ⟨fun r => if r < n then W.get r else l[r - n]?, n + l.length⟩
def optK {α : Type} (o : Option α) (k : α → Prop) : Prop := match o with
  | some v => k v
  | none => False
def loadK (o : Option AObj) (off : Nat) (g : Bool) (s : Nat) (k : V → Prop) : Prop := match o with
  | some (.row cells) => optK (partV cells off s g) k
  | _ => False
def storeK (o : Option AObj) (off s : Nat) (x : V) (k : AObj → Prop) : Prop := match o with
  | some (.row cells) => x.cells.length = s ∧ x.cells.all V.one = true ∧ off + s ≤ cells.length ∧ k (.row (cells.take off ++ x.cells ++ cells.drop (off + s)))
  | _ => False
section
variable {E : Env} {W : AW} {K : V → AW → Prop} {n : Nat} {l : List AObj}
theorem rf0 : rf n 0 = n := id rfl
theorem optK_some {α : Type} {v : α} {k : α → Prop} : optK (some v) k = k v := id rfl
theorem aw_ext {W W' : AW} (h : ∀ r, W.get r = W'.get r) (hn : W.nx = W'.nx) : W = W' := by
  cases W; cases W'
  simp only [AW.mk.injEq]
  exact ⟨funext h, hn⟩
theorem X_gets (r : Nat) : (X W n l).get r = if r < n then W.get r else l[r - n]? := id rfl
theorem X_nx : (X W n l).nx = rf n l.length := id rfl
theorem al_gets (o : AObj) (r : Nat) : (W.alloc o).get r = if r = W.nx then some o else W.get r := id rfl
theorem pu_gets (o : AObj) (p r : Nat) : (W.put p o).get r = if r = p then some o else W.get r := id rfl
theorem X_start (h : W.ok) : W = X W W.nx [] := by
  refine aw_ext (fun r => ?_) rfl
  rw [X_gets]
  by_cases hr : r < W.nx
  · simp [hr]
  · simp only [hr, if_false]
    cases hg : W.get r with
    | none => simp
    | some o => exact absurd (h r o hg).1 hr
theorem X_alloc {o : AObj} : (X W n l).alloc o = X W n (l ++ [o]) := by
  refine aw_ext (fun r => ?_) (by simp [AW.alloc, X, Nat.add_assoc])
  rw [X_gets, al_gets, X_gets, X_nx, rf]
  by_cases h : r = n + l.length
  · subst h
    rw [if_pos rfl, if_neg (by omega)]
    simp
  · simp only [h, if_false]
    by_cases h2 : r < n
    · simp [h2]
    · simp only [h2, if_false]
      rw [List.getElem?_append]
      split
      · rfl
      · rw [List.getElem?_eq_none (by omega), List.getElem?_eq_none (by simp; omega)]
theorem X_get {k : Nat} : (X W n l).get (rf n k) = l[k]? := by
  simp only [X, rf]
  rw [if_neg (by omega), Nat.add_sub_cancel_left]
theorem X_old {p : Nat} (h : p < n) : (X W n l).get p = W.get p := by
  simp only [X]; rw [if_pos h]
theorem X_put {k : Nat} {o : AObj} (h : k < l.length) : (X W n l).put (rf n k) o = X W n (l.set k o) := by
  refine aw_ext (fun r => ?_) (by simp [AW.put, X])
  rw [X_gets, pu_gets, X_gets, rf]
  by_cases h1 : r = n + k
  · subst h1
    rw [if_pos rfl, if_neg (by omega)]
    simp [h]
  · simp only [h1, if_false]
    by_cases h2 : r < n
    · simp [h2]
    · simp only [h2, if_false]
      rw [List.getElem?_set_ne (by omega)]
def AW.pt (W : AW) (r : Nat) (o : AObj) : AW := W.put r o
theorem X_put1 {k : Nat} {o : AObj} : (X W n l).put (rf n k) o = if k < l.length then X W n (l.set k o) else AW.pt (X W n l) (rf n k) o := by
  split
  · rename_i h; exact X_put h
  · rfl
theorem X_putold {p : Nat} {o : AObj} (h : p < n) : (X W n l).put p o = X (W.put p o) n l := by
  refine aw_ext (fun r => ?_) rfl
  rw [X_gets, pu_gets, X_gets, pu_gets]
  by_cases h1 : r = p
  · subst h1; simp [h]
  · simp [h1]
theorem m_load {g : Bool} {s r off : Nat} : sem E (.load g s) [.ptr r off] W K = loadK (W.get r) off g s (fun v => K v W) := by
  simp only [sem, rsem, loadK]
  cases h : W.get r with
  | none => rfl
  | some o =>
    cases o <;> simp [optK]
    case row cells => cases partV cells off s g <;> rfl
theorem loadK_f {s off : Nat} {cells : List V} {k : V → Prop} : loadK (some (.row cells)) off false s k = optK cells[off]? k := id rfl
theorem loadK_t {s off : Nat} {cells : List V} {k : V → Prop} : loadK (some (.row cells)) off true s k = if off + s ≤ cells.length then k (.agg ((cells.drop off).take s)) else False := by
  simp only [loadK, partV, if_true]
  split <;> rfl
theorem partV_f {s off : Nat} {cells : List V} : partV cells off s false = cells[off]? := id rfl
theorem partV_t {s off : Nat} {cells : List V} : partV cells off s true = if off + s ≤ cells.length then some (.agg ((cells.drop off).take s)) else none := id rfl
theorem m_loadc {g : Bool} {s : Nat} {cells : List V} : sem E (.load g s) [.cptr cells] W K = optK (partV cells 0 s g) (fun v => K v W) := by
  simp only [sem, rsem, tsem]
  cases partV cells 0 s g <;> rfl
theorem m_loadcf {s : Nat} {c : V} {cs : List V} : sem E (.load false s) [.cptr (c :: cs)] W K = K c W := id rfl
theorem m_loadct {s : Nat} {c : V} {cs : List V} : sem E (.load true s) [.cptr (c :: cs)] W K = if s ≤ (c :: cs).length then K (.agg ((c :: cs).take s)) W else False := by
  rw [m_loadc, partV_t, Nat.zero_add, List.drop_zero]
  split <;> rfl
theorem m_store {s r off : Nat} {x : V} : sem E (.store s) [.ptr r off, x] W K = storeK (W.get r) off s x (fun o => K .undef (W.put r o)) := by
  simp only [sem, storeK]
  cases h : W.get r with
  | none => rfl
  | some o => cases o <;> rfl
theorem storeK_row {s off : Nat} {x : V} {cells : List V} {k : AObj → Prop} : storeK (some (.row cells)) off s x k = if x.cells.length = s then (if x.cells.all V.one = true then (if off + s ≤ cells.length then k (.row (cells.take off ++ x.cells ++ cells.drop (off + s))) else False) else False) else False := by
  simp only [storeK]
  by_cases h1 : x.cells.length = s <;> by_cases h2 : x.cells.all V.one = true <;> by_cases h3 : off + s ≤ cells.length <;> simp [h1, h2, h3]
theorem m_fldc {off : Nat} {cells : List V} : sem E (.fld off) [.cptr cells] W K = if off ≤ cells.length then K (.cptr (cells.drop off)) W else False := by
  simp only [sem, rsem, tsem]
  by_cases h : off ≤ cells.length <;> simp [h]
theorem m_fldcc {off : Nat} {c : V} {cs : List V} : sem E (.fld off) [.cptr (c :: cs)] W K = if off ≤ (c :: cs).length then K (.cptr ((c :: cs).drop off)) W else False := m_fldc
theorem m_idxpN {s : Nat} {f : Bool} {xs : List V} {kk : IntKind} {i : Nat} : sem E (.idxp s) [.sl s f xs, .int kk (i : Int)] W K = optK xs[i]? (fun x => K (.cptr x.cells) W) := by
  simp only [sem, rsem, tsem, true_and, Int.natCast_nonneg, if_true, Int.toNat_natCast]
  cases xs[i]? <;> rfl
theorem m_pcall {f : FuncId} {vs : List V} : sem E (.pcall f) vs W K = ∃ v, ACalls E f (vs.map W.frz) W (fun X W' => X = v ∧ W' = W) ∧ K v W := id rfl
theorem m_build {zero : List V} {places : List (Nat × Nat)} {xs : List V} : sem E (.build zero places) xs W K = optK (fillV zero places xs) (fun cs => K (.agg cs) W) := by
  simp only [sem, rsem, tsem]
  cases fillV zero places xs <;> rfl
theorem fillV_nil {cells : List V} : fillV cells [] [] = some cells := id rfl
theorem fillV_cons {cells : List V} {off s : Nat} {ps : List (Nat × Nat)} {x : V} {xs : List V} : fillV cells ((off, s) :: ps) (x :: xs) = if x.cells.length = s then (if off + s ≤ cells.length then fillV (cells.take off ++ x.cells ++ cells.drop (off + s)) ps xs else none) else none := by
  simp only [fillV]
  by_cases h1 : x.cells.length = s <;> by_cases h3 : off + s ≤ cells.length <;> simp [h1, h3]
theorem m_eqn {neg : Bool} {cat : Nat} {x y : V} : sem E (.eqn neg cat) [x, y] W K = optK (eqNil cat x y) (fun b => K (.bool (if neg = true then !b else b)) W) := by
  simp only [sem, rsem, tsem]
  cases eqNil cat x y <;> rfl
theorem eqNil_pn {r o : Nat} : eqNil 0 (.ptr r o) .nilptr = some false := id rfl
theorem eqNil_nn : eqNil 0 .nilptr .nilptr = some true := id rfl
theorem eqNil_mn {r : Nat} : eqNil 2 (.map r) .nilmap = some false := id rfl
theorem eqNil_fn {f : Fn} {a b : List V} : eqNil 3 (.fn f a b) .nilfn = some false := id rfl
theorem cells_int {k : IntKind} {a : Int} : (V.int k a).cells = [.int k a] := id rfl
theorem cells_bool {b : Bool} : (V.bool b).cells = [.bool b] := id rfl
theorem cells_agg {cs : List V} : (V.agg cs).cells = cs := id rfl
theorem cells_nilsl : V.nilsl.cells = [.nilsl] := id rfl
theorem cells_sl {s : Nat} {f : Bool} {xs : List V} : (V.sl s f xs).cells = [.sl s f xs] := id rfl
theorem cells_ptr {r o : Nat} : (V.ptr r o).cells = [.ptr r o] := id rfl
theorem cells_map {r : Nat} : (V.map r).cells = [.map r] := id rfl
theorem cells_fn {f : Fn} {a b : List V} : (V.fn f a b).cells = [.fn f a b] := id rfl
theorem cells_nilfn : V.nilfn.cells = [.nilfn] := id rfl
theorem one_int {k : IntKind} {a : Int} : (V.int k a).one = true := id rfl
theorem one_bool {b : Bool} : (V.bool b).one = true := id rfl
theorem one_nilsl : V.nilsl.one = true := id rfl
theorem one_sl {s : Nat} {f : Bool} {xs : List V} : (V.sl s f xs).one = true := id rfl
theorem one_ptr {r o : Nat} : (V.ptr r o).one = true := id rfl
theorem one_map {r : Nat} : (V.map r).one = true := id rfl
theorem one_fn {f : Fn} {a b : List V} : (V.fn f a b).one = true := id rfl
theorem one_nilfn : V.nilfn.one = true := id rfl
def cellV (o : Option AObj) (off : Nat) (g : Bool) (s : Nat) : Option V := match o with
  | some (.row cells) => partV cells off s g
  | _ => none
theorem cellV_row {off s : Nat} {g : Bool} {cells : List V} : cellV (some (.row cells)) off g s = partV cells off s g := id rfl
theorem rsem_load {g : Bool} {s r off : Nat} : rsem (.load g s) [.ptr r off] W = cellV (W.get r) off g s := by
  simp only [rsem, cellV]
  cases W.get r with
  | none => rfl
  | some o => cases o <;> rfl
theorem rt_cell {A : AFr} {t s : Nat} {g : Bool} : RT.ev A W (.cell t g s) = (match A t with
    | some p => (rsem (.load g s) [p] W).map W.frz
    | none => none) := id rfl
theorem rt_tmp {A : AFr} {t : Nat} : RT.ev A W (.tmp t) = (A t).map W.frz := id rfl
theorem e_resc2 {A : AFr} {t s : Nat} {g : Bool} {b : RT} : resV A W [.cell t g s, b] = (match RT.ev A W (.cell t g s), RT.ev A W b with
    | some x, some y => some (.tuple [x, y])
    | _, _ => none) := by
  simp only [resV, resL]
  cases RT.ev A W (.cell t g s) <;> cases RT.ev A W b <;> rfl
theorem e_resc {A : AFr} {t s : Nat} {g : Bool} : resV A W [.cell t g s] = RT.ev A W (.cell t g s) := by
  simp only [resV, resL]
  cases RT.ev A W (.cell t g s) <;> rfl
theorem undef_t : V.undef = .tuple [] := id rfl
theorem e_alt {a b : PT} {Kf : AFr → AW → Prop} {A : AFr} : aT E (.alt a b) Kf A W = (aT E a Kf A W ∧ aT E b Kf A W) := id rfl
theorem awp_start {c : AC} {Q : Exit → AFr → AW → Prop} {A : AFr} (hok : W.ok) (h : awp E c Q A (X W W.nx [])) : awp E c Q A W := by
  rw [X_start hok]; exact h
theorem backX {x : V} (hok : W.ok) (hx : x.bel W.nx = true) : RetV x (X W W.nx l) x W := .weak (weak_back hok hx fun _ h => X_old h)
end
end Go.AL.S
set_option maxRecDepth 100000
namespace Go.AL.S
open Go Go.AL Go.Proofs
/-! slices that are read alone -/
section
variable {E : Env} {W : AW} {K : V → AW → Prop} {s : Nat} {v : V} {xs : List V}
theorem isS.len (h : isS s v xs) {n : Nat} : sem E (.len 1 n) [v] W K = K (.int .i64 xs.length) W := by
  rcases h with ⟨rfl, rfl⟩ | ⟨rfl, rfl⟩ | ⟨f, rfl⟩ <;> rfl
theorem isS.idx (h : isS s v xs) {k : Nat} {x : V} {kk : IntKind} (hx : xs[k]? = some x) : sem E (.idxp s) [v, .int kk (k : Int)] W K = K (.cptr x.cells) W := by
  rcases h with ⟨rfl, rfl⟩ | ⟨rfl, rfl⟩ | ⟨f, rfl⟩
  · simp at hx
  · simp at hx
  · rw [m_idxpN, hx]; rfl
theorem isS.frz (h : isS s v xs) : W.frz v = v := by
  rcases h with ⟨rfl, rfl⟩ | ⟨rfl, rfl⟩ | ⟨f, rfl⟩ <;> rfl
theorem isS.cells (h : isS s v xs) : v.cells = [v] := by
  rcases h with ⟨rfl, rfl⟩ | ⟨rfl, rfl⟩ | ⟨f, rfl⟩ <;> rfl
theorem isS.one (h : isS s v xs) : v.one = true := by
  rcases h with ⟨rfl, rfl⟩ | ⟨rfl, rfl⟩ | ⟨f, rfl⟩ <;> rfl
theorem isS.lens (h : isS s v xs) {n : Nat} (hl : V.belL n xs = true) : v.bel n = true := by
  rcases h with ⟨rfl, rfl⟩ | ⟨rfl, rfl⟩ | ⟨f, rfl⟩
  · rfl
  · rfl
  · exact hl
theorem isS.loadf (h : isS s v xs) {m : Nat} : sem E (.load false m) [.cptr v.cells] W K = K v W := by
  rcases h with ⟨rfl, rfl⟩ | ⟨rfl, rfl⟩ | ⟨f, rfl⟩ <;> rfl
end
/-- A call that leaves the world as it is. -/
theorem pc {E : Env} {W : AW} {f : FuncId} {vs : List V} {Q : V → AW → Prop} {v : V} (h : ACalls E f vs W fun X W' => X = v ∧ W' = W) (hq : Q v W) : ACalls E f vs W Q :=
  h.mono fun _ _ ⟨h1, h2⟩ => by rw [h1, h2]; exact hq
structure Mi where
  read : Bool
  key : Int
  v : Int
  deriving DecidableEq
def Mi.V (m : Mi) : V := .agg [.bool m.read, .int .u8 m.key, .int .u16 m.v]
def Mi.ok (m : Mi) : Prop := 0 ≤ m.key ∧ m.key < 256 ∧ 0 ≤ m.v ∧ m.v < 65536
section
variable {E : Env} {W : AW} {K : V → AW → Prop} {m m' : Mi}
theorem mi_load : sem E (.load true 3) [.cptr m.V.cells] W K = K m.V W := id rfl
theorem mi_frz : W.frz m.V = m.V := id rfl
theorem mi_has (h : m.ok) : m.V.has (true, [.b, .i .u8, .i .u16]) = true := by
  obtain ⟨h1, h2, h3, h4⟩ := h
  simp [Mi.V, V.has, V.isAgg, V.cells, V.hasKs, V.hasK, Lit.wf, IntKind.min, IntKind.max, IntKind.signed, IntKind.bits]
  omega
theorem mi_keq : m.V.keq m'.V = decide (m = m') := by
  cases m; cases m'
  rename_i a b c a' b' c'
  have hd : decide (Mi.mk a b c = Mi.mk a' b' c') = (decide (a = a') && (decide (b = b') && decide (c = c'))) := by
    simp only [Mi.mk.injEq, Bool.decide_and]
  rw [hd]
  simp only [Mi.V, V.keq, V.cells, V.eqs, V.eq1, Bool.and_true]
  have h1 : (a == a') = decide (a = a') := by cases a <;> cases a' <;> rfl
  have h2 : (b == b') = decide (b = b') := by by_cases e : b = b' <;> simp [e]
  have h3 : (c == c') = decide (c = c') := by by_cases e : c = c' <;> simp [e]
  rw [h1, h2, h3]
theorem mi_eqv (h : m.ok) (h' : m'.ok) {neg : Bool} : sem E (.eqv neg (true, [.b, .i .u8, .i .u16])) [m.V, m'.V] W K = K (.bool (if neg = true then !decide (m = m') else decide (m = m'))) W := by
  simp [sem, rsem, tsem, mi_has h, mi_has h', mi_keq]
end
theorem cmpne {a b : Int} : (a != b) = decide (a ≠ b) := by
  by_cases e : a = b <;> simp [e]
theorem cmpeq {a b : Int} : (a == b) = decide (a = b) := by
  by_cases e : a = b <;> simp [e]
/-! lists of lists, as they come in and as they are kept -/
def intsV (l : List Int) : List V := l.map (V.int .u16)
def isEl (v : V) (o : Option (List Int)) : Prop := (v = .nilsl ∧ o = none) ∨ (v = .slz ∧ o = some []) ∨ ∃ f l, o = some l ∧ v = .sl 1 f (intsV l)
def nums (o : Option (List Int)) : List Int := o.getD []
theorem isEl.isS {v : V} {o : Option (List Int)} (h : isEl v o) : isS 1 v (intsV (nums o)) := by
  rcases h with ⟨rfl, rfl⟩ | ⟨rfl, rfl⟩ | ⟨f, l, rfl, rfl⟩
  · exact .inl ⟨rfl, rfl⟩
  · exact .inr (.inl ⟨rfl, rfl⟩)
  · exact .mk
theorem belL_ints (l : List Int) (n : Nat) : V.belL n (intsV l) = true := by
  induction l with
  | nil => rfl
  | cons x l ih =>
    simp only [intsV, List.map_cons, V.belL, Bool.and_eq_true]
    exact ⟨rfl, ih⟩
theorem belL_mi (l : List Mi) (n : Nat) : V.belL n (l.map Mi.V) = true := by
  induction l with
  | nil => rfl
  | cons x l ih =>
    simp only [List.map_cons, V.belL, Bool.and_eq_true]
    exact ⟨rfl, ih⟩
def isMs (v : V) (l : List Mi) : Prop := isS 3 v (l.map Mi.V)
def isLs (v : V) (ls : List (Option (List Int))) : Prop := ∃ xs, isS 1 v xs ∧ xs.length = ls.length ∧ ∀ k (h : k < xs.length) (h' : k < ls.length), isEl xs[k] ls[k]
def elV : Option (List Int) → V
  | none => .nilsl
  | some l => .sl 1 l.isEmpty (intsV l)
def lsV (ls : List (Option (List Int))) : V := if ls = [] then .nilsl else .sl 1 false (ls.map elV)
def msV (l : List Mi) : V := if l = [] then .nilsl else .sl 3 false (l.map Mi.V)
theorem elV_isEl (o : Option (List Int)) : isEl (elV o) o := by
  cases o with
  | none => exact .inl ⟨rfl, rfl⟩
  | some l => exact .inr (.inr ⟨_, l, rfl, rfl⟩)
theorem lsV_isLs (ls : List (Option (List Int))) : isLs (lsV ls) ls := by
  refine ⟨ls.map elV, ?_, by simp, fun k h h' => ?_⟩
  · unfold lsV
    split
    · rename_i h; subst h; exact .inl ⟨rfl, rfl⟩
    · exact .mk
  · rw [List.getElem_map]; exact elV_isEl _
theorem msV_isMs (l : List Mi) : isMs (msV l) l := by
  unfold msV isMs
  split
  · rename_i h; subst h; exact .inl ⟨rfl, rfl⟩
  · exact .mk
theorem mi_at {l : List Mi} {k : Nat} (h : k < l.length) : (l.map Mi.V)[k]? = some (l[k]).V := by simp [h]
theorem int_at {l : List Int} {k : Nat} (h : k < l.length) : (intsV l)[k]? = some (.int .u16 l[k]) := by simp [intsV, h]
theorem ints_len (l : List Int) : (intsV l).length = l.length := by simp [intsV]
theorem int_load {E : Env} {W : AW} {K : V → AW → Prop} {k : IntKind} {a : Int} : sem E (.load false 1) [.cptr (V.int k a).cells] W K = K (.int k a) W := id rfl
end Go.AL.S
set_option maxRecDepth 100000
namespace Go.AL.S
open Go Go.AL Go.Proofs
/- slices.Equal[[]umpire/api.Micro,umpire/api.Micro] -/
def c50 : AC := (AC.seq (AC.reg [
  ⟨(some 4), .mov, [.c (.bool false)], none⟩])
 (AC.seq (AC.seq (AC.reg [
  ⟨(some 6), .mov, [.t 0], none⟩,
  ⟨(some 7), .len 1 0, [.t 6], none⟩,
  ⟨(some 8), .mov, [.t 1], none⟩,
  ⟨(some 9), .len 1 0, [.t 8], none⟩,
  ⟨(some 10), .bin .neq, [.t 7, .t 9], none⟩])
 (AC.cond (.t 10)
  (AC.seq (AC.reg [
   ⟨(some 4), .mov, [.c (.bool false)], none⟩])
  AC.ret)
  AC.skip))
 (AC.seq (AC.seq (AC.reg [
  ⟨(some 11), .mov, [.t 0], none⟩,
  ⟨(some 12), .len 1 0, [.t 11], none⟩,
  ⟨(some 13), .mov, [.c (.int .i64 0)], none⟩])
 (AC.block 0
  (AC.loop
   (AC.seq (AC.reg [
    ⟨(some 14), .bin .lss, [.t 13, .t 12], none⟩])
   (AC.seq (AC.cond (.t 14)
    AC.skip
    (AC.exit 0))
   (AC.seq (AC.block 1
    (AC.seq (AC.reg [
     ⟨(some 15), .mov, [.t 13], none⟩,
     ⟨(some 5), .mov, [.t 15], none⟩])
    (AC.seq (AC.par
     (PT.step 0 ⟨(some 16), .mov, [.t 0], none⟩
     (PT.step 1 ⟨(some 17), .mov, [.t 5], none⟩
     (PT.step 4 ⟨(some 20), .mov, [.t 1], none⟩
     (PT.step 5 ⟨(some 21), .mov, [.t 5], none⟩
     (PT.step 2 ⟨(some 18), .idxp 3, [.t 16, .t 17], none⟩
     (PT.step 3 ⟨(some 19), .load true 3, [.t 18], none⟩
     (PT.step 6 ⟨(some 22), .idxp 3, [.t 20, .t 21], none⟩
     (PT.step 7 ⟨(some 23), .load true 3, [.t 22], none⟩
     (PT.step 8 ⟨(some 24), .eqv true (true, [.b, .i .u8, .i .u16]), [.t 19, .t 23], none⟩
     PT.done))))))))))
    (AC.cond (.t 24)
     (AC.seq (AC.reg [
      ⟨(some 4), .mov, [.c (.bool false)], none⟩])
     AC.ret)
     AC.skip))))
   (AC.reg [
    ⟨(some 25), .bin .add, [.t 13, .c (.int .i64 1)], none⟩,
    ⟨(some 13), .mov, [.t 25], none⟩])))))))
 (AC.seq (AC.reg [
  ⟨(some 4), .mov, [.c (.bool true)], none⟩])
 AC.ret))))
def r50 : AC × List RT × Nat := (c50, [.tmp 4], 26)
theorem ok50e : compF Tryz.prog Tryz.f50 ⟨false, false, []⟩ = some r50 := by kernel_rfl
/- slices.Equal[[]uint16,uint16] -/
def c52 : AC := (AC.seq (AC.reg [
  ⟨(some 4), .mov, [.c (.bool false)], none⟩])
 (AC.seq (AC.seq (AC.reg [
  ⟨(some 6), .mov, [.t 0], none⟩,
  ⟨(some 7), .len 1 0, [.t 6], none⟩,
  ⟨(some 8), .mov, [.t 1], none⟩,
  ⟨(some 9), .len 1 0, [.t 8], none⟩,
  ⟨(some 10), .bin .neq, [.t 7, .t 9], none⟩])
 (AC.cond (.t 10)
  (AC.seq (AC.reg [
   ⟨(some 4), .mov, [.c (.bool false)], none⟩])
  AC.ret)
  AC.skip))
 (AC.seq (AC.seq (AC.reg [
  ⟨(some 11), .mov, [.t 0], none⟩,
  ⟨(some 12), .len 1 0, [.t 11], none⟩,
  ⟨(some 13), .mov, [.c (.int .i64 0)], none⟩])
 (AC.block 0
  (AC.loop
   (AC.seq (AC.reg [
    ⟨(some 14), .bin .lss, [.t 13, .t 12], none⟩])
   (AC.seq (AC.cond (.t 14)
    AC.skip
    (AC.exit 0))
   (AC.seq (AC.block 1
    (AC.seq (AC.reg [
     ⟨(some 15), .mov, [.t 13], none⟩,
     ⟨(some 5), .mov, [.t 15], none⟩])
    (AC.seq (AC.par
     (PT.step 0 ⟨(some 16), .mov, [.t 0], none⟩
     (PT.step 1 ⟨(some 17), .mov, [.t 5], none⟩
     (PT.step 4 ⟨(some 20), .mov, [.t 1], none⟩
     (PT.step 5 ⟨(some 21), .mov, [.t 5], none⟩
     (PT.step 2 ⟨(some 18), .idxp 1, [.t 16, .t 17], none⟩
     (PT.step 3 ⟨(some 19), .load false 1, [.t 18], none⟩
     (PT.step 6 ⟨(some 22), .idxp 1, [.t 20, .t 21], none⟩
     (PT.step 7 ⟨(some 23), .load false 1, [.t 22], none⟩
     (PT.step 8 ⟨(some 24), .bin .neq, [.t 19, .t 23], none⟩
     PT.done))))))))))
    (AC.cond (.t 24)
     (AC.seq (AC.reg [
      ⟨(some 4), .mov, [.c (.bool false)], none⟩])
     AC.ret)
     AC.skip))))
   (AC.reg [
    ⟨(some 25), .bin .add, [.t 13, .c (.int .i64 1)], none⟩,
    ⟨(some 13), .mov, [.t 25], none⟩])))))))
 (AC.seq (AC.reg [
  ⟨(some 4), .mov, [.c (.bool true)], none⟩])
 AC.ret))))
def r52 : AC × List RT × Nat := (c52, [.tmp 4], 26)
theorem ok52e : compF Tryz.prog Tryz.f52 ⟨false, false, []⟩ = some r52 := by kernel_rfl
/- umpire/umpireref01.Same -/
def c56 : AC := (AC.seq (AC.reg [
  ⟨(some 4), .mov, [.c (.bool false)], none⟩])
 (AC.seq (AC.seq (AC.reg [
  ⟨(some 6), .mov, [.t 0], none⟩,
  ⟨(some 7), .len 1 0, [.t 6], none⟩,
  ⟨(some 8), .mov, [.t 1], none⟩,
  ⟨(some 9), .len 1 0, [.t 8], none⟩,
  ⟨(some 10), .bin .neq, [.t 7, .t 9], none⟩])
 (AC.cond (.t 10)
  (AC.seq (AC.reg [
   ⟨(some 4), .mov, [.c (.bool false)], none⟩])
  AC.ret)
  AC.skip))
 (AC.seq (AC.seq (AC.reg [
  ⟨(some 5), .mov, [.c (.int .i64 0)], none⟩])
 (AC.block 0
  (AC.loop
   (AC.seq (AC.seq (AC.reg [
    ⟨(some 11), .mov, [.t 5], none⟩,
    ⟨(some 12), .mov, [.t 0], none⟩,
    ⟨(some 13), .len 1 0, [.t 12], none⟩,
    ⟨(some 14), .bin .lss, [.t 11, .t 13], none⟩])
   (AC.cond (.t 14)
    AC.skip
    (AC.exit 0)))
   (AC.seq (AC.block 1
    (AC.seq (AC.par
     (PT.step 0 ⟨(some 17), .mov, [.t 0], none⟩
     (PT.step 1 ⟨(some 18), .mov, [.t 5], none⟩
     (PT.step 4 ⟨(some 21), .mov, [.t 1], none⟩
     (PT.step 5 ⟨(some 22), .mov, [.t 5], none⟩
     (PT.step 2 ⟨(some 19), .idxp 1, [.t 17, .t 18], none⟩
     (PT.step 3 ⟨(some 20), .load false 1, [.t 19], none⟩
     (PT.step 6 ⟨(some 23), .idxp 1, [.t 21, .t 22], none⟩
     (PT.step 7 ⟨(some 24), .load false 1, [.t 23], none⟩
     (PT.step 8 ⟨(some 25), .bin .neq, [.t 20, .t 24], none⟩
     PT.done))))))))))
    (AC.cond (.t 25)
     (AC.seq (AC.reg [
      ⟨(some 4), .mov, [.c (.bool false)], none⟩])
     AC.ret)
     AC.skip)))
   (AC.reg [
    ⟨(some 15), .mov, [.t 5], none⟩,
    ⟨(some 16), .bin .add, [.t 15, .c (.int .i64 1)], none⟩,
    ⟨(some 5), .mov, [.t 16], none⟩]))))))
 (AC.seq (AC.reg [
  ⟨(some 4), .mov, [.c (.bool true)], none⟩])
 AC.ret))))
def r56 : AC × List RT × Nat := (c56, [.tmp 4], 26)
theorem ok56e : compF Tryz.prog Tryz.f56 ⟨false, false, []⟩ = some r56 := by kernel_rfl
variable {E : Env}
theorem take_ext {α : Type} {l m : List α} {k : Nat} (h : l.take k = m.take k) (hl : k < l.length) (hm : k < m.length) (e : l[k] = m[k]) : l.take (k + 1) = m.take (k + 1) := by
  rw [List.take_add_one, List.take_add_one, h, List.getElem?_eq_getElem hl, List.getElem?_eq_getElem hm, e]
theorem ne_at {α : Type} {l m : List α} {k : Nat} (hl : k < l.length) (hm : k < m.length) (e : l[k] ≠ m[k]) : l ≠ m := by
  intro h; subst h; exact e rfl
theorem eqMi_c (hP : E.P = Tryz.prog) (W : AW) {v v' : V} {l l' : List Mi} (h : isMs v l) (h' : isMs v' l') (hk : ∀ m ∈ l, m.ok) (hk' : ∀ m ∈ l', m.ok) (hl : l.length < 2 ^ 40) : ACalls E 50 [v, v'] W fun X W' => X = .bool (decide (l = l')) ∧ W' = W := by
  refine ACalls.of hP Tryz.func50 ok50e (by simp) fun _ hok => ?_
  have f1 := h.frz (W := W)
  by_cases hlen : l.length = l'.length
  · simp only [c50, e_seq, e_reg, cond_if, e_block, e_skip, e_cons, e_nil, e_plain, evs_nil, evs_cons, ev_t, ev_c, argsA_ap, e_putK, e_putd, e_put, e_then, ↓reduceIte, Nat.reduceEqDiff, reduceCtorEq, List.getElem?_cons_zero, List.getElem?_cons_succ, Bool.false_eq_true, sem_mov, sem_neq, h.len, h'.len, List.length_map, hlen, bne_self_eq_false]
    rw [e_loop]
    refine ALoop.go (B := awp E _) (fun h => awp_mono _ h) (fun (k : Nat) A1 W1 => A1 0 = some v ∧ A1 1 = some v' ∧ A1 12 = some (.int .i64 l'.length) ∧ A1 13 = some (.int .i64 k) ∧ k ≤ l'.length ∧ W1 = W ∧ l.take k = l'.take k) (fun k => l'.length - k) 0
      ⟨rfl, rfl, rfl, rfl, Nat.zero_le _, rfl, rfl⟩ ?_
    rintro k A1 W1 ⟨g0, g1, g12, g13, gk, rfl, ge⟩ _
    by_cases hk1 : k < l'.length
    · have hk2 : k < l.length := by omega
      have o1 := hk l[k] (List.getElem_mem hk2)
      have o2 := hk' l'[k] (List.getElem_mem hk1)
      by_cases he : l[k] = l'[k]
      · simp (config := { maxSteps := 2000000 }) (disch := omega) only [e_seq, e_reg, cond_if, e_block, e_skip, e_par, e_done, e_step, e_cons, e_nil, e_plain, evs_nil, evs_cons, ev_t, ev_c, e_putK, e_putd, e_put, e_then, e_blk, ↓reduceIte, Nat.reduceEqDiff, reduceCtorEq, Bool.false_eq_true, sem_mov, sem_add, sem_lss, Bool.not_true, g0, g1, g12, g13, clt, hk1, decide_true, h.idx (mi_at hk2), h'.idx (mi_at hk1), mi_load, mi_eqv o1 o2, decide_eq_true he, wadd1]
        exact ⟨k + 1, ⟨(by first | trivial | rfl | omega), (by first | trivial | rfl | omega), (by first | trivial | rfl | omega), (by first | trivial | rfl | omega), (by first | trivial | rfl | omega), (by first | trivial | rfl | omega), take_ext ge hk2 hk1 he⟩, by omega, Nat.le_refl _⟩
      · simp (config := { maxSteps := 2000000 }) (disch := omega) only [e_seq, e_reg, cond_if, e_block, e_ret, e_skip, e_par, e_done, e_step, e_cons, e_nil, e_plain, evs_nil, evs_cons, ev_t, ev_c, e_putK, e_putd, e_put, e_then, e_then_ret, e_blk_ret, retQ_ret, e_res1, ↓reduceIte, Nat.reduceEqDiff, reduceCtorEq, Option.map_some, frz_bool, sem_mov, sem_lss, Bool.not_false, g0, g1, g12, g13, clt, hk1, decide_true, h.idx (mi_at hk2), h'.idx (mi_at hk1), mi_load, mi_eqv o1 o2, decide_eq_false he]
        exact ⟨_, rfl, _, _, .weak weak_id, Nat.le_refl _, by simp [ne_at hk2 hk1 he], rfl⟩
    · obtain rfl : k = l'.length := by omega
      simp only [e_seq, e_reg, cond_if, e_exit, e_ret, e_cons, e_nil, e_plain, evs_nil, evs_cons, ev_t, ev_c, e_putK, e_putd, e_put, e_then, e_then_exit, e_blk_exit, retQ_ret, e_res1, ↓reduceIte, Option.map_some, Bool.false_eq_true, frz_bool, sem_mov, sem_lss, g12, g13, clt, hk1, decide_false]
      refine ⟨_, rfl, _, _, .weak weak_id, Nat.le_refl _, ?_, rfl⟩
      rw [List.take_length, ← hlen, List.take_length] at ge
      simp [ge]
  · have hne : l ≠ l' := fun e => hlen (by rw [e])
    have hb : ((l.length : Int) != (l'.length : Int)) = true := by simp; omega
    simp only [c50, e_seq, e_reg, cond_if, e_ret, e_cons, e_nil, e_plain, evs_nil, evs_cons, ev_t, ev_c, argsA_ap, e_putK, e_putd, e_put, e_then, e_then_ret, retQ_ret, e_res1, ↓reduceIte, Nat.reduceEqDiff, reduceCtorEq, Option.map_some, List.getElem?_cons_zero, List.getElem?_cons_succ, frz_bool, sem_mov, sem_neq, h.len, h'.len, List.length_map, hb]
    exact ⟨_, rfl, _, _, .weak weak_id, Nat.le_refl _, by simp [hne], rfl⟩
theorem eqI_c (hP : E.P = Tryz.prog) (W : AW) {v v' : V} {l l' : List Int} (h : isS 1 v (intsV l)) (h' : isS 1 v' (intsV l')) (hl : l.length < 2 ^ 40) : ACalls E 52 [v, v'] W fun X W' => X = .bool (decide (l = l')) ∧ W' = W := by
  refine ACalls.of hP Tryz.func52 ok52e (by simp) fun _ hok => ?_
  have f1 := h.frz (W := W)
  by_cases hlen : l.length = l'.length
  · simp only [c52, e_seq, e_reg, cond_if, e_block, e_skip, e_cons, e_nil, e_plain, evs_nil, evs_cons, ev_t, ev_c, argsA_ap, e_putK, e_putd, e_put, e_then, ↓reduceIte, Nat.reduceEqDiff, reduceCtorEq, List.getElem?_cons_zero, List.getElem?_cons_succ, Bool.false_eq_true, sem_mov, sem_neq, h.len, h'.len, ints_len, hlen, bne_self_eq_false]
    rw [e_loop]
    refine ALoop.go (B := awp E _) (fun h => awp_mono _ h) (fun (k : Nat) A1 W1 => A1 0 = some v ∧ A1 1 = some v' ∧ A1 12 = some (.int .i64 l'.length) ∧ A1 13 = some (.int .i64 k) ∧ k ≤ l'.length ∧ W1 = W ∧ l.take k = l'.take k) (fun k => l'.length - k) 0
      ⟨rfl, rfl, rfl, rfl, Nat.zero_le _, rfl, rfl⟩ ?_
    rintro k A1 W1 ⟨g0, g1, g12, g13, gk, rfl, ge⟩ _
    by_cases hk1 : k < l'.length
    · have hk2 : k < l.length := by omega
      by_cases he : l[k] = l'[k]
      · simp (config := { maxSteps := 2000000 }) (disch := omega) only [e_seq, e_reg, cond_if, e_block, e_skip, e_par, e_done, e_step, e_cons, e_nil, e_plain, evs_nil, evs_cons, ev_t, ev_c, e_putK, e_putd, e_put, e_then, e_blk, ↓reduceIte, Nat.reduceEqDiff, reduceCtorEq, Bool.false_eq_true, sem_mov, sem_add, sem_lss, sem_neq, m_loadcf, cells_int, Bool.not_true, g0, g1, g12, g13, clt, hk1, decide_true, h.idx (int_at hk2), h'.idx (int_at hk1), cmpne, decide_not, decide_eq_true he, wadd1]
        exact ⟨k + 1, ⟨(by first | trivial | rfl | omega), (by first | trivial | rfl | omega), (by first | trivial | rfl | omega), (by first | trivial | rfl | omega), (by first | trivial | rfl | omega), (by first | trivial | rfl | omega), take_ext ge hk2 hk1 he⟩, by omega, Nat.le_refl _⟩
      · simp (config := { maxSteps := 2000000 }) (disch := omega) only [e_seq, e_reg, cond_if, e_block, e_ret, e_skip, e_par, e_done, e_step, e_cons, e_nil, e_plain, evs_nil, evs_cons, ev_t, ev_c, e_putK, e_putd, e_put, e_then, e_then_ret, e_blk_ret, retQ_ret, e_res1, ↓reduceIte, Nat.reduceEqDiff, reduceCtorEq, Option.map_some, frz_bool, sem_mov, sem_lss, sem_neq, m_loadcf, cells_int, Bool.not_false, g0, g1, g12, g13, clt, hk1, decide_true, h.idx (int_at hk2), h'.idx (int_at hk1), cmpne, decide_not, decide_eq_false he]
        exact ⟨_, rfl, _, _, .weak weak_id, Nat.le_refl _, by simp [ne_at hk2 hk1 he], rfl⟩
    · obtain rfl : k = l'.length := by omega
      simp only [e_seq, e_reg, cond_if, e_exit, e_ret, e_cons, e_nil, e_plain, evs_nil, evs_cons, ev_t, ev_c, e_putK, e_putd, e_put, e_then, e_then_exit, e_blk_exit, retQ_ret, e_res1, ↓reduceIte, Option.map_some, Bool.false_eq_true, frz_bool, sem_mov, sem_lss, g12, g13, clt, hk1, decide_false]
      refine ⟨_, rfl, _, _, .weak weak_id, Nat.le_refl _, ?_, rfl⟩
      rw [List.take_length, ← hlen, List.take_length] at ge
      simp [ge]
  · have hne : l ≠ l' := fun e => hlen (by rw [e])
    have hb : ((l.length : Int) != (l'.length : Int)) = true := by simp; omega
    simp only [c52, e_seq, e_reg, cond_if, e_ret, e_cons, e_nil, e_plain, evs_nil, evs_cons, ev_t, ev_c, argsA_ap, e_putK, e_putd, e_put, e_then, e_then_ret, retQ_ret, e_res1, ↓reduceIte, Nat.reduceEqDiff, reduceCtorEq, Option.map_some, List.getElem?_cons_zero, List.getElem?_cons_succ, frz_bool, sem_mov, sem_neq, h.len, h'.len, ints_len, hb]
    exact ⟨_, rfl, _, _, .weak weak_id, Nat.le_refl _, by simp [hne], rfl⟩
theorem same01_c (hP : E.P = Tryz.prog) (W : AW) {v v' : V} {l l' : List Int} (h : isS 1 v (intsV l)) (h' : isS 1 v' (intsV l')) (hl : l.length < 2 ^ 40) : ACalls E 56 [v, v'] W fun X W' => X = .bool (decide (l = l')) ∧ W' = W := by
  refine ACalls.of hP Tryz.func56 ok56e (by simp) fun _ hok => ?_
  have f1 := h.frz (W := W)
  by_cases hlen : l.length = l'.length
  · simp only [c56, e_seq, e_reg, cond_if, e_block, e_skip, e_cons, e_nil, e_plain, evs_nil, evs_cons, ev_t, ev_c, argsA_ap, e_putK, e_putd, e_put, e_then, ↓reduceIte, Nat.reduceEqDiff, reduceCtorEq, List.getElem?_cons_zero, List.getElem?_cons_succ, Bool.false_eq_true, sem_mov, sem_neq, h.len, h'.len, ints_len, hlen, bne_self_eq_false]
    rw [e_loop]
    refine ALoop.go (B := awp E _) (fun h => awp_mono _ h) (fun (k : Nat) A1 W1 => A1 0 = some v ∧ A1 1 = some v' ∧ A1 5 = some (.int .i64 k) ∧ k ≤ l'.length ∧ W1 = W ∧ l.take k = l'.take k) (fun k => l'.length - k) 0
      ⟨rfl, rfl, rfl, Nat.zero_le _, rfl, rfl⟩ ?_
    rintro k A1 W1 ⟨g0, g1, g13, gk, rfl, ge⟩ _
    by_cases hk1 : k < l'.length
    · have hk2 : k < l.length := by omega
      by_cases he : l[k] = l'[k]
      · simp (config := { maxSteps := 2000000 }) (disch := omega) only [e_seq, e_reg, cond_if, e_block, e_skip, e_par, e_done, e_step, e_cons, e_nil, e_plain, evs_nil, evs_cons, ev_t, ev_c, e_putK, e_putd, e_put, e_then, e_blk, ↓reduceIte, Nat.reduceEqDiff, reduceCtorEq, Bool.false_eq_true, sem_mov, sem_add, sem_lss, sem_neq, m_loadcf, cells_int, Bool.not_true, h.len, ints_len, hlen, g0, g1, g13, clt, hk1, decide_true, h.idx (int_at hk2), h'.idx (int_at hk1), cmpne, decide_not, decide_eq_true he, wadd1]
        exact ⟨k + 1, ⟨(by first | trivial | rfl | omega), (by first | trivial | rfl | omega), (by first | trivial | rfl | omega), (by first | trivial | rfl | omega), (by first | trivial | rfl | omega), take_ext ge hk2 hk1 he⟩, by omega, Nat.le_refl _⟩
      · simp (config := { maxSteps := 2000000 }) (disch := omega) only [e_seq, e_reg, cond_if, e_block, e_ret, e_skip, e_par, e_done, e_step, e_cons, e_nil, e_plain, evs_nil, evs_cons, ev_t, ev_c, e_putK, e_putd, e_put, e_then, e_then_ret, e_blk_ret, retQ_ret, e_res1, ↓reduceIte, Nat.reduceEqDiff, reduceCtorEq, Option.map_some, frz_bool, sem_mov, sem_lss, sem_neq, m_loadcf, cells_int, Bool.not_false, h.len, ints_len, hlen, g0, g1, g13, clt, hk1, decide_true, h.idx (int_at hk2), h'.idx (int_at hk1), cmpne, decide_not, decide_eq_false he]
        exact ⟨_, rfl, _, _, .weak weak_id, Nat.le_refl _, by simp [ne_at hk2 hk1 he], rfl⟩
    · obtain rfl : k = l'.length := by omega
      simp only [e_seq, e_reg, cond_if, e_exit, e_ret, e_cons, e_nil, e_plain, evs_nil, evs_cons, ev_t, ev_c, e_putK, e_putd, e_put, e_then, e_then_exit, e_blk_exit, retQ_ret, e_res1, ↓reduceIte, Nat.reduceEqDiff, reduceCtorEq, Option.map_some, Bool.false_eq_true, frz_bool, sem_mov, sem_lss, h.len, ints_len, hlen, g0, g13, clt, hk1, decide_false]
      refine ⟨_, rfl, _, _, .weak weak_id, Nat.le_refl _, ?_, rfl⟩
      rw [List.take_length, ← hlen, List.take_length] at ge
      simp [ge]
  · have hne : l ≠ l' := fun e => hlen (by rw [e])
    have hb : ((l.length : Int) != (l'.length : Int)) = true := by simp; omega
    simp only [c56, e_seq, e_reg, cond_if, e_ret, e_cons, e_nil, e_plain, evs_nil, evs_cons, ev_t, ev_c, argsA_ap, e_putK, e_putd, e_put, e_then, e_then_ret, retQ_ret, e_res1, ↓reduceIte, Nat.reduceEqDiff, reduceCtorEq, Option.map_some, List.getElem?_cons_zero, List.getElem?_cons_succ, frz_bool, sem_mov, sem_neq, h.len, h'.len, ints_len, hb]
    exact ⟨_, rfl, _, _, .weak weak_id, Nat.le_refl _, by simp [hne], rfl⟩
end Go.AL.S
set_option maxRecDepth 100000
namespace Go.AL.S
open Go Go.AL Go.Proofs
/- slices.EqualFunc[[][]uint16,[][]uint16,[]uint16,[]uint16] -/
def c51 : AC := (AC.seq (AC.reg [
  ⟨(some 6), .mov, [.c (.bool false)], none⟩])
 (AC.seq (AC.seq (AC.reg [
  ⟨(some 10), .mov, [.t 0], none⟩,
  ⟨(some 11), .len 1 0, [.t 10], none⟩,
  ⟨(some 12), .mov, [.t 1], none⟩,
  ⟨(some 13), .len 1 0, [.t 12], none⟩,
  ⟨(some 14), .bin .neq, [.t 11, .t 13], none⟩])
 (AC.cond (.t 14)
  (AC.seq (AC.reg [
   ⟨(some 6), .mov, [.c (.bool false)], none⟩])
  AC.ret)
  AC.skip))
 (AC.seq (AC.seq (AC.reg [
  ⟨(some 15), .mov, [.t 0], none⟩,
  ⟨(some 16), .len 1 0, [.t 15], none⟩,
  ⟨(some 17), .mov, [.c (.int .i64 0)], none⟩])
 (AC.block 0
  (AC.loop
   (AC.seq (AC.reg [
    ⟨(some 18), .bin .lss, [.t 17, .t 16], none⟩])
   (AC.seq (AC.cond (.t 18)
    AC.skip
    (AC.exit 0))
   (AC.seq (AC.block 1
    (AC.seq (AC.reg [
     ⟨(some 19), .mov, [.t 17], none⟩,
     ⟨(some 20), .idxp 1, [.t 15, .t 17], none⟩,
     ⟨(some 21), .load false 1, [.t 20], none⟩,
     ⟨(some 7), .mov, [.t 19], none⟩,
     ⟨(some 8), .mov, [.t 21], none⟩])
    (AC.seq (AC.reg [
     ⟨(some 22), .mov, [.t 1], none⟩,
     ⟨(some 23), .mov, [.t 7], none⟩,
     ⟨(some 24), .idxp 1, [.t 22, .t 23], none⟩,
     ⟨(some 25), .load false 1, [.t 24], none⟩,
     ⟨(some 9), .mov, [.t 25], none⟩])
    (AC.seq (AC.reg [
     ⟨(some 26), .mov, [.t 2], none⟩,
     ⟨(some 27), .mov, [.t 8], none⟩,
     ⟨(some 28), .mov, [.t 9], none⟩,
     ⟨(some 29), .callv, [.t 26, .t 27, .t 28], none⟩,
     ⟨(some 30), .un .not, [.t 29], none⟩])
    (AC.cond (.t 30)
     (AC.seq (AC.reg [
      ⟨(some 6), .mov, [.c (.bool false)], none⟩])
     AC.ret)
     AC.skip)))))
   (AC.reg [
    ⟨(some 31), .bin .add, [.t 17, .c (.int .i64 1)], none⟩,
    ⟨(some 17), .mov, [.t 31], none⟩])))))))
 (AC.seq (AC.reg [
  ⟨(some 6), .mov, [.c (.bool true)], none⟩])
 AC.ret))))
def r51 : AC × List RT × Nat := (c51, [.tmp 6], 32)
theorem ok51e : compF Tryz.prog Tryz.f51 ⟨false, false, []⟩ = some r51 := by kernel_rfl
/- slices.IndexFunc[[]umpire/api.Micro,umpire/api.Micro] -/
def c132 : AC := (AC.seq (AC.reg [
  ⟨(some 4), .mov, [.c (.int .i64 0)], none⟩])
 (AC.seq (AC.seq (AC.reg [
  ⟨(some 6), .mov, [.t 0], none⟩,
  ⟨(some 7), .len 1 0, [.t 6], none⟩,
  ⟨(some 8), .mov, [.c (.int .i64 0)], none⟩])
 (AC.block 0
  (AC.loop
   (AC.seq (AC.reg [
    ⟨(some 9), .bin .lss, [.t 8, .t 7], none⟩])
   (AC.seq (AC.cond (.t 9)
    AC.skip
    (AC.exit 0))
   (AC.seq (AC.block 1
    (AC.seq (AC.reg [
     ⟨(some 10), .mov, [.t 8], none⟩,
     ⟨(some 5), .mov, [.t 10], none⟩])
    (AC.seq (AC.reg [
     ⟨(some 11), .mov, [.t 1], none⟩,
     ⟨(some 12), .mov, [.t 0], none⟩,
     ⟨(some 13), .mov, [.t 5], none⟩,
     ⟨(some 14), .idxp 3, [.t 12, .t 13], none⟩,
     ⟨(some 15), .load true 3, [.t 14], none⟩,
     ⟨(some 16), .callv, [.t 11, .t 15], none⟩])
    (AC.cond (.t 16)
     (AC.seq (AC.reg [
      ⟨(some 17), .mov, [.t 5], none⟩,
      ⟨(some 4), .mov, [.t 17], none⟩])
     AC.ret)
     AC.skip))))
   (AC.reg [
    ⟨(some 18), .bin .add, [.t 8, .c (.int .i64 1)], none⟩,
    ⟨(some 8), .mov, [.t 18], none⟩])))))))
 (AC.seq (AC.reg [
  ⟨(some 4), .mov, [.c (.int .i64 (-1))], none⟩])
 AC.ret)))
def r132 : AC × List RT × Nat := (c132, [.tmp 4], 19)
theorem ok132e : compF Tryz.prog Tryz.f132 ⟨false, false, []⟩ = some r132 := by kernel_rfl
/- slices.IndexFunc[[][]uint16,[]uint16] -/
def c133 : AC := (AC.seq (AC.reg [
  ⟨(some 4), .mov, [.c (.int .i64 0)], none⟩])
 (AC.seq (AC.seq (AC.reg [
  ⟨(some 6), .mov, [.t 0], none⟩,
  ⟨(some 7), .len 1 0, [.t 6], none⟩,
  ⟨(some 8), .mov, [.c (.int .i64 0)], none⟩])
 (AC.block 0
  (AC.loop
   (AC.seq (AC.reg [
    ⟨(some 9), .bin .lss, [.t 8, .t 7], none⟩])
   (AC.seq (AC.cond (.t 9)
    AC.skip
    (AC.exit 0))
   (AC.seq (AC.block 1
    (AC.seq (AC.reg [
     ⟨(some 10), .mov, [.t 8], none⟩,
     ⟨(some 5), .mov, [.t 10], none⟩])
    (AC.seq (AC.reg [
     ⟨(some 11), .mov, [.t 1], none⟩,
     ⟨(some 12), .mov, [.t 0], none⟩,
     ⟨(some 13), .mov, [.t 5], none⟩,
     ⟨(some 14), .idxp 1, [.t 12, .t 13], none⟩,
     ⟨(some 15), .load false 1, [.t 14], none⟩,
     ⟨(some 16), .callv, [.t 11, .t 15], none⟩])
    (AC.cond (.t 16)
     (AC.seq (AC.reg [
      ⟨(some 17), .mov, [.t 5], none⟩,
      ⟨(some 4), .mov, [.t 17], none⟩])
     AC.ret)
     AC.skip))))
   (AC.reg [
    ⟨(some 18), .bin .add, [.t 8, .c (.int .i64 1)], none⟩,
    ⟨(some 8), .mov, [.t 18], none⟩])))))))
 (AC.seq (AC.reg [
  ⟨(some 4), .mov, [.c (.int .i64 (-1))], none⟩])
 AC.ret)))
def r133 : AC × List RT × Nat := (c133, [.tmp 4], 19)
theorem ok133e : compF Tryz.prog Tryz.f133 ⟨false, false, []⟩ = some r133 := by kernel_rfl
/- umpire/event.within -/
def c92 : AC := (AC.seq (AC.reg [
  ⟨(some 6), .mov, [.c (.bool false)], none⟩])
 (AC.seq (AC.reg [
  ⟨(some 7), .mov, [.t 0], none⟩,
  ⟨(some 8), .mov, [.t 1], none⟩,
  ⟨(some 9), .bin .geq, [.t 7, .t 8], none⟩,
  ⟨(some 10), .mov, [.t 9], none⟩,
  ⟨(some 11), .mov, [.t 0], (some (10, true))⟩,
  ⟨(some 12), .mov, [.t 2], (some (10, true))⟩,
  ⟨(some 13), .bin .leq, [.t 11, .t 12], (some (10, true))⟩,
  ⟨(some 14), .pick, [.t 10, .t 13, .c (.bool false)], none⟩,
  ⟨(some 6), .mov, [.t 14], none⟩])
 AC.ret))
def r92 : AC × List RT × Nat := (c92, [.tmp 6], 15)
theorem ok92e : compF Tryz.prog Tryz.f92 ⟨false, false, []⟩ = some r92 := by kernel_rfl
/- umpire/event.mayTxn$1 -/
def c108 : AC := (AC.seq (AC.reg [
  ⟨(some 1), .box, [.t 0], none⟩,
  ⟨(some 2), .mov, [.c (.bool false)], none⟩])
 (AC.seq (AC.reg [
  ⟨(some 3), .fld 1, [.t 1], none⟩,
  ⟨(some 4), .load false 1, [.t 3], none⟩,
  ⟨(some 5), .bin .geq, [.t 4, .c (.int .u8 8)], none⟩,
  ⟨(some 6), .mov, [.t 5], none⟩,
  ⟨(some 7), .fld 0, [.t 1], (some (6, false))⟩,
  ⟨(some 8), .load false 1, [.t 7], (some (6, false))⟩,
  ⟨(some 9), .mov, [.t 8], (some (6, false))⟩,
  ⟨(some 10), .fld 2, [.t 1], (some (9, true))⟩,
  ⟨(some 11), .load false 1, [.t 10], (some (9, true))⟩,
  ⟨(some 12), .bin .neq, [.t 11, .c (.int .u16 0)], (some (9, true))⟩,
  ⟨(some 13), .pick, [.t 9, .t 12, .c (.bool false)], (some (6, false))⟩,
  ⟨(some 14), .pick, [.t 6, .c (.bool true), .t 13], none⟩,
  ⟨(some 2), .mov, [.t 14], none⟩])
 AC.ret))
def r108 : AC × List RT × Nat := (c108, [.tmp 2], 15)
theorem ok108e : compF Tryz.prog Tryz.f108 ⟨false, false, []⟩ = some r108 := by kernel_rfl
/- umpire/event.mayReads$1 -/
def c110 : AC := (AC.seq (AC.reg [
  ⟨(some 2), .mov, [.c (.bool false)], none⟩])
 (AC.seq (AC.reg [
  ⟨(some 3), .mov, [.t 0], none⟩,
  ⟨(some 4), .len 1 0, [.t 3], none⟩,
  ⟨(some 5), .bin .gtr, [.t 4, .c (.int .i64 32)], none⟩,
  ⟨(some 2), .mov, [.t 5], none⟩])
 AC.ret))
def r110 : AC × List RT × Nat := (c110, [.tmp 2], 6)
theorem ok110e : compF Tryz.prog Tryz.f110 ⟨false, false, []⟩ = some r110 := by kernel_rfl
/- slices.ContainsFunc[[]umpire/api.Micro,umpire/api.Micro] -/
def c109 : AC := (AC.seq (AC.reg [
  ⟨(some 4), .mov, [.c (.bool false)], none⟩])
 (AC.seq (AC.reg [
  ⟨(some 5), .mov, [.t 0], none⟩,
  ⟨(some 6), .mov, [.t 1], none⟩,
  ⟨(some 7), .call 132, [.t 5, .t 6], none⟩,
  ⟨(some 8), .bin .geq, [.t 7, .c (.int .i64 0)], none⟩,
  ⟨(some 4), .mov, [.t 8], none⟩])
 AC.ret))
def r109 : AC × List RT × Nat := (c109, [.tmp 4], 9)
theorem ok109e : compF Tryz.prog Tryz.f109 ⟨false, false, []⟩ = some r109 := by kernel_rfl
/- slices.ContainsFunc[[][]uint16,[]uint16] -/
def c111 : AC := (AC.seq (AC.reg [
  ⟨(some 4), .mov, [.c (.bool false)], none⟩])
 (AC.seq (AC.reg [
  ⟨(some 5), .mov, [.t 0], none⟩,
  ⟨(some 6), .mov, [.t 1], none⟩,
  ⟨(some 7), .call 133, [.t 5, .t 6], none⟩,
  ⟨(some 8), .bin .geq, [.t 7, .c (.int .i64 0)], none⟩,
  ⟨(some 4), .mov, [.t 8], none⟩])
 AC.ret))
def r111 : AC × List RT × Nat := (c111, [.tmp 4], 9)
theorem ok111e : compF Tryz.prog Tryz.f111 ⟨false, false, []⟩ = some r111 := by kernel_rfl
variable {E : Env}
/-- Two lists of lists hold the same numbers. -/
def sameLs (a b : List (Option (List Int))) : Bool := decide (a.map nums = b.map nums)
theorem eqFunc_c (hP : E.P = Tryz.prog) (W : AW) {v v' : V} {l l' : List (Option (List Int))} (h : isLs v l) (h' : isLs v' l') (hl : l.length < 2 ^ 40) (hs : ∀ x ∈ l, (nums x).length < 2 ^ 40) :
    ACalls E 51 [v, v', .fn (.func 52) [] []] W fun X W' => X = .bool (sameLs l l') ∧ W' = W := by
  obtain ⟨xs, i1, i2, i3⟩ := h
  obtain ⟨ys, j1, j2, j3⟩ := h'
  refine ACalls.of hP Tryz.func51 ok51e (by simp) fun _ hok => ?_
  have f1 := i1.frz (W := W)
  by_cases hlen : l.length = l'.length
  · simp only [c51, e_seq, e_reg, cond_if, e_block, e_skip, e_cons, e_nil, e_plain, evs_nil, evs_cons, ev_t, ev_c, argsA_ap, e_putK, e_putd, e_put, e_then, ↓reduceIte, Nat.reduceEqDiff, reduceCtorEq, List.getElem?_cons_zero, List.getElem?_cons_succ, Bool.false_eq_true, sem_mov, sem_neq, i1.len, j1.len, i2, j2, hlen, bne_self_eq_false]
    rw [e_loop]
    refine ALoop.go (B := awp E _) (fun h => awp_mono _ h) (fun (k : Nat) A1 W1 => A1 0 = some v ∧ A1 1 = some v' ∧ A1 2 = some (.fn (.func 52) [] []) ∧ A1 15 = some v ∧ A1 16 = some (.int .i64 l'.length) ∧ A1 17 = some (.int .i64 k) ∧ k ≤ l'.length ∧ W1 = W ∧ (l.map nums).take k = (l'.map nums).take k) (fun k => l'.length - k) 0
      ⟨rfl, rfl, rfl, rfl, rfl, rfl, Nat.zero_le _, rfl, rfl⟩ ?_
    rintro k A1 W1 ⟨g0, g1, g2, g15, g16, g17, gk, rfl, ge⟩ _
    by_cases hk1 : k < l'.length
    · have hk2 : k < l.length := by omega
      have e1 : xs[k]? = some (xs[k]'(by omega)) := List.getElem?_eq_getElem _
      have e2 : ys[k]? = some (ys[k]'(by omega)) := List.getElem?_eq_getElem _
      have t1 := (i3 k (by omega) hk2).isS
      have t2 := (j3 k (by omega) hk1).isS
      have n1 : k < (l.map nums).length := by simpa using hk2
      have n2 : k < (l'.map nums).length := by simpa using hk1
      simp (config := { maxSteps := 2000000 }) (disch := omega) only [e_seq, e_reg, cond_if, e_block, e_skip, e_cons, e_nil, e_plain, evs_nil, evs_cons, ev_t, e_putK, e_putd, e_put, e_then, ↓reduceIte, Nat.reduceEqDiff, List.map_cons, List.map_nil, sem_mov, sem_lss, sem_callv, List.nil_append, List.append_nil, g1, g2, g15, g16, g17, clt, hk1, decide_true, i1.idx e1, j1.idx e2, t1.loadf, t2.loadf, t1.frz, t2.frz]
      refine pc (eqI_c hP W1 t1 t2 (hs _ (List.getElem_mem hk2))) ?_
      by_cases he : nums l[k] = nums l'[k]
      · simp (config := { maxSteps := 2000000 }) (disch := omega) only [e_reg, cond_if, e_skip, e_cons, e_nil, e_plain, evs_nil, evs_cons, ev_t, ev_c, e_putK, e_putd, e_put, e_then, e_blk, ↓reduceIte, Nat.reduceEqDiff, reduceCtorEq, Bool.false_eq_true, sem_mov, sem_add, sem_not, Bool.not_true, g0, g1, g2, g15, g16, g17, decide_eq_true he, wadd1]
        exact ⟨k + 1, ⟨(by first | trivial | rfl | omega), (by first | trivial | rfl | omega), (by first | trivial | rfl | omega), (by first | trivial | rfl | omega), (by first | trivial | rfl | omega), (by first | trivial | rfl | omega), (by first | trivial | rfl | omega), (by first | trivial | rfl | omega), take_ext ge n1 n2 (by simpa using he)⟩, by omega, Nat.le_refl _⟩
      · simp (config := { maxSteps := 2000000 }) (disch := omega) only [e_seq, e_reg, cond_if, e_ret, e_cons, e_nil, e_plain, evs_nil, evs_cons, ev_t, ev_c, e_putK, e_putd, e_put, e_then, e_then_ret, e_blk_ret, retQ_ret, e_res1, ↓reduceIte, Option.map_some, frz_bool, sem_mov, sem_not, Bool.not_false, decide_eq_false he]
        refine ⟨_, rfl, _, _, .weak weak_id, Nat.le_refl _, ?_, rfl⟩
        have := ne_at n1 n2 (by simpa using he)
        simp [sameLs, this]
    · obtain rfl : k = l'.length := by omega
      simp only [e_seq, e_reg, cond_if, e_exit, e_ret, e_cons, e_nil, e_plain, evs_nil, evs_cons, ev_t, ev_c, e_putK, e_putd, e_put, e_then, e_then_exit, e_blk_exit, retQ_ret, e_res1, ↓reduceIte, Option.map_some, Bool.false_eq_true, frz_bool, sem_mov, sem_lss, g16, g17, clt, hk1, decide_false]
      refine ⟨_, rfl, _, _, .weak weak_id, Nat.le_refl _, ?_, rfl⟩
      rw [List.take_of_length_le (by simp; omega), List.take_of_length_le (by simp)] at ge
      simp [sameLs, ge]
  · have hne : l.map nums ≠ l'.map nums := fun e => hlen (by have := congrArg List.length e; simpa using this)
    have hb : ((l.length : Int) != (l'.length : Int)) = true := by simp; omega
    simp only [c51, e_seq, e_reg, cond_if, e_ret, e_cons, e_nil, e_plain, evs_nil, evs_cons, ev_t, ev_c, argsA_ap, e_putK, e_putd, e_put, e_then, e_then_ret, retQ_ret, e_res1, ↓reduceIte, Nat.reduceEqDiff, reduceCtorEq, Option.map_some, List.getElem?_cons_zero, List.getElem?_cons_succ, frz_bool, sem_mov, sem_neq, i1.len, j1.len, i2, j2, hb]
    exact ⟨_, rfl, _, _, .weak weak_id, Nat.le_refl _, by simp [sameLs, hne], rfl⟩
/-- The first place where something holds, as a number. -/
def idxV {α : Type} (p : α → Bool) (l : List α) : Int := match l.findIdx? p with
  | some i => i
  | none => -1
theorem idxV_hit {α : Type} {p : α → Bool} {l : List α} {k : Nat} (h : k < l.length) (hp : p l[k] = true) (hb : ∀ i (hi : i < l.length), i < k → p l[i] = false) : idxV p l = k := by
  have : l.findIdx? p = some k := by
    rw [List.findIdx?_eq_some_iff_getElem]
    exact ⟨h, hp, fun i hi => by simp [hb i (by omega) hi]⟩
  simp [idxV, this]
theorem idxV_none {α : Type} {p : α → Bool} {l : List α} (hb : ∀ i (hi : i < l.length), p l[i] = false) : idxV p l = -1 := by
  have : l.findIdx? p = none := by
    rw [List.findIdx?_eq_none_iff]
    intro x hx
    obtain ⟨i, hi, rfl⟩ := List.mem_iff_getElem.1 hx
    exact hb i hi
  simp [idxV, this]
theorem idxV_ge {α : Type} {p : α → Bool} {l : List α} : decide (idxV p l ≥ 0) = l.any p := by
  cases h : l.findIdx? p with
  | none =>
    simp only [idxV, h]
    rw [List.findIdx?_eq_none_iff] at h
    have : l.any p = false := by simpa using h
    rw [this]; rfl
  | some i =>
    simp only [idxV, h]
    obtain ⟨h1, h2, _⟩ := List.findIdx?_eq_some_iff_getElem.1 h
    have : l.any p = true := List.any_eq_true.2 ⟨_, List.getElem_mem h1, h2⟩
    rw [this]
    simp
def badMi (m : Mi) : Bool := decide (m.key ≥ 8) || (m.read && decide (m.v ≠ 0))
theorem bad_c (hP : E.P = Tryz.prog) (W : AW) (m : Mi) : ACalls E 108 [m.V] W fun X W' => X = .bool (badMi m) ∧ W' = W := by
  refine ACalls.of hP Tryz.func108 ok108e (by simp) fun _ hok => ?_
  refine awp_start hok ?_
  obtain ⟨r, k, v⟩ := m
  by_cases h1 : k ≥ 8
  · simp only [c108, e_seq, e_reg, e_ret, e_cons, e_nil, e_plain, guard_if, evs_nil, evs_cons, ev_t, ev_c, argsA_ap, e_putK, e_putd, e_put, e_then, retQ_ret, e_res1, ↓reduceIte, Nat.reduceEqDiff, Option.map_some, List.getElem?_cons_zero, List.getElem?_cons_succ, Bool.true_eq_false, frz_bool, sem_mov, sem_pick, sem_geq, sem_box, sem_fld_ptr, X_alloc, X_nx, X_get, m_load, loadK_f, optK_some, cells_agg, List.nil_append, List.length_nil, Nat.zero_add, undef_t, Mi.V, h1, decide_true]
    exact ⟨_, rfl, _, W, backX hok rfl, Nat.le_refl _, by simp [badMi, h1], rfl⟩
  · cases r <;> simp only [c108, e_seq, e_reg, e_ret, e_cons, e_nil, e_plain, guard_if, evs_nil, evs_cons, ev_t, ev_c, argsA_ap, e_putK, e_putd, e_put, e_then, retQ_ret, e_res1, ↓reduceIte, Nat.reduceEqDiff, Option.map_some, List.getElem?_cons_zero, List.getElem?_cons_succ, Bool.false_eq_true, frz_bool, sem_mov, sem_pick, sem_geq, sem_neq, sem_box, sem_fld_ptr, X_alloc, X_nx, X_get, m_load, loadK_f, optK_some, cells_agg, List.nil_append, List.length_nil, Nat.zero_add, Nat.add_zero, undef_t, Mi.V, h1, decide_false, cmpne]
    · exact ⟨_, rfl, _, W, backX hok rfl, Nat.le_refl _, by simp [badMi, h1], rfl⟩
    · exact ⟨_, rfl, _, W, backX hok rfl, Nat.le_refl _, by simp [badMi, h1], rfl⟩
theorem idxMi_c (hP : E.P = Tryz.prog) (W : AW) {v : V} {l : List Mi} (h : isMs v l) (hl : l.length < 2 ^ 40) :
    ACalls E 132 [v, .fn (.func 108) [] []] W fun X W' => X = .int .i64 (idxV badMi l) ∧ W' = W := by
  refine ACalls.of hP Tryz.func132 ok132e (by simp) fun _ hok => ?_
  simp only [c132, e_seq, e_reg, e_block, e_cons, e_nil, e_plain, evs_nil, evs_cons, ev_t, ev_c, argsA_ap, e_putK, e_putd, e_put, e_then, ↓reduceIte, reduceCtorEq, List.getElem?_cons_zero, sem_mov, h.len, List.length_map]
  rw [e_loop]
  refine ALoop.go (B := awp E _) (fun h => awp_mono _ h) (fun (k : Nat) A1 W1 => A1 0 = some v ∧ A1 1 = some (.fn (.func 108) [] []) ∧ A1 7 = some (.int .i64 l.length) ∧ A1 8 = some (.int .i64 k) ∧ k ≤ l.length ∧ W1 = W ∧ ∀ i (hi : i < l.length), i < k → badMi l[i] = false) (fun k => l.length - k) 0
    ⟨rfl, rfl, rfl, rfl, Nat.zero_le _, rfl, fun _ _ h => by omega⟩ ?_
  rintro k A1 W1 ⟨g0, g1, g7, g8, gk, rfl, ge⟩ _
  by_cases hk1 : k < l.length
  · simp (config := { maxSteps := 2000000 }) (disch := omega) only [e_seq, e_reg, cond_if, e_block, e_skip, e_cons, e_nil, e_plain, evs_nil, evs_cons, ev_t, e_putK, e_putd, e_put, e_then, ↓reduceIte, Nat.reduceEqDiff, reduceCtorEq, List.map_cons, List.map_nil, sem_mov, sem_lss, sem_callv, List.nil_append, List.append_nil, g0, g1, g7, g8, clt, hk1, decide_true, h.idx (mi_at hk1), mi_load, mi_frz]
    refine pc (bad_c hP W1 _) ?_
    cases hb : badMi l[k]
    · simp (config := { maxSteps := 2000000 }) (disch := omega) only [e_reg, cond_if, e_skip, e_cons, e_nil, e_plain, evs_nil, evs_cons, ev_t, ev_c, e_putK, e_putd, e_put, e_then, e_blk, ↓reduceIte, Nat.reduceEqDiff, reduceCtorEq, Bool.false_eq_true, sem_mov, sem_add, g0, g1, g7, g8, wadd1]
      refine ⟨k + 1, ⟨(by first | trivial | rfl | omega), (by first | trivial | rfl | omega), (by first | trivial | rfl | omega), (by first | trivial | rfl | omega), (by first | trivial | rfl | omega), (by first | trivial | rfl | omega), fun i hi hk => ?_⟩, by omega, Nat.le_refl _⟩
      by_cases e : i = k
      · subst e; exact hb
      · exact ge i hi (by omega)
    · simp (config := { maxSteps := 2000000 }) (disch := omega) only [e_seq, e_reg, cond_if, e_ret, e_cons, e_nil, e_plain, evs_nil, evs_cons, ev_t, e_putK, e_putd, e_put, e_then, e_then_ret, e_blk_ret, retQ_ret, e_res1, ↓reduceIte, Nat.reduceEqDiff, Option.map_some, frz_int, sem_mov]
      exact ⟨_, rfl, _, _, .weak weak_id, Nat.le_refl _, by rw [idxV_hit hk1 hb ge], rfl⟩
  · obtain rfl : k = l.length := by omega
    simp only [e_seq, e_reg, cond_if, e_exit, e_ret, e_cons, e_nil, e_plain, evs_nil, evs_cons, ev_t, ev_c, e_putK, e_putd, e_put, e_then, e_then_exit, e_blk_exit, retQ_ret, e_res1, ↓reduceIte, Option.map_some, Bool.false_eq_true, frz_int, sem_mov, sem_lss, g7, g8, clt, hk1, decide_false]
    exact ⟨_, rfl, _, _, .weak weak_id, Nat.le_refl _, by rw [idxV_none fun i hi => ge i hi hi], rfl⟩
theorem long_c (hP : E.P = Tryz.prog) (W : AW) {v : V} {o : Option (List Int)} (h : isEl v o) : ACalls E 110 [v] W fun X W' => X = .bool (decide ((nums o).length > 32)) ∧ W' = W := by
  refine ACalls.of hP Tryz.func110 ok110e (by simp) fun _ hok => ?_
  have h32 : decide (((nums o).length : Int) > 32) = decide ((nums o).length > 32) := by simp; omega
  simp only [c110, e_seq, e_reg, e_ret, e_cons, e_nil, e_plain, evs_nil, evs_cons, ev_t, ev_c, argsA_ap, e_putK, e_putd, e_put, e_then, retQ_ret, e_res1, ↓reduceIte, reduceCtorEq, Option.map_some, List.getElem?_cons_zero, frz_bool, sem_mov, sem_gtr, h.isS.len, ints_len, h32]
  exact ⟨_, rfl, _, _, .weak weak_id, Nat.le_refl _, rfl, rfl⟩
def longL (o : Option (List Int)) : Bool := decide ((nums o).length > 32)
theorem idxLs_c (hP : E.P = Tryz.prog) (W : AW) {v : V} {l : List (Option (List Int))} (h : isLs v l) (hl : l.length < 2 ^ 40) :
    ACalls E 133 [v, .fn (.func 110) [] []] W fun X W' => X = .int .i64 (idxV longL l) ∧ W' = W := by
  obtain ⟨xs, i1, i2, i3⟩ := h
  refine ACalls.of hP Tryz.func133 ok133e (by simp) fun _ hok => ?_
  simp only [c133, e_seq, e_reg, e_block, e_cons, e_nil, e_plain, evs_nil, evs_cons, ev_t, ev_c, argsA_ap, e_putK, e_putd, e_put, e_then, ↓reduceIte, reduceCtorEq, List.getElem?_cons_zero, sem_mov, i1.len, i2]
  rw [e_loop]
  refine ALoop.go (B := awp E _) (fun h => awp_mono _ h) (fun (k : Nat) A1 W1 => A1 0 = some v ∧ A1 1 = some (.fn (.func 110) [] []) ∧ A1 7 = some (.int .i64 l.length) ∧ A1 8 = some (.int .i64 k) ∧ k ≤ l.length ∧ W1 = W ∧ ∀ i (hi : i < l.length), i < k → longL l[i] = false) (fun k => l.length - k) 0
    ⟨rfl, rfl, rfl, rfl, Nat.zero_le _, rfl, fun _ _ h => by omega⟩ ?_
  rintro k A1 W1 ⟨g0, g1, g7, g8, gk, rfl, ge⟩ _
  by_cases hk1 : k < l.length
  · have e1 : xs[k]? = some (xs[k]'(by omega)) := List.getElem?_eq_getElem _
    have t := i3 k (by omega) hk1
    simp (config := { maxSteps := 2000000 }) (disch := omega) only [e_seq, e_reg, cond_if, e_block, e_skip, e_cons, e_nil, e_plain, evs_nil, evs_cons, ev_t, e_putK, e_putd, e_put, e_then, ↓reduceIte, Nat.reduceEqDiff, reduceCtorEq, List.map_cons, List.map_nil, sem_mov, sem_lss, sem_callv, List.nil_append, List.append_nil, g0, g1, g7, g8, clt, hk1, decide_true, i1.idx e1, t.isS.loadf, t.isS.frz]
    refine pc (long_c hP W1 t) ?_
    cases hb : longL l[k]
    · simp (config := { maxSteps := 2000000 }) (disch := omega) only [e_reg, cond_if, e_skip, e_cons, e_nil, e_plain, evs_nil, evs_cons, ev_t, ev_c, e_putK, e_putd, e_put, e_then, e_blk, ↓reduceIte, Nat.reduceEqDiff, reduceCtorEq, Bool.false_eq_true, sem_mov, sem_add, g0, g1, g7, g8, wadd1, show decide ((nums l[k]).length > 32) = false from hb]
      refine ⟨k + 1, ⟨(by first | trivial | rfl | omega), (by first | trivial | rfl | omega), (by first | trivial | rfl | omega), (by first | trivial | rfl | omega), (by first | trivial | rfl | omega), (by first | trivial | rfl | omega), fun i hi hk => ?_⟩, by omega, Nat.le_refl _⟩
      by_cases e : i = k
      · subst e; exact hb
      · exact ge i hi (by omega)
    · simp (config := { maxSteps := 2000000 }) (disch := omega) only [e_seq, e_reg, cond_if, e_ret, e_cons, e_nil, e_plain, evs_nil, evs_cons, ev_t, e_putK, e_putd, e_put, e_then, e_then_ret, e_blk_ret, retQ_ret, e_res1, ↓reduceIte, Nat.reduceEqDiff, Option.map_some, frz_int, sem_mov, show decide ((nums l[k]).length > 32) = true from hb]
      exact ⟨_, rfl, _, _, .weak weak_id, Nat.le_refl _, by rw [idxV_hit hk1 hb ge], rfl⟩
  · obtain rfl : k = l.length := by omega
    simp only [e_seq, e_reg, cond_if, e_exit, e_ret, e_cons, e_nil, e_plain, evs_nil, evs_cons, ev_t, ev_c, e_putK, e_putd, e_put, e_then, e_then_exit, e_blk_exit, retQ_ret, e_res1, ↓reduceIte, Option.map_some, Bool.false_eq_true, frz_int, sem_mov, sem_lss, g7, g8, clt, hk1, decide_false]
    exact ⟨_, rfl, _, _, .weak weak_id, Nat.le_refl _, by rw [idxV_none fun i hi => ge i hi hi], rfl⟩
theorem anyMi_c (hP : E.P = Tryz.prog) (W : AW) {v : V} {l : List Mi} (h : isMs v l) (hl : l.length < 2 ^ 40) :
    ACalls E 109 [v, .fn (.func 108) [] []] W fun X W' => X = .bool (l.any badMi) ∧ W' = W := by
  refine ACalls.of hP Tryz.func109 ok109e (by simp) fun _ hok => ?_
  simp only [c109, e_seq, e_reg, e_cons, e_nil, e_plain, evs_nil, evs_cons, ev_t, ev_c, argsA_ap, e_putK, e_putd, e_put, e_then, ↓reduceIte, Nat.reduceEqDiff, reduceCtorEq, List.map_cons, List.map_nil, List.getElem?_cons_zero, List.getElem?_cons_succ, frz_fn, sem_mov, sem_call, h.frz]
  refine pc (idxMi_c hP W h hl) ?_
  simp only [e_ret, e_cons, e_nil, e_plain, evs_nil, evs_cons, ev_t, ev_c, e_putK, e_putd, e_put, retQ_ret, e_res1, ↓reduceIte, Option.map_some, frz_bool, sem_mov, sem_geq, idxV_ge]
  exact ⟨_, rfl, _, _, .weak weak_id, Nat.le_refl _, rfl, rfl⟩
theorem anyLs_c (hP : E.P = Tryz.prog) (W : AW) {v : V} {l : List (Option (List Int))} (h : isLs v l) (hl : l.length < 2 ^ 40) :
    ACalls E 111 [v, .fn (.func 110) [] []] W fun X W' => X = .bool (l.any longL) ∧ W' = W := by
  have hs := h
  obtain ⟨xs, i1, _, _⟩ := hs
  refine ACalls.of hP Tryz.func111 ok111e (by simp) fun _ hok => ?_
  simp only [c111, e_seq, e_reg, e_cons, e_nil, e_plain, evs_nil, evs_cons, ev_t, ev_c, argsA_ap, e_putK, e_putd, e_put, e_then, ↓reduceIte, Nat.reduceEqDiff, reduceCtorEq, List.map_cons, List.map_nil, List.getElem?_cons_zero, List.getElem?_cons_succ, frz_fn, sem_mov, sem_call, i1.frz]
  refine pc (idxLs_c hP W h hl) ?_
  simp only [e_ret, e_cons, e_nil, e_plain, evs_nil, evs_cons, ev_t, ev_c, e_putK, e_putd, e_put, retQ_ret, e_res1, ↓reduceIte, Option.map_some, frz_bool, sem_mov, sem_geq, idxV_ge]
  exact ⟨_, rfl, _, _, .weak weak_id, Nat.le_refl _, rfl, rfl⟩
theorem within_c (hP : E.P = Tryz.prog) (W : AW) (a b c : Int) : ACalls E 92 [.int .i64 a, .int .i64 b, .int .i64 c] W fun X W' => X = .bool (decide (b ≤ a) && decide (a ≤ c)) ∧ W' = W := by
  refine ACalls.of hP Tryz.func92 ok92e (by simp) fun _ hok => ?_
  by_cases h : a ≥ b
  · simp only [c92, e_seq, e_reg, e_ret, e_cons, e_nil, e_plain, guard_if, evs_nil, evs_cons, ev_t, ev_c, argsA_ap, e_putK, e_putd, e_put, e_then, retQ_ret, e_res1, ↓reduceIte, Nat.reduceEqDiff, reduceCtorEq, Option.map_some, List.getElem?_cons_zero, List.getElem?_cons_succ, frz_bool, sem_mov, sem_pick, sem_leq, sem_geq, Bool.true_and, decide_eq_true h]
    exact ⟨_, rfl, _, _, .weak weak_id, Nat.le_refl _, by simp, rfl⟩
  · simp only [c92, e_seq, e_reg, e_ret, e_cons, e_nil, e_plain, guard_if, evs_nil, evs_cons, ev_t, ev_c, argsA_ap, e_putK, e_putd, e_put, e_then, retQ_ret, e_res1, ↓reduceIte, Nat.reduceEqDiff, reduceCtorEq, Option.map_some, List.getElem?_cons_zero, List.getElem?_cons_succ, Bool.false_eq_true, frz_bool, sem_mov, sem_pick, sem_geq, undef_t, decide_eq_false h]
    exact ⟨_, rfl, _, _, .weak weak_id, Nat.le_refl _, by simp, rfl⟩
end Go.AL.S
set_option maxRecDepth 100000
namespace Go.AL.S
open Go Go.AL Go.Proofs
/- umpire/event.of -/
def c42 : AC := (AC.seq (AC.reg [
  ⟨(some 2), .alloc [.nilfn, .nilfn, .nilfn, .nilfn], [], none⟩,
  ⟨(some 3), .mov, [.c (.bool false)], none⟩])
 (AC.seq (AC.seq (AC.reg [
  ⟨(some 4), .mov, [.t 0], none⟩,
  ⟨(some 5), .bin .lss, [.t 4, .c (.int .u8 1)], none⟩,
  ⟨(some 6), .mov, [.t 5], none⟩,
  ⟨(some 7), .mov, [.t 0], (some (6, false))⟩,
  ⟨(some 8), .bin .gtr, [.t 7, .c (.int .u8 7)], (some (6, false))⟩,
  ⟨(some 9), .pick, [.t 6, .c (.bool true), .t 8], none⟩])
 (AC.cond (.t 9)
  (AC.seq (AC.reg [
   ⟨(some 10), .build [.nilfn, .nilfn, .nilfn, .nilfn] [], [], none⟩,
   ⟨none, .store 4, [.t 2, .t 10], none⟩,
   ⟨(some 3), .mov, [.c (.bool false)], none⟩])
  AC.ret)
  AC.skip))
 (AC.seq (AC.reg [
  ⟨(some 11), .call 49, [], none⟩,
  ⟨(some 12), .mov, [.t 0], none⟩,
  ⟨(some 13), .idxv 8 4 true, [.t 11, .t 12], none⟩,
  ⟨none, .store 4, [.t 2, .t 13], none⟩,
  ⟨(some 3), .mov, [.c (.bool true)], none⟩])
 AC.ret)))
def r42 : AC × List RT × Nat := (c42, [.cell 2 true 4, .tmp 3], 14)
theorem ok42e : compF Tryz.prog Tryz.f42 ⟨false, false, []⟩ = some r42 := by kernel_rfl
/- umpire/event.kinds -/
def c49 : AC := (AC.seq (AC.reg [
  ⟨(some 0), .alloc [.nilfn, .nilfn, .nilfn, .nilfn, .nilfn, .nilfn, .nilfn, .nilfn, .nilfn, .nilfn, .nilfn, .nilfn, .nilfn, .nilfn, .nilfn, .nilfn, .nilfn, .nilfn, .nilfn, .nilfn, .nilfn, .nilfn, .nilfn, .nilfn, .nilfn, .nilfn, .nilfn, .nilfn, .nilfn, .nilfn, .nilfn, .nilfn], [], none⟩])
 (AC.seq (AC.reg [
  ⟨(some 1), .build [.nilfn, .nilfn, .nilfn, .nilfn] [(0, 1), (1, 1), (2, 1), (3, 1)], [.f 57, .f 58, .f 59, .f 60], none⟩,
  ⟨(some 2), .build [.nilfn, .nilfn, .nilfn, .nilfn] [(0, 1), (1, 1), (2, 1), (3, 1)], [.f 61, .f 62, .f 63, .f 64], none⟩,
  ⟨(some 3), .build [.nilfn, .nilfn, .nilfn, .nilfn] [(0, 1), (1, 1), (2, 1), (3, 1)], [.f 65, .f 66, .f 67, .f 68], none⟩,
  ⟨(some 4), .build [.nilfn, .nilfn, .nilfn, .nilfn] [(0, 1), (1, 1), (2, 1), (3, 1)], [.f 69, .f 70, .f 71, .f 72], none⟩,
  ⟨(some 5), .build [.nilfn, .nilfn, .nilfn, .nilfn] [(0, 1), (1, 1), (2, 1), (3, 1)], [.f 73, .f 74, .f 75, .f 76], none⟩,
  ⟨(some 6), .build [.nilfn, .nilfn, .nilfn, .nilfn] [(0, 1), (1, 1), (2, 1), (3, 1)], [.f 77, .f 78, .f 79, .f 80], none⟩,
  ⟨(some 7), .build [.nilfn, .nilfn, .nilfn, .nilfn] [(0, 1), (1, 1), (2, 1), (3, 1)], [.f 69, .f 70, .f 71, .f 72], none⟩,
  ⟨(some 8), .build [.nilfn, .nilfn, .nilfn, .nilfn, .nilfn, .nilfn, .nilfn, .nilfn, .nilfn, .nilfn, .nilfn, .nilfn, .nilfn, .nilfn, .nilfn, .nilfn, .nilfn, .nilfn, .nilfn, .nilfn, .nilfn, .nilfn, .nilfn, .nilfn, .nilfn, .nilfn, .nilfn, .nilfn, .nilfn, .nilfn, .nilfn, .nilfn] [(4, 4), (8, 4), (12, 4), (16, 4), (20, 4), (24, 4), (28, 4)], [.t 1, .t 2, .t 3, .t 4, .t 5, .t 6, .t 7], none⟩,
  ⟨none, .store 32, [.t 0, .t 8], none⟩])
 AC.ret))
def r49 : AC × List RT × Nat := (c49, [.cell 0 true 32], 9)
theorem ok49e : compF Tryz.prog Tryz.f49 ⟨false, false, []⟩ = some r49 := by kernel_rfl
/- umpire/event.begun -/
def c73 : AC := (AC.seq (AC.reg [
  ⟨(some 1), .box, [.t 0], none⟩,
  ⟨(some 2), .alloc [.int .u8 0, .int .u8 0, .int .u16 0, .int .u8 0, .int .u8 0, .int .u8 0, .int .u16 0, .int .u16 0, .int .u8 0, .int .u16 0, .nilsl, .nilsl, .int .u8 0, .int .i64 0, .int .i64 0, .int .i64 0, .bool false, .bool false, .bool false], [], none⟩])
 (AC.seq (AC.reg [
  ⟨(some 3), .fld 10, [.t 1], none⟩,
  ⟨(some 4), .load false 1, [.t 3], none⟩,
  ⟨(some 5), .build [.int .u8 0, .int .u8 0, .int .u16 0, .int .u8 0, .int .u8 0, .int .u8 0, .int .u16 0, .int .u16 0, .int .u8 0, .int .u16 0, .nilsl, .nilsl, .int .u8 0, .int .i64 0, .int .i64 0, .int .i64 0, .bool false, .bool false, .bool false] [(10, 1)], [.t 4], none⟩,
  ⟨none, .store 19, [.t 2, .t 5], none⟩])
 AC.ret))
def r73 : AC × List RT × Nat := (c73, [.cell 2 true 19], 6)
theorem ok73e : compF Tryz.prog Tryz.f73 ⟨false, false, []⟩ = some r73 := by kernel_rfl
/- umpire/event.committed -/
def c77 : AC := (AC.seq (AC.reg [
  ⟨(some 1), .box, [.t 0], none⟩,
  ⟨(some 2), .alloc [.int .u8 0, .int .u8 0, .int .u16 0, .int .u8 0, .int .u8 0, .int .u8 0, .int .u16 0, .int .u16 0, .int .u8 0, .int .u16 0, .nilsl, .nilsl, .int .u8 0, .int .i64 0, .int .i64 0, .int .i64 0, .bool false, .bool false, .bool false], [], none⟩])
 (AC.seq (AC.reg [
  ⟨(some 3), .fld 11, [.t 1], none⟩,
  ⟨(some 4), .load false 1, [.t 3], none⟩,
  ⟨(some 5), .build [.int .u8 0, .int .u8 0, .int .u16 0, .int .u8 0, .int .u8 0, .int .u8 0, .int .u16 0, .int .u16 0, .int .u8 0, .int .u16 0, .nilsl, .nilsl, .int .u8 0, .int .i64 0, .int .i64 0, .int .i64 0, .bool false, .bool false, .bool false] [(11, 1)], [.t 4], none⟩,
  ⟨none, .store 19, [.t 2, .t 5], none⟩])
 AC.ret))
def r77 : AC × List RT × Nat := (c77, [.cell 2 true 19], 6)
theorem ok77e : compF Tryz.prog Tryz.f77 ⟨false, false, []⟩ = some r77 := by kernel_rfl
/- umpire/event.mayTxn -/
def c74 : AC := (AC.seq (AC.reg [
  ⟨(some 1), .box, [.t 0], none⟩,
  ⟨(some 2), .mov, [.c (.bool false)], none⟩])
 (AC.seq (AC.reg [
  ⟨(some 3), .mov, [.f 108], none⟩])
 (AC.seq (AC.reg [
  ⟨(some 4), .fld 10, [.t 1], none⟩,
  ⟨(some 5), .load false 1, [.t 4], none⟩,
  ⟨(some 6), .len 1 0, [.t 5], none⟩,
  ⟨(some 7), .call 92, [.t 6, .c (.int .i64 1), .c (.int .i64 8)], none⟩,
  ⟨(some 8), .mov, [.t 7], none⟩,
  ⟨(some 9), .fld 10, [.t 1], (some (8, true))⟩,
  ⟨(some 10), .load false 1, [.t 9], (some (8, true))⟩,
  ⟨(some 11), .mov, [.t 3], (some (8, true))⟩,
  ⟨(some 12), .call 109, [.t 10, .t 11], (some (8, true))⟩,
  ⟨(some 13), .un .not, [.t 12], (some (8, true))⟩,
  ⟨(some 14), .pick, [.t 8, .t 13, .c (.bool false)], none⟩,
  ⟨(some 2), .mov, [.t 14], none⟩])
 AC.ret)))
def r74 : AC × List RT × Nat := (c74, [.tmp 2], 15)
theorem ok74e : compF Tryz.prog Tryz.f74 ⟨false, false, []⟩ = some r74 := by kernel_rfl
/- umpire/event.mayReads -/
def c78 : AC := (AC.seq (AC.reg [
  ⟨(some 1), .box, [.t 0], none⟩,
  ⟨(some 2), .mov, [.c (.bool false)], none⟩])
 (AC.seq (AC.reg [
  ⟨(some 3), .mov, [.f 110], none⟩])
 (AC.seq (AC.reg [
  ⟨(some 4), .fld 11, [.t 1], none⟩,
  ⟨(some 5), .load false 1, [.t 4], none⟩,
  ⟨(some 6), .len 1 0, [.t 5], none⟩,
  ⟨(some 7), .bin .leq, [.t 6, .c (.int .i64 8)], none⟩,
  ⟨(some 8), .mov, [.t 7], none⟩,
  ⟨(some 9), .fld 11, [.t 1], (some (8, true))⟩,
  ⟨(some 10), .load false 1, [.t 9], (some (8, true))⟩,
  ⟨(some 11), .mov, [.t 3], (some (8, true))⟩,
  ⟨(some 12), .call 111, [.t 10, .t 11], (some (8, true))⟩,
  ⟨(some 13), .un .not, [.t 12], (some (8, true))⟩,
  ⟨(some 14), .pick, [.t 8, .t 13, .c (.bool false)], none⟩,
  ⟨(some 2), .mov, [.t 14], none⟩])
 AC.ret)))
def r78 : AC × List RT × Nat := (c78, [.tmp 2], 15)
theorem ok78e : compF Tryz.prog Tryz.f78 ⟨false, false, []⟩ = some r78 := by kernel_rfl
/- umpire/event.Same -/
def c43 : AC := (AC.seq (AC.reg [
  ⟨(some 2), .box, [.t 0], none⟩,
  ⟨(some 3), .box, [.t 1], none⟩,
  ⟨(some 4), .mov, [.c (.bool false)], none⟩])
 (AC.seq (AC.reg [
  ⟨(some 5), .fld 0, [.t 2], none⟩,
  ⟨(some 6), .load false 1, [.t 5], none⟩,
  ⟨(some 7), .fld 0, [.t 3], none⟩,
  ⟨(some 8), .load false 1, [.t 7], none⟩,
  ⟨(some 9), .bin .eql, [.t 6, .t 8], none⟩,
  ⟨(some 10), .mov, [.t 9], none⟩,
  ⟨(some 11), .fld 1, [.t 2], (some (10, true))⟩,
  ⟨(some 12), .load false 1, [.t 11], (some (10, true))⟩,
  ⟨(some 13), .fld 1, [.t 3], (some (10, true))⟩,
  ⟨(some 14), .load false 1, [.t 13], (some (10, true))⟩,
  ⟨(some 15), .bin .eql, [.t 12, .t 14], (some (10, true))⟩,
  ⟨(some 16), .pick, [.t 10, .t 15, .c (.bool false)], none⟩,
  ⟨(some 17), .mov, [.t 16], none⟩,
  ⟨(some 18), .fld 2, [.t 2], (some (17, true))⟩,
  ⟨(some 19), .load false 1, [.t 18], (some (17, true))⟩,
  ⟨(some 20), .fld 2, [.t 3], (some (17, true))⟩,
  ⟨(some 21), .load false 1, [.t 20], (some (17, true))⟩,
  ⟨(some 22), .bin .eql, [.t 19, .t 21], (some (17, true))⟩,
  ⟨(some 23), .pick, [.t 17, .t 22, .c (.bool false)], none⟩,
  ⟨(some 24), .mov, [.t 23], none⟩,
  ⟨(some 25), .fld 3, [.t 2], (some (24, true))⟩,
  ⟨(some 26), .load true 5, [.t 25], (some (24, true))⟩,
  ⟨(some 27), .fld 3, [.t 3], (some (24, true))⟩,
  ⟨(some 28), .load true 5, [.t 27], (some (24, true))⟩,
  ⟨(some 29), .eqv false (true, [.i .u8, .i .u8, .i .u8, .i .u16, .i .u16]), [.t 26, .t 28], (some (24, true))⟩,
  ⟨(some 30), .pick, [.t 24, .t 29, .c (.bool false)], none⟩,
  ⟨(some 31), .mov, [.t 30], none⟩,
  ⟨(some 32), .fld 8, [.t 2], (some (31, true))⟩,
  ⟨(some 33), .load true 2, [.t 32], (some (31, true))⟩,
  ⟨(some 34), .fld 8, [.t 3], (some (31, true))⟩,
  ⟨(some 35), .load true 2, [.t 34], (some (31, true))⟩,
  ⟨(some 36), .eqv false (true, [.i .u8, .i .u16]), [.t 33, .t 35], (some (31, true))⟩,
  ⟨(some 37), .pick, [.t 31, .t 36, .c (.bool false)], none⟩,
  ⟨(some 38), .mov, [.t 37], none⟩,
  ⟨(some 39), .fld 10, [.t 2], (some (38, true))⟩,
  ⟨(some 40), .load false 1, [.t 39], (some (38, true))⟩,
  ⟨(some 41), .fld 10, [.t 3], (some (38, true))⟩,
  ⟨(some 42), .load false 1, [.t 41], (some (38, true))⟩,
  ⟨(some 43), .call 50, [.t 40, .t 42], (some (38, true))⟩,
  ⟨(some 44), .pick, [.t 38, .t 43, .c (.bool false)], none⟩,
  ⟨(some 45), .mov, [.t 44], none⟩,
  ⟨(some 46), .fld 11, [.t 2], (some (45, true))⟩,
  ⟨(some 47), .load false 1, [.t 46], (some (45, true))⟩,
  ⟨(some 48), .fld 11, [.t 3], (some (45, true))⟩,
  ⟨(some 49), .load false 1, [.t 48], (some (45, true))⟩,
  ⟨(some 50), .call 51, [.t 47, .t 49, .f 52], (some (45, true))⟩,
  ⟨(some 51), .pick, [.t 45, .t 50, .c (.bool false)], none⟩,
  ⟨(some 52), .mov, [.t 51], none⟩,
  ⟨(some 53), .fld 12, [.t 2], (some (52, true))⟩,
  ⟨(some 54), .load true 7, [.t 53], (some (52, true))⟩,
  ⟨(some 55), .fld 12, [.t 3], (some (52, true))⟩,
  ⟨(some 56), .load true 7, [.t 55], (some (52, true))⟩,
  ⟨(some 57), .eqv false (true, [.i .u8, .i .i64, .i .i64, .i .i64, .b, .b, .b]), [.t 54, .t 56], (some (52, true))⟩,
  ⟨(some 58), .pick, [.t 52, .t 57, .c (.bool false)], none⟩,
  ⟨(some 4), .mov, [.t 58], none⟩])
 AC.ret))
def r43 : AC × List RT × Nat := (c43, [.tmp 4], 59)
theorem ok43e : compF Tryz.prog Tryz.f43 ⟨false, false, []⟩ = some r43 := by kernel_rfl
/- umpire/event.Check -/
def c27 : AC := (AC.seq (AC.reg [
  ⟨(some 1), .box, [.t 0], none⟩,
  ⟨(some 2), .mov, [.c (.int .i64 0)], none⟩])
 (AC.seq (AC.reg [
  ⟨(some 7), .fld 0, [.t 1], none⟩,
  ⟨(some 8), .load false 1, [.t 7], none⟩,
  ⟨(some 9), .call 42, [.t 8], none⟩,
  ⟨(some 6), .mov, [.t 9], none⟩,
  ⟨(some 10), .ext 0, [.t 6], none⟩,
  ⟨(some 11), .ext 1, [.t 6], none⟩,
  ⟨(some 3), .alloc [.nilfn, .nilfn, .nilfn, .nilfn], [], none⟩,
  ⟨none, .store 4, [.t 3, .t 10], none⟩,
  ⟨(some 4), .mov, [.t 11], none⟩])
 (AC.seq (AC.seq (AC.reg [
  ⟨(some 12), .mov, [.t 4], none⟩,
  ⟨(some 13), .un .not, [.t 12], none⟩,
  ⟨(some 14), .mov, [.t 13], none⟩,
  ⟨(some 15), .fld 1, [.t 3], (some (14, false))⟩,
  ⟨(some 16), .load false 1, [.t 15], (some (14, false))⟩,
  ⟨(some 17), .load true 19, [.t 1], (some (14, false))⟩,
  ⟨(some 18), .callv, [.t 16, .t 17], (some (14, false))⟩,
  ⟨(some 19), .un .not, [.t 18], (some (14, false))⟩,
  ⟨(some 20), .pick, [.t 14, .c (.bool true), .t 19], none⟩,
  ⟨(some 21), .mov, [.t 20], none⟩,
  ⟨(some 22), .fld 1, [.t 1], (some (21, false))⟩,
  ⟨(some 23), .load false 1, [.t 22], (some (21, false))⟩,
  ⟨(some 24), .bin .geq, [.t 23, .c (.int .u8 16)], (some (21, false))⟩,
  ⟨(some 25), .pick, [.t 21, .c (.bool true), .t 24], none⟩])
 (AC.cond (.t 25)
  (AC.seq (AC.reg [
   ⟨(some 2), .mov, [.c (.int .i64 4)], none⟩])
  AC.ret)
  AC.skip))
 (AC.seq (AC.reg [
  ⟨(some 26), .fld 0, [.t 3], none⟩,
  ⟨(some 27), .load false 1, [.t 26], none⟩,
  ⟨(some 28), .load true 19, [.t 1], none⟩,
  ⟨(some 29), .callv, [.t 27, .t 28], none⟩,
  ⟨(some 5), .alloc [.int .u8 0, .int .u8 0, .int .u16 0, .int .u8 0, .int .u8 0, .int .u8 0, .int .u16 0, .int .u16 0, .int .u8 0, .int .u16 0, .nilsl, .nilsl, .int .u8 0, .int .i64 0, .int .i64 0, .int .i64 0, .bool false, .bool false, .bool false], [], none⟩,
  ⟨none, .store 19, [.t 5, .t 29], none⟩])
 (AC.seq (AC.reg [
  ⟨(some 30), .fld 0, [.t 1], none⟩,
  ⟨(some 31), .load false 1, [.t 30], none⟩,
  ⟨(some 32), .fld 0, [.t 5], none⟩,
  ⟨none, .store 1, [.t 32, .t 31], none⟩])
 (AC.seq (AC.seq (AC.reg [
  ⟨(some 33), .fld 0, [.t 1], none⟩,
  ⟨(some 34), .load false 1, [.t 33], none⟩,
  ⟨(some 35), .bin .neq, [.t 34, .c (.int .u8 1)], none⟩])
 (AC.cond (.t 35)
  (AC.par
   (PT.step 0 ⟨(some 36), .fld 1, [.t 1], none⟩
   (PT.step 2 ⟨(some 38), .fld 2, [.t 1], none⟩
   (PT.step 1 ⟨(some 37), .load false 1, [.t 36], none⟩
   (PT.step 4 ⟨(some 40), .fld 1, [.t 5], none⟩
   (PT.alt
    (PT.step 3 ⟨(some 39), .load false 1, [.t 38], none⟩
    (PT.step 5 ⟨none, .store 1, [.t 40, .t 37], none⟩
    (PT.step 6 ⟨(some 41), .fld 2, [.t 5], none⟩
    (PT.step 7 ⟨none, .store 1, [.t 41, .t 39], none⟩
    PT.done))))
    (PT.step 5 ⟨none, .store 1, [.t 40, .t 37], none⟩
    (PT.step 3 ⟨(some 39), .load false 1, [.t 38], none⟩
    (PT.step 6 ⟨(some 41), .fld 2, [.t 5], none⟩
    (PT.step 7 ⟨none, .store 1, [.t 41, .t 39], none⟩
    PT.done))))))))))
  AC.skip))
 (AC.seq (AC.seq (AC.reg [
  ⟨(some 42), .load true 19, [.t 1], none⟩,
  ⟨(some 43), .load true 19, [.t 5], none⟩,
  ⟨(some 44), .call 43, [.t 42, .t 43], none⟩,
  ⟨(some 45), .un .not, [.t 44], none⟩])
 (AC.cond (.t 45)
  (AC.seq (AC.reg [
   ⟨(some 2), .mov, [.c (.int .i64 4)], none⟩])
  AC.ret)
  AC.skip))
 (AC.seq (AC.reg [
  ⟨(some 2), .mov, [.c (.int .i64 0)], none⟩])
 AC.ret))))))))
def r27 : AC × List RT × Nat := (c27, [.tmp 2], 46)
theorem ok27e : compF Tryz.prog Tryz.f27 ⟨false, false, []⟩ = some r27 := by kernel_rfl
variable {E : Env}
def evV (kind client id : Int) (t r : V) : V := .agg [.int .u8 kind, .int .u8 client, .int .u16 id, .int .u8 0, .int .u8 0, .int .u8 0, .int .u16 0, .int .u16 0, .int .u8 0, .int .u16 0, t, r, .int .u8 0, .int .i64 0, .int .i64 0, .int .i64 0, .bool false, .bool false, .bool false]
theorem m_idxv {W : AW} {K : V → AW → Prop} {n s : Nat} {g : Bool} {cs : List V} {k : IntKind} {i : Int} : sem E (.idxv n s g) [.agg cs, .int k i] W K = if 0 ≤ i ∧ i < n then optK (partV cs (i.toNat * s) s g) (fun v => K v W) else False := by
  by_cases h : 0 ≤ i ∧ i < n
  · simp only [sem, rsem, tsem, h, if_true, and_self]
    cases partV cs (i.toNat * s) s g <;> rfl
  · simp only [sem, rsem, tsem, h, if_false]
def kindB : V := .agg [.fn (.func 73) [] [], .fn (.func 74) [] [], .fn (.func 75) [] [], .fn (.func 76) [] []]
def kindC : V := .agg [.fn (.func 77) [] [], .fn (.func 78) [] [], .fn (.func 79) [] [], .fn (.func 80) [] []]
def kindsL : List V := [.nilfn, .nilfn, .nilfn, .nilfn, .fn (.func 57) [] [], .fn (.func 58) [] [], .fn (.func 59) [] [], .fn (.func 60) [] [], .fn (.func 61) [] [], .fn (.func 62) [] [], .fn (.func 63) [] [], .fn (.func 64) [] [], .fn (.func 65) [] [], .fn (.func 66) [] [], .fn (.func 67) [] [], .fn (.func 68) [] [], .fn (.func 69) [] [], .fn (.func 70) [] [], .fn (.func 71) [] [], .fn (.func 72) [] [], .fn (.func 73) [] [], .fn (.func 74) [] [], .fn (.func 75) [] [], .fn (.func 76) [] [], .fn (.func 77) [] [], .fn (.func 78) [] [], .fn (.func 79) [] [], .fn (.func 80) [] [], .fn (.func 69) [] [], .fn (.func 70) [] [], .fn (.func 71) [] [], .fn (.func 72) [] []]
theorem kinds_c (hP : E.P = Tryz.prog) (W : AW) : ACalls E 49 [] W fun X W' => X = .agg kindsL ∧ W' = W := by
  refine ACalls.of hP Tryz.func49 ok49e (by simp) fun _ hok => ?_
  refine awp_start hok ?_
  simp only [c49, e_seq, e_reg, e_ret, e_cons, e_nil, e_plain, evs_nil, evs_cons, ev_t, ev_f, e_putK, e_putd, e_putd0, e_put, e_then, retQ_ret, ↓reduceIte, Nat.reduceEqDiff, reduceCtorEq, Option.map_some, List.getElem?_cons_zero, frz_agg, sem_alloc, X_alloc, X_nx, X_get, X_put1, optK_some, partV_t, m_store, storeK_row, m_build, fillV_nil, fillV_cons, cells_agg, cells_fn, one_fn, one_nilfn, List.cons_append, List.nil_append, List.append_nil, List.length_cons, List.length_nil, List.length_append, Nat.zero_add, Nat.reduceAdd, Nat.reduceLeDiff, Nat.reduceLT, List.set_cons_zero, List.drop_succ_cons, List.drop_zero, List.drop_nil, List.take_succ_cons, List.take_zero, List.take_nil, List.all_cons, List.all_nil, Bool.and_self, undef_t, e_resc, rt_cell, rsem_load, cellV_row, partV_t]
  exact ⟨_, rfl, _, W, backX hok rfl, Nat.le_refl _, rfl, rfl⟩
theorem of_c (hP : E.P = Tryz.prog) (W : AW) (k : Int) (hk : k = 5 ∨ k = 6) : ACalls E 42 [.int .u8 k] W fun X W' => X = .tuple [if k = 5 then kindB else kindC, .bool true] ∧ W' = W := by
  refine ACalls.of hP Tryz.func42 ok42e (by simp) fun _ hok => ?_
  refine awp_start hok ?_
  have h1 : decide (k < 1) = false := by simp; omega
  have h2 : decide (k > 7) = false := by simp; omega
  simp only [c42, e_seq, e_reg, cond_if, e_skip, e_cons, e_nil, e_plain, guard_if, evs_nil, evs_cons, ev_t, ev_c, argsA_ap, e_putK, e_putd, e_put, e_then, ↓reduceIte, Nat.reduceEqDiff, reduceCtorEq, List.map_nil, List.getElem?_cons_zero, Bool.false_eq_true, sem_mov, sem_pick, sem_lss, sem_gtr, sem_call, sem_alloc, X_alloc, X_nx, List.nil_append, List.length_nil, h1, h2]
  refine pc (kinds_c hP _) ?_
  have e5 : partV kindsL (k.toNat * 4) 4 true = some (if k = 5 then kindB else kindC) := by
    rcases hk with rfl | rfl <;> rfl
  have h3 : (0 ≤ k ∧ k < ((8 : Nat) : Int)) = True := by simp; omega
  simp only [e_ret, e_cons, e_nil, e_plain, evs_nil, evs_cons, ev_t, ev_c, argsA_ap, e_putK, e_putd, e_putd0, e_put, retQ_ret, ↓reduceIte, Nat.reduceEqDiff, reduceCtorEq, Option.map_some, List.getElem?_cons_zero, frz_bool, sem_mov, X_get, X_put1, optK_some, partV_t, m_store, storeK_row, List.nil_append, List.append_nil, List.length_cons, List.length_nil, Nat.zero_add, Nat.reduceAdd, Nat.reduceLeDiff, Nat.reduceLT, List.set_cons_zero, List.drop_succ_cons, List.drop_zero, List.drop_nil, List.take_zero, undef_t, e_resc2, rt_cell, rt_tmp, rsem_load, cellV_row, partV_t, m_idxv, h3, e5]
  rcases hk with rfl | rfl
  · simp only [↓reduceIte, Option.map_some, frz_agg, cells_agg, one_fn, List.length_cons, List.length_nil, Nat.zero_add, Nat.reduceAdd, Nat.reduceLeDiff, List.take_succ_cons, List.take_nil, List.all_cons, List.all_nil, Bool.and_self, kindB]
    exact ⟨_, rfl, _, W, backX hok rfl, Nat.le_refl _, rfl, rfl⟩
  · simp only [↓reduceIte, Option.map_some, frz_agg, cells_agg, one_fn, List.length_cons, List.length_nil, Nat.zero_add, Nat.reduceAdd, Nat.reduceLeDiff, List.take_succ_cons, List.take_nil, List.all_cons, List.all_nil, Bool.and_self, kindC, show ((6 : Int) = 5) = False by simp]
    exact ⟨_, rfl, _, W, backX hok rfl, Nat.le_refl _, rfl, rfl⟩
theorem begun_c (hP : E.P = Tryz.prog) (W : AW) (k c i : Int) {t r : V} {l : List Mi} {s : List V} (h : isMs t l) (hr : isS 1 r s) : ACalls E 73 [evV k c i t r] W fun X W' => X = evV 0 0 0 t .nilsl ∧ W' = W := by
  refine ACalls.of hP Tryz.func73 ok73e (by simp) fun _ hok => ?_
  refine awp_start hok ?_
  simp only [c73, e_seq, e_reg, e_ret, e_cons, e_nil, e_plain, evs_nil, evs_cons, ev_t, argsA_ap, e_putK, e_putd, e_putd0, e_put, e_then, retQ_ret, ↓reduceIte, Nat.reduceEqDiff, Option.map_some, List.getElem?_cons_zero, List.getElem?_cons_succ, frz_agg, sem_alloc, sem_box, sem_fld_ptr, X_alloc, X_nx, X_get, X_put1, m_load, loadK_f, optK_some, partV_t, m_store, storeK_row, m_build, fillV_nil, fillV_cons, cells_agg, one_int, one_bool, one_nilsl, List.cons_append, List.nil_append, List.append_nil, List.length_cons, List.length_nil, Nat.zero_add, Nat.reduceAdd, Nat.reduceLeDiff, Nat.reduceLT, List.set_cons_zero, List.set_cons_succ, List.drop_succ_cons, List.drop_zero, List.drop_nil, List.take_succ_cons, List.take_zero, List.take_nil, List.all_cons, List.all_nil, Bool.and_self, undef_t, e_resc, rt_cell, rsem_load, cellV_row, partV_t, evV, h.cells, h.one]
  refine ⟨_, rfl, _, W, backX hok ?_, Nat.le_refl _, rfl, rfl⟩
  simp only [V.bel, V.belL, h.lens (belL_mi l _), Bool.and_true]
theorem committed_c (hP : E.P = Tryz.prog) (W : AW) (k c i : Int) {t r : V} {l : List Mi} {s : List V} (h : isMs t l) (hr : isS 1 r s) (hb : V.belL W.nx s = true) : ACalls E 77 [evV k c i t r] W fun X W' => X = evV 0 0 0 .nilsl r ∧ W' = W := by
  refine ACalls.of hP Tryz.func77 ok77e (by simp) fun _ hok => ?_
  refine awp_start hok ?_
  simp only [c77, e_seq, e_reg, e_ret, e_cons, e_nil, e_plain, evs_nil, evs_cons, ev_t, argsA_ap, e_putK, e_putd, e_putd0, e_put, e_then, retQ_ret, ↓reduceIte, Nat.reduceEqDiff, Option.map_some, List.getElem?_cons_zero, List.getElem?_cons_succ, frz_agg, sem_alloc, sem_box, sem_fld_ptr, X_alloc, X_nx, X_get, X_put1, m_load, loadK_f, optK_some, partV_t, m_store, storeK_row, m_build, fillV_nil, fillV_cons, cells_agg, one_int, one_bool, one_nilsl, List.cons_append, List.nil_append, List.append_nil, List.length_cons, List.length_nil, Nat.zero_add, Nat.reduceAdd, Nat.reduceLeDiff, Nat.reduceLT, List.set_cons_zero, List.set_cons_succ, List.drop_succ_cons, List.drop_zero, List.drop_nil, List.take_succ_cons, List.take_zero, List.take_nil, List.all_cons, List.all_nil, Bool.and_self, undef_t, e_resc, rt_cell, rsem_load, cellV_row, partV_t, evV, hr.cells, hr.one]
  refine ⟨_, rfl, _, W, backX hok ?_, Nat.le_refl _, rfl, rfl⟩
  simp only [V.bel, V.belL, hr.lens hb, Bool.and_true]
theorem mayTxn_c (hP : E.P = Tryz.prog) (W : AW) (k c i : Int) {t r : V} {l : List Mi} {s : List V} (h : isMs t l) (hr : isS 1 r s) (hl : l.length < 2 ^ 40) : ACalls E 74 [evV k c i t r] W fun X W' => X = .bool (decide (1 ≤ l.length) && decide (l.length ≤ 8) && !l.any badMi) ∧ W' = W := by
  refine ACalls.of hP Tryz.func74 ok74e (by simp) fun _ hok => ?_
  refine awp_start hok ?_
  have e1 : decide ((1 : Int) ≤ (l.length : Int)) = decide (1 ≤ l.length) := by simp; omega
  have e2 : decide ((l.length : Int) ≤ 8) = decide (l.length ≤ 8) := by simp; omega
  simp only [c74, e_seq, e_reg, e_cons, e_nil, e_plain, evs_nil, evs_cons, ev_t, ev_c, ev_f, argsA_ap, e_putK, e_putd, e_put, e_then, ↓reduceIte, Nat.reduceEqDiff, List.map_cons, List.map_nil, List.getElem?_cons_zero, List.getElem?_cons_succ, frz_int, sem_mov, sem_call, sem_box, sem_fld_ptr, X_alloc, X_nx, X_get, m_load, loadK_f, optK_some, cells_agg, List.nil_append, List.length_nil, Nat.zero_add, evV, h.len, List.length_map]
  refine pc (within_c hP _ _ _ _) ?_
  cases hb : decide (1 ≤ l.length) && decide (l.length ≤ 8) with
  | false =>
    simp only [e_ret, e_cons, e_nil, e_plain, guard_if, evs_nil, evs_cons, ev_t, ev_c, e_putK, e_putd, e_put, retQ_ret, e_res1, ↓reduceIte, Nat.reduceEqDiff, Option.map_some, Bool.false_eq_true, frz_bool, sem_mov, sem_pick, undef_t, e1, e2, hb]
    exact ⟨_, rfl, _, W, backX hok rfl, Nat.le_refl _, by simp, rfl⟩
  | true =>
    simp only [e_cons, e_plain, guard_if, evs_nil, evs_cons, ev_t, e_putK, e_putd, e_put, ↓reduceIte, Nat.reduceEqDiff, List.map_cons, List.map_nil, List.getElem?_cons_zero, List.getElem?_cons_succ, frz_fn, sem_mov, sem_call, sem_fld_ptr, X_get, m_load, loadK_f, optK_some, Nat.zero_add, Bool.true_and, e1, e2, hb, h.frz]
    refine pc (anyMi_c hP _ h hl) ?_
    simp only [e_ret, e_cons, e_nil, e_plain, guard_if, evs_nil, evs_cons, ev_t, ev_c, e_putK, e_putd, e_put, retQ_ret, e_res1, ↓reduceIte, Nat.reduceEqDiff, Option.map_some, frz_bool, sem_mov, sem_pick, sem_not]
    exact ⟨_, rfl, _, W, backX hok rfl, Nat.le_refl _, by simp, rfl⟩
theorem mayReads_c (hP : E.P = Tryz.prog) (W : AW) (k c i : Int) {t r : V} {l : List Mi} {ls : List (Option (List Int))} (h : isMs t l) (hr : isLs r ls) (hl : ls.length < 2 ^ 40) : ACalls E 78 [evV k c i t r] W fun X W' => X = .bool (decide (ls.length ≤ 8) && !ls.any longL) ∧ W' = W := by
  obtain ⟨xs, i1, i2, _⟩ := id hr
  refine ACalls.of hP Tryz.func78 ok78e (by simp) fun _ hok => ?_
  refine awp_start hok ?_
  have e2 : decide ((ls.length : Int) ≤ 8) = decide (ls.length ≤ 8) := by simp; omega
  cases hb : decide (ls.length ≤ 8) with
  | false =>
    simp only [c78, e_seq, e_reg, e_ret, e_cons, e_nil, e_plain, guard_if, evs_nil, evs_cons, ev_t, ev_c, ev_f, argsA_ap, e_putK, e_putd, e_put, e_then, retQ_ret, e_res1, ↓reduceIte, Nat.reduceEqDiff, Option.map_some, List.getElem?_cons_zero, List.getElem?_cons_succ, Bool.false_eq_true, frz_bool, sem_mov, sem_pick, sem_leq, sem_box, sem_fld_ptr, X_alloc, X_nx, X_get, m_load, loadK_f, optK_some, cells_agg, List.nil_append, List.length_nil, Nat.zero_add, undef_t, evV, i1.len, i2, e2, hb]
    exact ⟨_, rfl, _, W, backX hok rfl, Nat.le_refl _, by simp, rfl⟩
  | true =>
    simp only [c78, e_seq, e_reg, e_cons, e_nil, e_plain, guard_if, evs_nil, evs_cons, ev_t, ev_c, ev_f, argsA_ap, e_putK, e_putd, e_put, e_then, ↓reduceIte, Nat.reduceEqDiff, List.map_cons, List.map_nil, List.getElem?_cons_zero, List.getElem?_cons_succ, frz_fn, sem_mov, sem_leq, sem_call, sem_box, sem_fld_ptr, X_alloc, X_nx, X_get, m_load, loadK_f, optK_some, cells_agg, List.nil_append, List.length_nil, Nat.zero_add, Bool.true_and, evV, i1.len, i2, e2, hb, i1.frz]
    refine pc (anyLs_c hP _ hr hl) ?_
    simp only [e_ret, e_cons, e_nil, e_plain, guard_if, evs_nil, evs_cons, ev_t, ev_c, e_putK, e_putd, e_put, retQ_ret, e_res1, ↓reduceIte, Nat.reduceEqDiff, Option.map_some, frz_bool, sem_mov, sem_pick, sem_not]
    exact ⟨_, rfl, _, W, backX hok rfl, Nat.le_refl _, by simp, rfl⟩
theorem eqv_op {W : AW} {K : V → AW → Prop} : sem E (.eqv false (true, [.i .u8, .i .u8, .i .u8, .i .u16, .i .u16])) [.agg [.int .u8 0, .int .u8 0, .int .u8 0, .int .u16 0, .int .u16 0], .agg [.int .u8 0, .int .u8 0, .int .u8 0, .int .u16 0, .int .u16 0]] W K = K (.bool true) W := id rfl
theorem eqv_res {W : AW} {K : V → AW → Prop} : sem E (.eqv false (true, [.i .u8, .i .u16])) [.agg [.int .u8 0, .int .u16 0], .agg [.int .u8 0, .int .u16 0]] W K = K (.bool true) W := id rfl
theorem eqv_cf {W : AW} {K : V → AW → Prop} : sem E (.eqv false (true, [.i .u8, .i .i64, .i .i64, .i .i64, .b, .b, .b])) [.agg [.int .u8 0, .int .i64 0, .int .i64 0, .int .i64 0, .bool false, .bool false, .bool false], .agg [.int .u8 0, .int .i64 0, .int .i64 0, .int .i64 0, .bool false, .bool false, .bool false]] W K = K (.bool true) W := id rfl
theorem sameEv_c (hP : E.P = Tryz.prog) (W : AW) (k c i : Int) {t r : V} {l : List Mi} {ls : List (Option (List Int))} (h : isMs t l) (hr : isLs r ls) (ho : ∀ m ∈ l, m.ok) (hl : l.length < 2 ^ 40) (hls : ls.length < 2 ^ 40) (hs : ∀ x ∈ ls, (nums x).length < 2 ^ 40) :
    ACalls E 43 [evV k c i t r, evV k c i t r] W fun X W' => X = .bool true ∧ W' = W := by
  obtain ⟨xs, i1, i2, _⟩ := id hr
  refine ACalls.of hP Tryz.func43 ok43e (by simp) fun _ hok => ?_
  refine awp_start hok ?_
  simp only [c43, e_seq, e_reg, e_cons, e_nil, e_plain, guard_if, evs_nil, evs_cons, ev_t, ev_c, argsA_ap, e_putK, e_putd, e_put, e_then, ↓reduceIte, Nat.reduceEqDiff, List.map_cons, List.map_nil, List.getElem?_cons_zero, List.getElem?_cons_succ, sem_mov, sem_pick, sem_eql, sem_call, sem_box, sem_fld_ptr, X_alloc, X_nx, X_get, m_load, loadK_f, loadK_t, optK_some, cells_agg, List.cons_append, List.nil_append, List.length_cons, List.length_nil, Nat.zero_add, Nat.add_zero, Nat.reduceAdd, Nat.reduceLeDiff, List.drop_succ_cons, List.drop_zero, List.take_succ_cons, List.take_zero, evV, beq_self_eq_true, eqv_op, eqv_res, h.frz]
  refine pc (eqMi_c hP _ h h ho ho hl) ?_
  simp only [e_cons, e_plain, guard_if, evs_nil, evs_cons, ev_t, ev_c, ev_f, e_putK, e_putd, e_put, ↓reduceIte, Nat.reduceEqDiff, List.map_cons, List.map_nil, List.getElem?_cons_zero, List.getElem?_cons_succ, frz_fn, sem_mov, sem_pick, sem_call, sem_fld_ptr, X_get, m_load, loadK_f, optK_some, Nat.zero_add, decide_true, i1.frz]
  refine pc (eqFunc_c hP _ hr hr hls hs) ?_
  simp only [e_ret, e_cons, e_nil, e_plain, guard_if, evs_nil, evs_cons, ev_t, ev_c, e_putK, e_putd, e_put, retQ_ret, e_res1, ↓reduceIte, Nat.reduceEqDiff, Option.map_some, List.getElem?_cons_zero, List.getElem?_cons_succ, frz_bool, sem_mov, sem_pick, sem_fld_ptr, X_get, m_load, loadK_t, List.length_cons, List.length_nil, Nat.zero_add, Nat.reduceAdd, Nat.reduceLeDiff, List.drop_succ_cons, List.drop_zero, List.take_succ_cons, List.take_nil, sameLs, decide_true, eqv_cf]
  exact ⟨_, rfl, _, W, backX hok rfl, Nat.le_refl _, rfl, rfl⟩
end Go.AL.S
set_option maxRecDepth 100000
namespace Go.AL.S
open Go Go.AL Go.Proofs
variable {E : Env}
def okB (c : Int) (l : List Mi) : Bool := (decide (1 ≤ l.length) && decide (l.length ≤ 8) && !l.any badMi) && decide (c < 16)
def okC (ls : List (Option (List Int))) : Bool := decide (ls.length ≤ 8) && !ls.any longL
theorem checkB_c (hP : E.P = Tryz.prog) (W : AW) (c i : Int) {t : V} {l : List Mi} (h : isMs t l) (ho : ∀ m ∈ l, m.ok) (hl : l.length < 2 ^ 40) :
    ACalls E 27 [evV 5 c i t .nilsl] W fun X W' => X = .int .i64 (if okB c l then 0 else 4) ∧ W' = W := by
  refine ACalls.of hP Tryz.func27 ok27e (by simp) fun _ hok => ?_
  refine awp_start hok ?_
  have hn : isLs .nilsl [] := ⟨[], .inl ⟨rfl, rfl⟩, rfl, fun k h => by simp at h⟩
  have hs : isS 1 .nilsl ([] : List V) := .inl ⟨rfl, rfl⟩
  simp only [c27, e_seq, e_reg, e_cons, e_nil, e_plain, evs_nil, evs_cons, ev_t, ev_c, argsA_ap, e_putK, e_putd, e_put, e_then, ↓reduceIte, Nat.reduceEqDiff, List.map_cons, List.map_nil, List.getElem?_cons_zero, frz_int, sem_mov, sem_call, sem_box, sem_fld_ptr, X_alloc, X_nx, X_get, m_load, loadK_f, optK_some, cells_agg, List.nil_append, List.length_nil, Nat.add_zero, evV]
  refine pc (of_c hP _ 5 (.inl rfl)) ?_
  simp only [e_seq, e_reg, e_cons, e_nil, e_plain, guard_if, evs_nil, evs_cons, ev_t, e_putK, e_putd, e_putd0, e_put, e_then, ↓reduceIte, Nat.reduceEqDiff, List.map_cons, List.map_nil, List.getElem?_cons_zero, List.getElem?_cons_succ, frz_agg, sem_mov, sem_not, sem_ext0, sem_ext1, sem_callv, sem_alloc, sem_fld_ptr, X_alloc, X_nx, X_get, X_put1, m_load, loadK_f, loadK_t, optK_some, m_store, storeK_row, cells_agg, one_fn, List.cons_append, List.nil_append, List.append_nil, List.length_cons, List.length_nil, Nat.zero_add, Nat.reduceAdd, Nat.reduceLeDiff, Nat.reduceLT, List.set_cons_zero, List.set_cons_succ, List.drop_succ_cons, List.drop_zero, List.drop_nil, List.take_succ_cons, List.take_zero, List.take_nil, List.all_cons, List.all_nil, Bool.and_self, Bool.not_true, undef_t, kindB]
  refine pc (mayTxn_c hP _ 5 c i h hs hl) ?_
  cases hm : (decide (1 ≤ l.length) && decide (l.length ≤ 8) && !l.any badMi) with
  | false =>
    simp only [e_seq, e_reg, cond_if, e_ret, e_cons, e_nil, e_plain, guard_if, evs_nil, evs_cons, ev_t, ev_c, e_putK, e_putd, e_put, e_then, e_then_ret, retQ_ret, e_res1, ↓reduceIte, Nat.reduceEqDiff, Option.map_some, Bool.false_eq_true, Bool.true_eq_false, frz_int, sem_mov, sem_pick, sem_not, Bool.not_false, undef_t]
    exact ⟨_, rfl, _, W, backX hok rfl, Nat.le_refl _, by simp [okB, hm], rfl⟩
  | true =>
    by_cases hc : c ≥ 16
    · simp only [e_seq, e_reg, cond_if, e_ret, e_cons, e_nil, e_plain, guard_if, evs_nil, evs_cons, ev_t, ev_c, e_putK, e_putd, e_put, e_then, e_then_ret, retQ_ret, e_res1, ↓reduceIte, Nat.reduceEqDiff, Option.map_some, List.getElem?_cons_zero, List.getElem?_cons_succ, Bool.false_eq_true, frz_int, sem_mov, sem_pick, sem_geq, sem_not, sem_fld_ptr, X_get, m_load, loadK_f, optK_some, Nat.zero_add, Bool.not_true, decide_eq_true hc]
      exact ⟨_, rfl, _, W, backX hok rfl, Nat.le_refl _, by simp [okB, hm]; omega, rfl⟩
    · simp only [e_seq, e_reg, cond_if, e_skip, e_cons, e_nil, e_plain, guard_if, evs_nil, evs_cons, ev_t, ev_c, e_putK, e_putd, e_put, e_then, ↓reduceIte, Nat.reduceEqDiff, List.map_cons, List.map_nil, List.getElem?_cons_zero, List.getElem?_cons_succ, Bool.false_eq_true, frz_agg, sem_mov, sem_pick, sem_geq, sem_not, sem_callv, sem_fld_ptr, X_get, m_load, loadK_f, loadK_t, optK_some, List.nil_append, List.append_nil, List.length_cons, List.length_nil, Nat.zero_add, Nat.add_zero, Nat.reduceAdd, Nat.reduceLeDiff, List.drop_zero, List.take_succ_cons, List.take_nil, Bool.not_true, decide_eq_false hc]
      refine pc (begun_c hP _ 5 c i h hs) ?_
      simp only [e_seq, e_reg, cond_if, e_par, e_done, e_step, e_cons, e_nil, e_plain, evs_nil, evs_cons, ev_t, ev_c, e_putK, e_putd, e_putd0, e_put, e_then, ↓reduceIte, Nat.reduceEqDiff, List.map_cons, List.map_nil, List.getElem?_cons_zero, List.getElem?_cons_succ, frz_agg, sem_neq, sem_call, sem_alloc, sem_fld_ptr, X_alloc, X_nx, X_get, X_put1, m_load, loadK_f, loadK_t, optK_some, m_store, storeK_row, cells_int, cells_agg, one_int, one_bool, one_nilsl, List.cons_append, List.nil_append, List.append_nil, List.length_cons, List.length_nil, Nat.zero_add, Nat.add_zero, Nat.reduceAdd, Nat.reduceLeDiff, Nat.reduceLT, List.set_cons_zero, List.set_cons_succ, List.drop_succ_cons, List.drop_zero, List.drop_nil, List.take_succ_cons, List.take_zero, List.take_nil, List.all_cons, List.all_nil, Bool.and_self, undef_t, e_alt, evV, h.one, show ((5 : Int) != 1) = true by decide]
      simp only [and_self]
      refine pc (sameEv_c hP _ 5 c i h hn ho hl (by simp) (by simp)) ?_
      simp only [e_seq, e_reg, cond_if, e_ret, e_skip, e_cons, e_nil, e_plain, evs_nil, evs_cons, ev_t, ev_c, e_putK, e_putd, e_put, e_then, retQ_ret, e_res1, ↓reduceIte, Option.map_some, Bool.false_eq_true, frz_int, sem_mov, sem_not, Bool.not_true]
      exact ⟨_, rfl, _, W, backX hok rfl, Nat.le_refl _, by simp [okB, hm]; omega, rfl⟩
theorem checkC_c (hP : E.P = Tryz.prog) (W : AW) (i : Int) {r : V} {ls : List (Option (List Int))} (hr : isLs r ls) (hl : ls.length < 2 ^ 40) (hs : ∀ x ∈ ls, (nums x).length < 2 ^ 40) (hb : r.bel 0 = true) :
    ACalls E 27 [evV 6 0 i .nilsl r] W fun X W' => X = .int .i64 (if okC ls then 0 else 4) ∧ W' = W := by
  refine ACalls.of hP Tryz.func27 ok27e (by simp) fun _ hok => ?_
  refine awp_start hok ?_
  obtain ⟨xs, i1, i2, i3⟩ := id hr
  have hn : isMs .nilsl [] := .inl ⟨rfl, rfl⟩
  simp only [c27, e_seq, e_reg, e_cons, e_nil, e_plain, evs_nil, evs_cons, ev_t, ev_c, argsA_ap, e_putK, e_putd, e_put, e_then, ↓reduceIte, Nat.reduceEqDiff, List.map_cons, List.map_nil, List.getElem?_cons_zero, frz_int, sem_mov, sem_call, sem_box, sem_fld_ptr, X_alloc, X_nx, X_get, m_load, loadK_f, optK_some, cells_agg, List.nil_append, List.length_nil, Nat.add_zero, evV]
  refine pc (of_c hP _ 6 (.inr rfl)) ?_
  simp only [e_seq, e_reg, e_cons, e_nil, e_plain, guard_if, evs_nil, evs_cons, ev_t, e_putK, e_putd, e_putd0, e_put, e_then, ↓reduceIte, Nat.reduceEqDiff, List.map_cons, List.map_nil, List.getElem?_cons_zero, List.getElem?_cons_succ, frz_agg, sem_mov, sem_not, sem_ext0, sem_ext1, sem_callv, sem_alloc, sem_fld_ptr, X_alloc, X_nx, X_get, X_put1, m_load, loadK_f, loadK_t, optK_some, m_store, storeK_row, cells_agg, one_fn, List.cons_append, List.nil_append, List.append_nil, List.length_cons, List.length_nil, Nat.zero_add, Nat.reduceAdd, Nat.reduceLeDiff, Nat.reduceLT, List.set_cons_zero, List.set_cons_succ, List.drop_succ_cons, List.drop_zero, List.drop_nil, List.take_succ_cons, List.take_zero, List.take_nil, List.all_cons, List.all_nil, Bool.and_self, Bool.not_true, undef_t, kindC, show ((6 : Int) = 5) = False by simp]
  refine pc (mayReads_c hP _ 6 0 i hn hr hl) ?_
  cases hm : (decide (ls.length ≤ 8) && !ls.any longL) with
  | false =>
    simp only [e_seq, e_reg, cond_if, e_ret, e_cons, e_nil, e_plain, guard_if, evs_nil, evs_cons, ev_t, ev_c, e_putK, e_putd, e_put, e_then, e_then_ret, retQ_ret, e_res1, ↓reduceIte, Nat.reduceEqDiff, Option.map_some, Bool.false_eq_true, Bool.true_eq_false, frz_int, sem_mov, sem_pick, sem_not, Bool.not_false, undef_t]
    exact ⟨_, rfl, _, W, backX hok rfl, Nat.le_refl _, by simp [okC, hm], rfl⟩
  | true =>
    simp only [e_seq, e_reg, cond_if, e_skip, e_cons, e_nil, e_plain, guard_if, evs_nil, evs_cons, ev_t, ev_c, e_putK, e_putd, e_put, e_then, ↓reduceIte, Nat.reduceEqDiff, List.map_cons, List.map_nil, List.getElem?_cons_zero, List.getElem?_cons_succ, Bool.false_eq_true, frz_agg, sem_mov, sem_pick, sem_geq, sem_not, sem_callv, sem_fld_ptr, X_get, m_load, loadK_f, loadK_t, optK_some, List.nil_append, List.append_nil, List.length_cons, List.length_nil, Nat.zero_add, Nat.add_zero, Nat.reduceAdd, Nat.reduceLeDiff, List.drop_zero, List.take_succ_cons, List.take_nil, Bool.not_true, show decide ((0 : Int) ≥ 16) = false by decide]
    have hb2 : ∀ n, V.belL n xs = true := by
      intro n
      rcases i1 with ⟨_, rfl⟩ | ⟨_, rfl⟩ | ⟨f, rfl⟩
      · rfl
      · rfl
      · exact belL_up (Nat.zero_le n) _ hb
    refine pc (committed_c hP _ 6 0 i hn i1 (hb2 _)) ?_
    simp only [e_seq, e_reg, cond_if, e_par, e_done, e_step, e_cons, e_nil, e_plain, evs_nil, evs_cons, ev_t, ev_c, e_putK, e_putd, e_putd0, e_put, e_then, ↓reduceIte, Nat.reduceEqDiff, List.map_cons, List.map_nil, List.getElem?_cons_zero, List.getElem?_cons_succ, frz_agg, sem_neq, sem_call, sem_alloc, sem_fld_ptr, X_alloc, X_nx, X_get, X_put1, m_load, loadK_f, loadK_t, optK_some, m_store, storeK_row, cells_int, cells_agg, one_int, one_bool, one_nilsl, List.cons_append, List.nil_append, List.append_nil, List.length_cons, List.length_nil, Nat.zero_add, Nat.add_zero, Nat.reduceAdd, Nat.reduceLeDiff, Nat.reduceLT, List.set_cons_zero, List.set_cons_succ, List.drop_succ_cons, List.drop_zero, List.drop_nil, List.take_succ_cons, List.take_zero, List.take_nil, List.all_cons, List.all_nil, Bool.and_self, undef_t, e_alt, evV, i1.one, show ((6 : Int) != 1) = true by decide]
    simp only [and_self]
    refine pc (sameEv_c hP _ 6 0 i hn hr (by simp) (by simp) hl hs) ?_
    simp only [e_seq, e_reg, cond_if, e_ret, e_skip, e_cons, e_nil, e_plain, evs_nil, evs_cons, ev_t, ev_c, e_putK, e_putd, e_put, e_then, retQ_ret, e_res1, ↓reduceIte, Option.map_some, Bool.false_eq_true, frz_int, sem_mov, sem_not, Bool.not_true]
    exact ⟨_, rfl, _, W, backX hok rfl, Nat.le_refl _, by simp [okC, hm], rfl⟩
end Go.AL.S
