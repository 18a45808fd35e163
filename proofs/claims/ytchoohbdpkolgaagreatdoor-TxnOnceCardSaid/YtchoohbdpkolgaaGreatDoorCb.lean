/- The store: what each of its functions does. Conditions: none. -/
import Derived.Test.YtchoohbdpkolgaaGreatDoorCa
set_option maxRecDepth 100000
namespace Go.AL.S
open Go Go.AL Go.Proofs
/- (*umpire/txn.Store).is -/
def c30 : AC := (AC.seq (AC.reg [
  ⟨(some 2), .mov, [.c (.bool false)], none⟩])
 (AC.seq (AC.reg [
  ⟨(some 3), .mov, [.t 0], none⟩,
  ⟨(some 4), .eqn true 0, [.t 3, .c (.nilptr)], none⟩,
  ⟨(some 5), .mov, [.t 4], none⟩,
  ⟨(some 6), .mov, [.t 0], (some (5, true))⟩,
  ⟨(some 7), .nilck, [.t 6], (some (5, true))⟩,
  ⟨(some 8), .fld 0, [.t 7], (some (5, true))⟩,
  ⟨(some 9), .load false 1, [.t 8], (some (5, true))⟩,
  ⟨(some 10), .eqn true 2, [.t 9, .c (.nilmap)], (some (5, true))⟩,
  ⟨(some 11), .pick, [.t 5, .t 10, .c (.bool false)], none⟩,
  ⟨(some 2), .mov, [.t 11], none⟩])
 AC.ret))
def r30 : AC × List RT × Nat := (c30, [.tmp 2], 12)
theorem ok30e : compF Tryz.prog Tryz.f30 ⟨false, false, []⟩ = some r30 := by kernel_rfl
/- umpire/txn.New -/
def c7 : AC := (AC.seq (AC.reg [
  ⟨(some 0), .mov, [.c (.nilptr)], none⟩])
 (AC.seq (AC.reg [
  ⟨(some 1), .mkmap, [], none⟩,
  ⟨(some 2), .mkmap, [], none⟩,
  ⟨(some 3), .build [.nilmap, .nilmap, .int .i64 0] [(0, 1), (1, 1), (2, 1)], [.t 1, .t 2, .c (.int .i64 (-1))], none⟩,
  ⟨(some 4), .box, [.t 3], none⟩,
  ⟨(some 0), .mov, [.t 4], none⟩])
 AC.ret))
def r7 : AC × List RT × Nat := (c7, [.tmp 0], 5)
theorem ok7e : compF Tryz.prog Tryz.f7 ⟨false, false, []⟩ = some r7 := by kernel_rfl
/- (*umpire/txn.Store).open -/
def c26 : AC := (AC.seq (AC.reg [
  ⟨(some 4), .alloc [.int .u16 0, .int .u8 0, .nilsl, .nilsl, .int .u8 0], [], none⟩,
  ⟨(some 5), .mov, [.c (.int .i64 0)], none⟩])
 (AC.seq (AC.seq (AC.reg [
  ⟨(some 8), .mov, [.t 0], none⟩,
  ⟨(some 9), .call 30, [.t 8], none⟩,
  ⟨(some 10), .un .not, [.t 9], none⟩])
 (AC.cond (.t 10)
  (AC.seq (AC.reg [
   ⟨(some 11), .build [.int .u16 0, .int .u8 0, .nilsl, .nilsl, .int .u8 0] [], [], none⟩,
   ⟨none, .store 5, [.t 4, .t 11], none⟩,
   ⟨(some 5), .mov, [.c (.int .i64 1)], none⟩])
  AC.ret)
  AC.skip))
 (AC.seq (AC.reg [
  ⟨(some 13), .mov, [.t 0], none⟩,
  ⟨(some 14), .nilck, [.t 13], none⟩,
  ⟨(some 15), .fld 0, [.t 14], none⟩,
  ⟨(some 16), .load false 1, [.t 15], none⟩,
  ⟨(some 17), .mov, [.t 1], none⟩,
  ⟨(some 18), .lookup (false, [.i .u16]) (.agg [.int .u16 0, .int .u8 0, .nilsl, .nilsl, .int .u8 0]) true, [.t 16, .t 17], none⟩,
  ⟨(some 12), .mov, [.t 18], none⟩,
  ⟨(some 19), .ext 0, [.t 12], none⟩,
  ⟨(some 20), .ext 1, [.t 12], none⟩,
  ⟨(some 6), .alloc [.int .u16 0, .int .u8 0, .nilsl, .nilsl, .int .u8 0], [], none⟩,
  ⟨none, .store 5, [.t 6, .t 19], none⟩,
  ⟨(some 7), .mov, [.t 20], none⟩])
 (AC.seq (AC.seq (AC.reg [
  ⟨(some 21), .mov, [.t 7], none⟩,
  ⟨(some 22), .un .not, [.t 21], none⟩,
  ⟨(some 23), .mov, [.t 22], none⟩,
  ⟨(some 24), .fld 4, [.t 6], (some (23, false))⟩,
  ⟨(some 25), .load false 1, [.t 24], (some (23, false))⟩,
  ⟨(some 26), .bin .neq, [.t 25, .c (.int .u8 0)], (some (23, false))⟩,
  ⟨(some 27), .pick, [.t 23, .c (.bool true), .t 26], none⟩])
 (AC.cond (.t 27)
  (AC.seq (AC.reg [
   ⟨(some 28), .build [.int .u16 0, .int .u8 0, .nilsl, .nilsl, .int .u8 0] [], [], none⟩,
   ⟨none, .store 5, [.t 4, .t 28], none⟩,
   ⟨(some 5), .mov, [.c (.int .i64 7)], none⟩])
  AC.ret)
  AC.skip))
 (AC.seq (AC.reg [
  ⟨(some 29), .load true 5, [.t 6], none⟩,
  ⟨none, .store 5, [.t 4, .t 29], none⟩,
  ⟨(some 5), .mov, [.c (.int .i64 0)], none⟩])
 AC.ret)))))
def r26 : AC × List RT × Nat := (c26, [.cell 4 true 5, .tmp 5], 30)
theorem ok26e : compF Tryz.prog Tryz.f26 ⟨false, false, []⟩ = some r26 := by kernel_rfl
/- (*umpire/txn.Store).end -/
def c29 : AC := (AC.seq (AC.reg [
  ⟨(some 6), .mov, [.c (.int .i64 0)], none⟩])
 (AC.seq (AC.reg [
  ⟨(some 10), .mov, [.t 0], none⟩,
  ⟨(some 11), .mov, [.t 1], none⟩,
  ⟨(some 12), .call 26, [.t 10, .t 11], none⟩,
  ⟨(some 9), .mov, [.t 12], none⟩,
  ⟨(some 13), .ext 0, [.t 9], none⟩,
  ⟨(some 14), .ext 1, [.t 9], none⟩,
  ⟨(some 7), .alloc [.int .u16 0, .int .u8 0, .nilsl, .nilsl, .int .u8 0], [], none⟩,
  ⟨none, .store 5, [.t 7, .t 13], none⟩,
  ⟨(some 8), .mov, [.t 14], none⟩])
 (AC.seq (AC.seq (AC.reg [
  ⟨(some 15), .mov, [.t 8], none⟩,
  ⟨(some 16), .bin .eql, [.t 15, .c (.int .i64 0)], none⟩])
 (AC.cond (.t 16)
  (AC.seq (AC.reg [
   ⟨(some 17), .mov, [.t 2], none⟩,
   ⟨(some 18), .fld 4, [.t 7], none⟩,
   ⟨none, .store 1, [.t 18, .t 17], none⟩])
  (AC.par
   (PT.step 0 ⟨(some 19), .mov, [.t 0], none⟩
   (PT.step 1 ⟨(some 20), .nilck, [.t 19], none⟩
   (PT.step 2 ⟨(some 21), .fld 0, [.t 20], none⟩
   (PT.step 4 ⟨(some 23), .mov, [.t 1], none⟩
   (PT.step 3 ⟨(some 22), .load false 1, [.t 21], none⟩
   (PT.step 5 ⟨(some 24), .load true 5, [.t 7], none⟩
   (PT.step 6 ⟨none, .mupd (false, [.i .u16]), [.t 22, .t 23, .t 24], none⟩
   PT.done)))))))))
  AC.skip))
 (AC.seq (AC.reg [
  ⟨(some 25), .mov, [.t 8], none⟩,
  ⟨(some 6), .mov, [.t 25], none⟩])
 AC.ret))))
def r29 : AC × List RT × Nat := (c29, [.tmp 6], 26)
theorem ok29e : compF Tryz.prog Tryz.f29 ⟨false, false, []⟩ = some r29 := by kernel_rfl
/- (*umpire/txn.Store).Abort -/
def c9 : AC := (AC.seq (AC.reg [
  ⟨(some 4), .mov, [.c (.int .i64 0)], none⟩])
 (AC.seq (AC.reg [
  ⟨(some 5), .mov, [.t 0], none⟩,
  ⟨(some 6), .mov, [.t 1], none⟩,
  ⟨(some 7), .call 29, [.t 5, .t 6, .c (.int .u8 2)], none⟩,
  ⟨(some 4), .mov, [.t 7], none⟩])
 AC.ret))
def r9 : AC × List RT × Nat := (c9, [.tmp 4], 8)
theorem ok9e : compF Tryz.prog Tryz.f9 ⟨false, false, []⟩ = some r9 := by kernel_rfl
/- (*umpire/txn.Store).Info -/
def c10 : AC := (AC.seq (AC.reg [
  ⟨(some 4), .mov, [.c (.int .i64 0)], none⟩])
 (AC.seq (AC.reg [
  ⟨(some 5), .mov, [.t 0], none⟩,
  ⟨(some 6), .mov, [.t 1], none⟩,
  ⟨(some 7), .call 29, [.t 5, .t 6, .c (.int .u8 3)], none⟩,
  ⟨(some 4), .mov, [.t 7], none⟩])
 AC.ret))
def r10 : AC × List RT × Nat := (c10, [.tmp 4], 8)
theorem ok10e : compF Tryz.prog Tryz.f10 ⟨false, false, []⟩ = some r10 := by kernel_rfl
/- (*umpire/txn.Store).Find -/
def c16 : AC := (AC.seq (AC.reg [
  ⟨(some 4), .alloc [.int .u16 0, .int .u8 0, .nilsl, .nilsl, .int .u8 0], [], none⟩,
  ⟨(some 5), .mov, [.c (.bool false)], none⟩])
 (AC.seq (AC.seq (AC.reg [
  ⟨(some 8), .mov, [.t 0], none⟩,
  ⟨(some 9), .call 30, [.t 8], none⟩,
  ⟨(some 10), .un .not, [.t 9], none⟩])
 (AC.cond (.t 10)
  (AC.seq (AC.reg [
   ⟨(some 11), .build [.int .u16 0, .int .u8 0, .nilsl, .nilsl, .int .u8 0] [], [], none⟩,
   ⟨none, .store 5, [.t 4, .t 11], none⟩,
   ⟨(some 5), .mov, [.c (.bool false)], none⟩])
  AC.ret)
  AC.skip))
 (AC.seq (AC.reg [
  ⟨(some 13), .mov, [.t 0], none⟩,
  ⟨(some 14), .nilck, [.t 13], none⟩,
  ⟨(some 15), .fld 0, [.t 14], none⟩,
  ⟨(some 16), .load false 1, [.t 15], none⟩,
  ⟨(some 17), .mov, [.t 1], none⟩,
  ⟨(some 18), .lookup (false, [.i .u16]) (.agg [.int .u16 0, .int .u8 0, .nilsl, .nilsl, .int .u8 0]) true, [.t 16, .t 17], none⟩,
  ⟨(some 12), .mov, [.t 18], none⟩,
  ⟨(some 19), .ext 0, [.t 12], none⟩,
  ⟨(some 20), .ext 1, [.t 12], none⟩,
  ⟨(some 6), .alloc [.int .u16 0, .int .u8 0, .nilsl, .nilsl, .int .u8 0], [], none⟩,
  ⟨none, .store 5, [.t 6, .t 19], none⟩,
  ⟨(some 7), .mov, [.t 20], none⟩])
 (AC.seq (AC.reg [
  ⟨(some 21), .load true 5, [.t 6], none⟩,
  ⟨(some 22), .call 36, [.t 21], none⟩,
  ⟨(some 23), .mov, [.t 7], none⟩,
  ⟨none, .store 5, [.t 4, .t 22], none⟩,
  ⟨(some 5), .mov, [.t 23], none⟩])
 AC.ret))))
def r16 : AC × List RT × Nat := (c16, [.cell 4 true 5, .tmp 5], 24)
theorem ok16e : compF Tryz.prog Tryz.f16 ⟨false, false, []⟩ = some r16 := by kernel_rfl
/- (*umpire/txn.Store).Who -/
def c21 : AC := (AC.seq (AC.reg [
  ⟨(some 6), .alloc [.int .u16 0, .int .u8 0, .nilsl, .nilsl, .int .u8 0], [], none⟩,
  ⟨(some 7), .mov, [.c (.bool false)], none⟩])
 (AC.seq (AC.seq (AC.reg [
  ⟨(some 10), .mov, [.t 0], none⟩,
  ⟨(some 11), .call 30, [.t 10], none⟩,
  ⟨(some 12), .un .not, [.t 11], none⟩])
 (AC.cond (.t 12)
  (AC.seq (AC.reg [
   ⟨(some 13), .build [.int .u16 0, .int .u8 0, .nilsl, .nilsl, .int .u8 0] [], [], none⟩,
   ⟨none, .store 5, [.t 6, .t 13], none⟩,
   ⟨(some 7), .mov, [.c (.bool false)], none⟩])
  AC.ret)
  AC.skip))
 (AC.seq (AC.reg [
  ⟨(some 15), .mov, [.t 0], none⟩,
  ⟨(some 16), .nilck, [.t 15], none⟩,
  ⟨(some 17), .fld 1, [.t 16], none⟩,
  ⟨(some 18), .load false 1, [.t 17], none⟩,
  ⟨(some 19), .mov, [.t 1], none⟩,
  ⟨(some 20), .mov, [.t 2], none⟩,
  ⟨(some 21), .build [.int .u8 0, .int .u16 0] [(0, 1), (1, 1)], [.t 19, .t 20], none⟩,
  ⟨(some 22), .lookup (true, [.i .u8, .i .u16]) (.int .u16 0) true, [.t 18, .t 21], none⟩,
  ⟨(some 14), .mov, [.t 22], none⟩,
  ⟨(some 23), .ext 0, [.t 14], none⟩,
  ⟨(some 24), .ext 1, [.t 14], none⟩,
  ⟨(some 8), .mov, [.t 23], none⟩,
  ⟨(some 9), .mov, [.t 24], none⟩])
 (AC.seq (AC.seq (AC.reg [
  ⟨(some 25), .mov, [.t 9], none⟩,
  ⟨(some 26), .un .not, [.t 25], none⟩])
 (AC.cond (.t 26)
  (AC.seq (AC.reg [
   ⟨(some 27), .build [.int .u16 0, .int .u8 0, .nilsl, .nilsl, .int .u8 0] [], [], none⟩,
   ⟨none, .store 5, [.t 6, .t 27], none⟩,
   ⟨(some 7), .mov, [.c (.bool false)], none⟩])
  AC.ret)
  AC.skip))
 (AC.seq (AC.reg [
  ⟨(some 28), .mov, [.t 0], none⟩,
  ⟨(some 29), .mov, [.t 8], none⟩,
  ⟨(some 30), .call 16, [.t 28, .t 29], none⟩,
  ⟨(some 31), .ext 0, [.t 30], none⟩,
  ⟨(some 32), .ext 1, [.t 30], none⟩,
  ⟨none, .store 5, [.t 6, .t 31], none⟩,
  ⟨(some 7), .mov, [.t 32], none⟩])
 AC.ret)))))
def r21 : AC × List RT × Nat := (c21, [.cell 6 true 5, .tmp 7], 33)
theorem ok21e : compF Tryz.prog Tryz.f21 ⟨false, false, []⟩ = some r21 := by kernel_rfl
variable {E : Env}
/-! the store, in plain words -/
structure Tx where
  id : Int
  client : Int
  ms : List Mi
  ls : List (Option (List Int))
  st : Int
  deriving DecidableEq
def Tx.V (t : Tx) : V := .agg [.int .u16 t.id, .int .u8 t.client, msV t.ms, lsV t.ls, .int .u8 t.st]
def Tx.zero : Tx := ⟨0, 0, [], [], 0⟩
structure Tx.ok (t : Tx) : Prop where
  id0 : 0 ≤ t.id
  id1 : t.id < 65536
  cl0 : 0 ≤ t.client
  cl1 : t.client < 256
  ms : ∀ m ∈ t.ms, m.ok
  msl : t.ms.length ≤ 8
  lsl : t.ls.length ≤ 8
  ls : ∀ o ∈ t.ls, (nums o).length ≤ 32 ∧ ∀ n ∈ nums o, 0 ≤ n ∧ n < 65536
  st : 0 ≤ t.st ∧ t.st < 4
abbrev Str := List Tx
def lastId (s : Str) : Int := match s.getLast? with
  | some t => t.id
  | none => -1
def find (s : Str) (i : Int) : Option Tx := s.find? fun t => decide (t.id = i)
def has (t : Tx) (k v : Int) : Bool := t.ms.any fun m => !m.read && (decide (m.key = k) && decide (m.v = v))
def who (s : Str) (k v : Int) : Option Tx := s.find? fun t => has t k v
def upd (s : Str) (x : Tx) : Str := match s with
  | [] => []
  | t :: s => if t.id = x.id then x :: s else t :: upd s x
def esFrom : Nat → Str → List En
  | _, [] => []
  | n, t :: s => (.int .u16 t.id, t.V, n) :: esFrom (n + 1) s
structure SOk (s : Str) : Prop where
  ok : ∀ t ∈ s, t.ok
  lt : s.Pairwise fun a b => a.id < b.id
def kV (k v : Int) : V := .agg [.int .u8 k, .int .u16 v]
def KeysK (ws : List En) : Prop := ∀ e ∈ ws, ∃ k v n, e.1 = kV k v ∧ e.2.1 = .int .u16 n ∧ 0 ≤ k ∧ k < 256 ∧ 0 ≤ v ∧ v < 65536
structure WsOk (ws : List En) (s : Str) : Prop where
  key : KeysK ws
  val : ∀ k v, (findK (kV k v) ws).map (·.2.1) = (who s k v).map fun t => .int .u16 t.id
structure St (W : AW) (p ra rw : Nat) (s : Str) : Prop where
  hp : W.get p = some (.row [.map ra, .map rw, .int .i64 (lastId s)])
  ha : W.get ra = some (.map (esFrom 0 s) s.length)
  hw : ∃ ws cw, W.get rw = some (.map ws cw) ∧ WsOk ws s
  ne : ra ≠ rw
  lp : p < W.nx
  la : ra < W.nx
  lw : rw < W.nx
  ok : SOk s
theorem u16_has {i : Int} (h0 : 0 ≤ i) (h1 : i < 65536) : (V.int .u16 i).has (false, [.i .u16]) = true := by
  simp [V.has, V.isAgg, V.cells, V.hasKs, V.hasK, Lit.wf, IntKind.min, IntKind.max, IntKind.signed, IntKind.bits]
  omega
theorem kV_has {k v : Int} (h0 : 0 ≤ k) (h1 : k < 256) (h2 : 0 ≤ v) (h3 : v < 65536) : (kV k v).has (true, [.i .u8, .i .u16]) = true := by
  simp [kV, V.has, V.isAgg, V.cells, V.hasKs, V.hasK, Lit.wf, IntKind.min, IntKind.max, IntKind.signed, IntKind.bits]
  omega
theorem keq_int {k k' : IntKind} {a b : Int} : (V.int k a).keq (.int k' b) = decide (a = b) := by
  simp only [V.keq, V.cells, V.eqs, V.eq1, Bool.and_true, cmpeq]
theorem keq_kV {k v k' v' : Int} : (kV k v).keq (kV k' v') = (decide (k = k') && decide (v = v')) := by
  simp only [kV, V.keq, V.cells, V.eqs, V.eq1, Bool.and_true, cmpeq]
theorem es_keys {s : Str} (h : ∀ t ∈ s, t.ok) {i : Int} (h0 : 0 ≤ i) (h1 : i < 65536) : ∀ n, keysOk (false, [.i .u16]) (.int .u16 i) (esFrom n s) := by
  intro n
  refine ⟨u16_has h0 h1, ?_⟩
  induction s generalizing n with
  | nil => intro e he; simp [esFrom] at he
  | cons t s ih =>
    intro e he
    rcases List.mem_cons.1 he with rfl | he
    · exact u16_has (h t (by simp)).id0 (h t (by simp)).id1
    · exact ih (fun x hx => h x (by simp [hx])) _ e he
theorem es_find (s : Str) (i : Int) : ∀ n, (findK (.int .u16 i) (esFrom n s)).map (·.2.1) = (find s i).map Tx.V := by
  induction s with
  | nil => intro n; rfl
  | cons t s ih =>
    intro n
    simp only [esFrom, findK, find, List.find?_cons, keq_int]
    by_cases h : t.id = i
    · have h' : i = t.id := h.symm
      simp [h']
    · have h' : ¬ (i = t.id) := fun e => h e.symm
      simp only [decide_eq_false h, decide_eq_false h', Bool.false_eq_true, if_false]
      exact ih (n + 1)
theorem es_upd (s : Str) (x : Tx) : ∀ n, updK (.int .u16 x.id) x.V (esFrom n s) = esFrom n (upd s x) := by
  induction s with
  | nil => intro n; rfl
  | cons t s ih =>
    intro n
    simp only [esFrom, updK, upd, keq_int]
    by_cases h : t.id = x.id
    · have h' : x.id = t.id := h.symm
      simp [h', esFrom]
    · have h' : ¬ (x.id = t.id) := fun e => h e.symm
      simp only [decide_eq_false h', h, Bool.false_eq_true, if_false, esFrom, ih]
theorem es_app (s : Str) (x : Tx) : ∀ n, esFrom n (s ++ [x]) = esFrom n s ++ [(.int .u16 x.id, x.V, n + s.length)] := by
  induction s with
  | nil => intro n; simp [esFrom]
  | cons t s ih =>
    intro n
    simp only [List.cons_append, esFrom, ih, List.length_cons]
    rw [show n + 1 + s.length = n + (s.length + 1) by omega]
theorem es_len (s : Str) : ∀ n, (esFrom n s).length = s.length := by
  induction s with
  | nil => intro n; rfl
  | cons t s ih => intro n; simp [esFrom, ih]
/-! reading a map -/
def lookK (sh : Bool × List SK) (z : V) (ok : Bool) (key : V) (es : List En) (k : V → Prop) : Prop := match (findK key es).map (·.2.1) with
  | some v => k (if ok = true then .tuple [v, .bool true] else v)
  | none => k (if ok = true then .tuple [z, .bool false] else z)
theorem m_lookup {W : AW} {K : V → AW → Prop} {sh : Bool × List SK} {z key : V} {ok : Bool} {r c : Nat} {es : List En} (h : W.get r = some (.map es c)) (hk : keysOk sh key es) : sem E (.lookup sh z ok) [.map r, key] W K = lookK sh z ok key es (fun v => K v W) := by
  simp only [sem, h, lookK]
  cases hf : findK key es with
  | none => exact propext ⟨fun h => h.2, fun h => ⟨hk, h⟩⟩
  | some e => exact propext ⟨fun h => h.2, fun h => ⟨hk, h⟩⟩
theorem lookK_all {sh : Bool × List SK} {z : V} {ok : Bool} {s : Str} {n : Nat} {i : Int} {k : V → Prop} : lookK sh z ok (.int .u16 i) (esFrom n s) k = (match find s i with
    | some t => k (if ok = true then .tuple [t.V, .bool true] else t.V)
    | none => k (if ok = true then .tuple [z, .bool false] else z)) := by
  simp only [lookK, es_find]
  cases find s i <;> rfl
theorem lookK_who {sh : Bool × List SK} {z : V} {ok : Bool} {s : Str} {ws : List En} {a b : Int} {k : V → Prop} (h : WsOk ws s) : lookK sh z ok (kV a b) ws k = (match who s a b with
    | some t => k (if ok = true then .tuple [.int .u16 t.id, .bool true] else .int .u16 t.id)
    | none => k (if ok = true then .tuple [z, .bool false] else z)) := by
  simp only [lookK, h.val]
  cases who s a b <;> rfl
theorem ws_keys' {ws : List En} (h : KeysK ws) {k v : Int} (h0 : 0 ≤ k) (h1 : k < 256) (h2 : 0 ≤ v) (h3 : v < 65536) : keysOk (true, [.i .u8, .i .u16]) (kV k v) ws := by
  refine ⟨kV_has h0 h1 h2 h3, fun e he => ?_⟩
  obtain ⟨k, v, n, e1, _, a, b, c, d⟩ := h e he
  rw [e1]; exact kV_has a b c d
theorem ws_keys {ws : List En} {s : Str} (h : WsOk ws s) {k v : Int} (h0 : 0 ≤ k) (h1 : k < 256) (h2 : 0 ≤ v) (h3 : v < 65536) : keysOk (true, [.i .u8, .i .u16]) (kV k v) ws := ws_keys' h.key h0 h1 h2 h3
/-! transactions as values -/
theorem msV_cells (l : List Mi) : (msV l).cells = [msV l] := (msV_isMs l).cells
theorem msV_one (l : List Mi) : (msV l).one = true := (msV_isMs l).one
theorem msV_bel (l : List Mi) (n : Nat) : (msV l).bel n = true := (msV_isMs l).lens (belL_mi l n)
theorem lsV_S (l : List (Option (List Int))) : ∃ xs, isS 1 (lsV l) xs := by
  obtain ⟨xs, h, _⟩ := lsV_isLs l; exact ⟨xs, h⟩
theorem lsV_cells (l : List (Option (List Int))) : (lsV l).cells = [lsV l] := by
  obtain ⟨xs, h⟩ := lsV_S l; exact h.cells
theorem lsV_one (l : List (Option (List Int))) : (lsV l).one = true := by
  obtain ⟨xs, h⟩ := lsV_S l; exact h.one
theorem elV_bel (o : Option (List Int)) (n : Nat) : (elV o).bel n = true := by
  cases o with
  | none => rfl
  | some l => exact belL_ints l n
theorem lsV_bel (l : List (Option (List Int))) (n : Nat) : (lsV l).bel n = true := by
  unfold lsV
  split
  · rfl
  · rename_i h; clear h
    show V.belL n (l.map elV) = true
    induction l with
    | nil => rfl
    | cons x l ih =>
      simp only [List.map_cons, V.belL, Bool.and_eq_true]
      exact ⟨elV_bel x n, ih⟩
theorem tx_bel (t : Tx) (n : Nat) : t.V.bel n = true := by
  simp only [Tx.V, V.bel, V.belL, msV_bel, lsV_bel, Bool.and_true]
theorem msV_frz {W : AW} (l : List Mi) : W.frz (msV l) = msV l := (msV_isMs l).frz
theorem lsV_frz {W : AW} (l : List (Option (List Int))) : W.frz (lsV l) = lsV l := by
  obtain ⟨xs, h⟩ := lsV_S l; exact h.frz
theorem zero_V : V.agg [.int .u16 0, .int .u8 0, .nilsl, .nilsl, .int .u8 0] = Tx.zero.V := id rfl
theorem find_ok {s : Str} {i : Int} {t : Tx} (hs : SOk s) (h : find s i = some t) : t ∈ s ∧ t.id = i ∧ t.ok := by
  have h1 := List.mem_of_find?_eq_some h
  have h2 := List.find?_some h
  exact ⟨h1, by simpa using h2, hs.ok t h1⟩
end Go.AL.S
set_option maxRecDepth 100000
namespace Go.AL.S
open Go Go.AL Go.Proofs
variable {E : Env}
theorem new_c (hP : E.P = Tryz.prog) (W : AW) : ACalls E 7 [] W fun Y W' => ∃ p ra rw, Y = .ptr p 0 ∧ St W' p ra rw [] ∧ W.nx ≤ p ∧ W.nx ≤ ra ∧ W.nx ≤ rw ∧ W.nx ≤ W'.nx ∧ ∀ x, x < W.nx → W'.get x = W.get x := by
  refine ACalls.of hP Tryz.func7 ok7e (by simp) fun _ hok => ?_
  refine awp_start hok ?_
  simp only [c7, e_seq, e_reg, e_ret, e_cons, e_nil, e_plain, evs_nil, evs_cons, ev_t, ev_c, e_putK, e_putd, e_put, e_then, retQ_ret, e_res1, ↓reduceIte, Nat.reduceEqDiff, Option.map_some, frz_ptr, sem_mov, sem_box, sem_mkmap, X_alloc, X_nx, optK_some, m_build, fillV_nil, fillV_cons, cells_int, cells_agg, cells_map, List.cons_append, List.nil_append, List.append_nil, List.length_cons, List.length_nil, Nat.zero_add, Nat.reduceAdd, Nat.reduceLeDiff, List.drop_succ_cons, List.drop_zero, List.drop_nil, List.take_succ_cons, List.take_zero]
  refine ⟨_, rfl, _, _, .weak weak_id, ?_, rf W.nx 2, rf W.nx 0, rf W.nx 1, rfl, ⟨?_, ?_, ⟨[], 0, ?_, ⟨(fun _ h => by cases h), fun _ _ => rfl⟩⟩, ?_, ?_, ?_, ?_, ⟨by simp, List.Pairwise.nil⟩⟩, ?_, ?_, ?_, ?_, fun x hx => X_old hx⟩
  · simp [X_nx, rf]
  · simp only [List.getElem?_cons_zero, List.getElem?_cons_succ, X_get]; rfl
  · simp only [List.getElem?_cons_zero, X_get, List.length_nil]; rfl
  · simp only [List.getElem?_cons_zero, List.getElem?_cons_succ, X_get]
  all_goals simp [rf, X_nx]
theorem is_c (hP : E.P = Tryz.prog) (W : AW) {p ra : Nat} {r : List V} (h : W.get p = some (.row (.map ra :: r))) : ACalls E 30 [.ptr p 0] W fun Y W' => Y = .bool true ∧ W' = W := by
  refine ACalls.of hP Tryz.func30 ok30e (by simp) fun _ hok => ?_
  simp only [c30, e_seq, e_reg, e_ret, e_cons, e_nil, e_plain, guard_if, evs_nil, evs_cons, ev_t, ev_c, argsA_ap, e_putK, e_putd, e_put, e_then, retQ_ret, e_res1, ↓reduceIte, Nat.reduceEqDiff, reduceCtorEq, Option.map_some, List.getElem?_cons_zero, frz_bool, sem_mov, sem_pick, sem_nilck_ptr, sem_fld_ptr, m_load, loadK_f, optK_some, m_eqn, eqNil_pn, eqNil_mn, Nat.add_zero, Bool.not_false, undef_t, h]
  exact ⟨_, rfl, _, _, .weak weak_id, Nat.le_refl _, rfl, rfl⟩
theorem own_c (hP : E.P = Tryz.prog) (W : AW) {t : Tx} (h : t.ok) : ACalls E 36 [t.V] W fun Y W' => Y = t.V ∧ W' = W := by
  refine ACalls.of hP Tryz.func36 ok36e (by simp) fun _ hok => ?_
  refine awp_start hok ?_
  have hm := msV_isMs t.ms
  have hc : cloneV 3 (msV t.ms) = msV t.ms := by
    unfold msV
    split
    · rfl
    · cases h : t.ms with
      | nil => contradiction
      | cons a l => rfl
  obtain ⟨xs, hx⟩ : ∃ xs, xs = t.ls.map elV := ⟨_, rfl⟩
  have i1 : isS 1 (lsV t.ls) xs := by
    rw [hx]; unfold lsV
    split
    · rename_i h; rw [h]; exact .nil
    · exact .mk
  have i2 : xs.length = t.ls.length := by rw [hx]; simp
  have hL : ∀ x ∈ xs, isL x := by
    intro x hx'
    rw [hx] at hx'
    obtain ⟨o, ho, rfl⟩ := List.mem_map.1 hx'
    cases o with
    | none => exact .inl rfl
    | some l =>
      refine .inr (.inr ⟨_, intsV l, rfl, belL_ints l 0, ?_⟩)
      rw [ints_len]
      have := (h.ls _ ho).1
      simp only [nums, Option.getD_some] at this
      omega
  have hlv : listsV xs = lsV t.ls := by
    rw [hx]
    unfold listsV lsV
    by_cases h0 : t.ls = []
    · simp [h0]
    · simp only [List.map_eq_nil_iff, h0, if_false, List.map_map]
      congr 1
      apply List.map_congr_left
      intro o _
      cases o with
      | none => rfl
      | some l => cases l <;> rfl
  have hll : xs.length < 2 ^ 40 := by have := h.lsl; omega
  have hml : (t.ms.map Mi.V).length < 2 ^ 40 := by have := h.msl; simp; omega
  simp only [c36, e_seq, e_reg, e_ret, e_par, e_done, e_step, e_cons, e_nil, e_plain, evs_nil, evs_cons, ev_t, argsA_ap, e_putK, e_putd, e_putd0, e_put, e_then, retQ_ret, ↓reduceIte, Nat.reduceEqDiff, List.map_cons, List.map_nil, List.getElem?_cons_zero, List.getElem?_cons_succ, sem_alloc, sem_box, sem_fld_ptr, X_alloc, X_nx, X_get, X_put1, m_load, loadK_f, loadK_t, optK_some, partV_t, m_store, storeK_row, m_pcall, cells_agg, one_int, List.cons_append, List.nil_append, List.append_nil, List.length_cons, List.length_nil, List.length_append, Nat.zero_add, Nat.reduceAdd, Nat.reduceLeDiff, Nat.reduceLT, List.set_cons_zero, List.set_cons_succ, List.drop_succ_cons, List.drop_zero, List.drop_nil, List.take_succ_cons, List.take_zero, List.all_cons, Bool.true_and, undef_t, e_resc, rt_cell, rsem_load, cellV_row, partV_t, msV_frz, lsV_frz, Tx.V]
  refine ⟨_, (clone32_c hP _ _ _ hm (belL_mi _ _) hml), ?_⟩
  rw [hc]
  simp only [↓reduceIte, Nat.reduceEqDiff, List.cons_append, List.nil_append, List.length_cons, List.length_nil, Nat.zero_add, Nat.reduceLeDiff, List.drop_succ_cons, List.drop_zero, List.take_succ_cons, List.take_zero, List.all_cons, List.all_nil, Bool.true_and, Bool.and_self, msV_cells, msV_one]
  refine ⟨_, (lists_c hP _ _ xs i1 hL hll), ?_⟩
  rw [hlv]
  simp only [↓reduceIte, Option.map_some, frz_agg, one_int, List.cons_append, List.nil_append, List.length_cons, List.length_nil, Nat.zero_add, Nat.reduceAdd, Nat.reduceLeDiff, List.take_succ_cons, List.take_nil, List.all_cons, List.all_nil, Bool.and_self, lsV_cells, lsV_one]
  exact ⟨_, rfl, _, W, backX hok (tx_bel t _), Nat.le_refl _, rfl, rfl⟩
theorem find_c (hP : E.P = Tryz.prog) (W : AW) {p ra rw : Nat} {s : Str} (h : St W p ra rw s) (i : Int) (h0 : 0 ≤ i) (h1 : i < 65536) :
    ACalls E 16 [.ptr p 0, .int .u16 i] W fun Y W' => Y = .tuple [((find s i).getD Tx.zero).V, .bool (find s i).isSome] ∧ W' = W := by
  refine ACalls.of hP Tryz.func16 ok16e (by simp) fun _ hok => ?_
  refine awp_start hok ?_
  have hla := h.la
  have hlp := h.lp
  simp only [c16, e_seq, e_reg, e_cons, e_nil, e_plain, evs_nil, evs_cons, ev_t, ev_c, argsA_ap, e_putK, e_putd, e_put, e_then, ↓reduceIte, reduceCtorEq, List.map_cons, List.map_nil, List.getElem?_cons_zero, frz_ptr, sem_mov, sem_call, sem_alloc, X_alloc, X_nx, List.nil_append, List.length_nil]
  refine pc (is_c hP _ (r := [.map rw, .int .i64 (lastId s)]) (by rw [X_old h.lp]; exact h.hp)) ?_
  have hr : ∀ l, (X W W.nx l).get ra = some (.map (esFrom 0 s) s.length) := fun l => by rw [X_old h.la]; exact h.ha
  simp (config := { maxSteps := 2000000 }) (disch := omega) only [e_seq, e_reg, cond_if, e_skip, e_cons, e_nil, e_plain, evs_nil, evs_cons, ev_t, argsA_ap, e_putK, e_putd, e_putd0, e_put, e_then, ↓reduceIte, Nat.reduceEqDiff, reduceCtorEq, List.map_cons, List.map_nil, List.getElem?_cons_zero, List.getElem?_cons_succ, Bool.false_eq_true, frz_agg, sem_mov, sem_not, sem_ext0, sem_ext1, sem_call, sem_alloc, sem_nilck_ptr, sem_fld_ptr, X_alloc, X_nx, X_get, X_put1, X_old, m_load, loadK_f, loadK_t, optK_some, m_store, storeK_row, cells_agg, one_int, one_nilsl, List.cons_append, List.nil_append, List.append_nil, List.length_cons, List.length_nil, Nat.zero_add, Nat.add_zero, Nat.reduceAdd, Nat.reduceLeDiff, Nat.reduceLT, List.set_cons_zero, List.set_cons_succ, List.drop_succ_cons, List.drop_zero, List.drop_nil, List.take_succ_cons, List.take_zero, List.take_nil, List.all_cons, List.all_nil, Bool.and_self, Bool.not_true, undef_t, h.hp, m_lookup (hr _) (es_keys h.ok.ok h0 h1 0), lookK_all]
  cases hf : find s i with
  | none =>
    simp only [zero_V]
    refine pc (own_c hP _ (t := Tx.zero) ⟨by decide, by decide, by decide, by decide, by simp [Tx.zero], by decide, by decide, by simp [Tx.zero], by decide⟩) ?_
    simp only [e_ret, e_cons, e_nil, e_plain, evs_nil, evs_cons, ev_t, e_putK, e_putd, e_putd0, e_put, retQ_ret, ↓reduceIte, Nat.reduceEqDiff, Option.map_some, List.getElem?_cons_zero, frz_bool, frz_agg, sem_mov, X_get, X_put1, partV_t, m_store, storeK_row, cells_agg, one_int, List.nil_append, List.append_nil, List.length_cons, List.length_nil, Nat.zero_add, Nat.reduceAdd, Nat.reduceLeDiff, Nat.reduceLT, List.set_cons_zero, List.drop_succ_cons, List.drop_zero, List.drop_nil, List.take_succ_cons, List.take_zero, List.take_nil, List.all_cons, List.all_nil, Bool.and_self, undef_t, e_resc2, rt_cell, rt_tmp, rsem_load, cellV_row, partV_t, msV_one, lsV_one, Tx.V]
    exact ⟨_, rfl, _, W, backX hok rfl, Nat.le_refl _, rfl, rfl⟩
  | some t =>
    simp only [↓reduceIte, cells_agg, one_int, List.length_cons, List.length_nil, Nat.zero_add, Nat.reduceAdd, Nat.reduceLeDiff, List.take_succ_cons, List.take_nil, List.all_cons, List.all_nil, Bool.and_self, msV_one, lsV_one, Tx.V]
    refine pc (own_c hP _ (t := t) (find_ok h.ok hf).2.2) ?_
    simp only [e_ret, e_cons, e_nil, e_plain, evs_nil, evs_cons, ev_t, e_putK, e_putd, e_putd0, e_put, retQ_ret, ↓reduceIte, Nat.reduceEqDiff, Option.map_some, List.getElem?_cons_zero, frz_bool, frz_agg, sem_mov, X_get, X_put1, partV_t, m_store, storeK_row, cells_agg, one_int, List.nil_append, List.append_nil, List.length_cons, List.length_nil, Nat.zero_add, Nat.reduceAdd, Nat.reduceLeDiff, Nat.reduceLT, List.set_cons_zero, List.drop_succ_cons, List.drop_zero, List.drop_nil, List.take_succ_cons, List.take_zero, List.take_nil, List.all_cons, List.all_nil, Bool.and_self, undef_t, e_resc2, rt_cell, rt_tmp, rsem_load, cellV_row, partV_t, msV_one, lsV_one, Tx.V]
    refine ⟨_, rfl, _, W, backX hok ?_, Nat.le_refl _, rfl, rfl⟩
    simp only [V.bel, V.belL, msV_bel, lsV_bel, Bool.and_true]
end Go.AL.S
set_option maxRecDepth 100000
namespace Go.AL.S
open Go Go.AL Go.Proofs
variable {E : Env}
theorem find_self {s : Str} (h : s.Pairwise fun a b => a.id < b.id) {t : Tx} (ht : t ∈ s) : find s t.id = some t := by
  induction s with
  | nil => simp at ht
  | cons x s ih =>
    have hp := List.pairwise_cons.1 h
    simp only [find, List.find?_cons]
    rcases List.mem_cons.1 ht with rfl | ht
    · simp
    · have hne : x.id ≠ t.id := by have := hp.1 t ht; omega
      simp only [decide_eq_false hne]
      exact ih hp.2 ht
theorem who_mem {s : Str} {k v : Int} {t : Tx} (h : who s k v = some t) : t ∈ s ∧ S.has t k v = true := by
  unfold who at h
  exact ⟨List.mem_of_find?_eq_some h, by simpa using List.find?_some h⟩
theorem who_c (hP : E.P = Tryz.prog) (W : AW) {p ra rw : Nat} {s : Str} (h : St W p ra rw s) (k v : Int) (h0 : 0 ≤ k) (h1 : k < 256) (h2 : 0 ≤ v) (h3 : v < 65536) :
    ACalls E 21 [.ptr p 0, .int .u8 k, .int .u16 v] W fun Y W' => Y = .tuple [((who s k v).getD Tx.zero).V, .bool (who s k v).isSome] ∧ W' = W := by
  refine ACalls.of hP Tryz.func21 ok21e (by simp) fun _ hok => ?_
  refine awp_start hok ?_
  have hlw := h.lw
  have hlp := h.lp
  obtain ⟨ws, cw, hw, hws⟩ := h.hw
  simp only [c21, e_seq, e_reg, e_cons, e_nil, e_plain, evs_nil, evs_cons, ev_t, ev_c, argsA_ap, e_putK, e_putd, e_put, e_then, ↓reduceIte, reduceCtorEq, List.map_cons, List.map_nil, List.getElem?_cons_zero, frz_ptr, sem_mov, sem_call, sem_alloc, X_alloc, X_nx, List.nil_append, List.length_nil]
  refine pc (is_c hP _ (r := [.map rw, .int .i64 (lastId s)]) (by rw [X_old h.lp]; exact h.hp)) ?_
  have hr : ∀ l, (X W W.nx l).get rw = some (.map ws cw) := fun l => by rw [X_old h.lw]; exact hw
  have hk : ∀ (l : List AObj) K, sem E (.lookup (true, [.i .u8, .i .u16]) (.int .u16 0) true) [.map rw, .agg [.int .u8 k, .int .u16 v]] (X W W.nx l) K = lookK (true, [.i .u8, .i .u16]) (.int .u16 0) true (kV k v) ws (fun v => K v (X W W.nx l)) := fun l K => m_lookup (hr l) (ws_keys hws h0 h1 h2 h3)
  simp (config := { maxSteps := 2000000 }) (disch := omega) only [e_seq, e_reg, cond_if, e_ret, e_skip, e_cons, e_nil, e_plain, evs_nil, evs_cons, ev_t, ev_c, argsA_ap, e_putK, e_putd, e_putd0, e_put, e_then, e_then_ret, retQ_ret, ↓reduceIte, Nat.reduceEqDiff, reduceCtorEq, Option.map_some, List.map_cons, List.map_nil, List.getElem?_cons_zero, List.getElem?_cons_succ, Bool.false_eq_true, frz_int, frz_bool, frz_ptr, frz_agg, sem_mov, sem_not, sem_ext0, sem_ext1, sem_call, sem_nilck_ptr, sem_fld_ptr, X_get, X_put1, X_old, m_load, loadK_f, optK_some, partV_t, m_store, storeK_row, m_build, fillV_nil, fillV_cons, cells_int, cells_agg, one_int, one_nilsl, List.cons_append, List.nil_append, List.append_nil, List.length_cons, List.length_nil, Nat.zero_add, Nat.reduceAdd, Nat.reduceLeDiff, Nat.reduceLT, List.set_cons_zero, List.drop_succ_cons, List.drop_zero, List.drop_nil, List.take_succ_cons, List.take_zero, List.take_nil, List.all_cons, List.all_nil, Bool.and_self, Bool.not_true, Bool.not_false, undef_t, e_resc2, rt_cell, rt_tmp, rsem_load, cellV_row, partV_t, h.hp, hk, lookK_who hws]
  cases hf : who s k v with
  | none =>
    simp only [e_seq]
    exact ⟨_, rfl, _, W, backX hok rfl, Nat.le_refl _, rfl, rfl⟩
  | some t =>
    have ht := who_mem hf
    have hto := h.ok.ok t ht.1
    have hX : ∀ l, St (X W W.nx l) p ra rw s := fun l => ⟨by rw [X_old h.lp]; exact h.hp, by rw [X_old h.la]; exact h.ha, ⟨ws, cw, hr l, hws⟩, h.ne, by simp [X_nx, rf]; omega, by have := h.la; simp [X_nx, rf]; omega, by simp [X_nx, rf]; omega, h.ok⟩
    simp only [e_seq]
    refine pc (find_c hP _ (hX _) t.id hto.id0 hto.id1) ?_
    simp only [find_self h.ok.lt ht.1, Option.getD_some, Option.isSome_some, e_ret, e_cons, e_nil, e_plain, evs_nil, evs_cons, ev_t, e_putK, e_putd, e_putd0, e_put, retQ_ret, ↓reduceIte, Nat.reduceEqDiff, Option.map_some, List.getElem?_cons_zero, frz_bool, frz_agg, sem_mov, sem_ext0, sem_ext1, X_get, X_put1, partV_t, m_store, storeK_row, cells_agg, one_int, List.nil_append, List.append_nil, List.length_cons, List.length_nil, Nat.zero_add, Nat.reduceAdd, Nat.reduceLeDiff, Nat.reduceLT, List.set_cons_zero, List.drop_succ_cons, List.drop_zero, List.drop_nil, List.take_succ_cons, List.take_zero, List.take_nil, List.all_cons, List.all_nil, Bool.and_self, undef_t, e_resc2, rt_cell, rt_tmp, rsem_load, cellV_row, partV_t, msV_one, lsV_one, Tx.V]
    refine ⟨_, rfl, _, W, backX hok ?_, Nat.le_refl _, rfl, rfl⟩
    simp only [V.bel, V.belL, msV_bel, lsV_bel, Bool.and_true]
def openR (s : Str) (i : Int) : Tx × Int := match find s i with
  | some t => if t.st = 0 then (t, 0) else (Tx.zero, 7)
  | none => (Tx.zero, 7)
theorem open_c (hP : E.P = Tryz.prog) (W : AW) {p ra rw : Nat} {s : Str} (h : St W p ra rw s) (i : Int) (h0 : 0 ≤ i) (h1 : i < 65536) :
    ACalls E 26 [.ptr p 0, .int .u16 i] W fun Y W' => Y = .tuple [(openR s i).1.V, .int .i64 (openR s i).2] ∧ W' = W := by
  refine ACalls.of hP Tryz.func26 ok26e (by simp) fun _ hok => ?_
  refine awp_start hok ?_
  have hla := h.la
  have hlp := h.lp
  simp only [c26, e_seq, e_reg, e_cons, e_nil, e_plain, evs_nil, evs_cons, ev_t, ev_c, argsA_ap, e_putK, e_putd, e_put, e_then, ↓reduceIte, reduceCtorEq, List.map_cons, List.map_nil, List.getElem?_cons_zero, frz_ptr, sem_mov, sem_call, sem_alloc, X_alloc, X_nx, List.nil_append, List.length_nil]
  refine pc (is_c hP _ (r := [.map rw, .int .i64 (lastId s)]) (by rw [X_old h.lp]; exact h.hp)) ?_
  have hr : ∀ l, (X W W.nx l).get ra = some (.map (esFrom 0 s) s.length) := fun l => by rw [X_old h.la]; exact h.ha
  simp (config := { maxSteps := 2000000 }) (disch := omega) only [e_seq, e_reg, cond_if, e_ret, e_skip, e_cons, e_nil, e_plain, guard_if, evs_nil, evs_cons, ev_t, ev_c, argsA_ap, e_putK, e_putd, e_putd0, e_put, e_then, e_then_ret, retQ_ret, ↓reduceIte, Nat.reduceEqDiff, reduceCtorEq, Option.map_some, List.getElem?_cons_zero, List.getElem?_cons_succ, Bool.false_eq_true, Bool.true_eq_false, frz_int, frz_agg, sem_mov, sem_pick, sem_not, sem_ext0, sem_ext1, sem_alloc, sem_nilck_ptr, sem_fld_ptr, X_alloc, X_nx, X_get, X_put1, X_old, m_load, loadK_f, optK_some, partV_t, m_store, storeK_row, m_build, fillV_nil, cells_agg, one_int, one_nilsl, List.cons_append, List.nil_append, List.append_nil, List.length_cons, List.length_nil, Nat.zero_add, Nat.add_zero, Nat.reduceAdd, Nat.reduceLeDiff, Nat.reduceLT, List.set_cons_zero, List.set_cons_succ, List.drop_succ_cons, List.drop_zero, List.drop_nil, List.take_succ_cons, List.take_zero, List.take_nil, List.all_cons, List.all_nil, Bool.and_self, Bool.not_true, Bool.not_false, undef_t, e_resc2, rt_cell, rt_tmp, rsem_load, cellV_row, partV_t, h.hp, m_lookup (hr _) (es_keys h.ok.ok h0 h1 0), lookK_all]
  cases hf : find s i with
  | none =>
    simp only [openR, hf]
    exact ⟨_, rfl, _, W, backX hok rfl, Nat.le_refl _, rfl, rfl⟩
  | some t =>
    by_cases hst : t.st = 0
    · simp only [e_seq, e_reg, cond_if, e_ret, e_skip, e_cons, e_nil, e_plain, evs_nil, evs_cons, ev_t, ev_c, e_putK, e_putd, e_putd0, e_put, e_then, retQ_ret, ↓reduceIte, Nat.reduceEqDiff, Option.map_some, List.getElem?_cons_zero, List.getElem?_cons_succ, Bool.false_eq_true, frz_int, frz_agg, sem_mov, sem_pick, sem_neq, X_get, X_put1, m_load, loadK_t, optK_some, partV_t, m_store, storeK_row, cells_agg, one_int, List.nil_append, List.append_nil, List.length_cons, List.length_nil, Nat.zero_add, Nat.reduceAdd, Nat.reduceLeDiff, Nat.reduceLT, List.set_cons_zero, List.drop_succ_cons, List.drop_zero, List.drop_nil, List.take_succ_cons, List.take_zero, List.take_nil, List.all_cons, List.all_nil, Bool.and_self, undef_t, e_resc2, rt_cell, rt_tmp, rsem_load, cellV_row, partV_t, msV_one, lsV_one, Tx.V, openR, hf, cmpne, show decide (t.st ≠ 0) = false by simp [hst], if_pos hst]
      refine ⟨_, rfl, _, W, backX hok ?_, Nat.le_refl _, rfl, rfl⟩
      simp only [V.bel, V.belL, msV_bel, lsV_bel, Bool.and_true]
    · simp only [e_seq, e_reg, cond_if, e_ret, e_cons, e_nil, e_plain, evs_nil, evs_cons, ev_t, ev_c, e_putK, e_putd, e_putd0, e_put, e_then, e_then_ret, retQ_ret, ↓reduceIte, Nat.reduceEqDiff, Option.map_some, List.getElem?_cons_zero, List.getElem?_cons_succ, Bool.false_eq_true, frz_int, frz_agg, sem_mov, sem_pick, sem_neq, X_get, X_put1, optK_some, partV_t, m_store, storeK_row, m_build, fillV_nil, cells_agg, one_int, one_nilsl, List.nil_append, List.append_nil, List.length_cons, List.length_nil, Nat.zero_add, Nat.reduceAdd, Nat.reduceLeDiff, Nat.reduceLT, List.set_cons_zero, List.drop_succ_cons, List.drop_zero, List.drop_nil, List.take_succ_cons, List.take_zero, List.take_nil, List.all_cons, List.all_nil, Bool.and_self, undef_t, e_resc2, rt_cell, rt_tmp, rsem_load, cellV_row, partV_t, msV_one, lsV_one, Tx.V, openR, hf, cmpne, show decide (t.st ≠ 0) = true by simp [hst], if_neg hst]
      exact ⟨_, rfl, _, W, backX hok rfl, Nat.le_refl _, rfl, rfl⟩
/-! what changes a store -/
structure Fr (W W' : AW) (p ra rw : Nat) : Prop where
  nx : W'.nx = W.nx
  get : ∀ x, x ≠ p → x ≠ ra → x ≠ rw → W'.get x = W.get x
theorem Fr.refl (W : AW) (p ra rw : Nat) : Fr W W p ra rw := ⟨rfl, fun _ _ _ _ => rfl⟩
theorem St.pra {W : AW} {p ra rw : Nat} {s : Str} (h : St W p ra rw s) : p ≠ ra := by
  rintro rfl
  have := h.hp.symm.trans h.ha
  cases this
theorem St.prw {W : AW} {p ra rw : Nat} {s : Str} (h : St W p ra rw s) : p ≠ rw := by
  rintro rfl
  obtain ⟨ws, cw, hw, _⟩ := h.hw
  have := h.hp.symm.trans hw
  cases this
theorem ok_put {W : AW} {r : Nat} {o : AObj} (h : W.ok) (hr : r < W.nx) (ho : o.bel W.nx = true) : (W.put r o).ok := by
  intro x o' hx
  rw [pu_gets] at hx
  split at hx
  · rename_i e; subst e; cases hx; exact ⟨hr, ho⟩
  · exact h x o' hx
theorem es_bel (s : Str) (m : Nat) : ∀ n, ((esFrom n s).all fun e => e.1.bel m && e.2.1.bel m) = true := by
  induction s with
  | nil => intro n; rfl
  | cons t s ih => intro n; simp only [esFrom, List.all_cons, ih, tx_bel, Bool.and_true]; rfl
theorem backX' {x : V} {W1 : AW} {n : Nat} {l : List AObj} (hn : W1.nx = n) (hok : W1.ok) (hx : x.bel n = true) : RetV x (X W1 n l) x W1 := by
  subst hn
  exact .weak (weak_back hok hx fun _ h => X_old h)
/-- No object beyond the count. -/
def Cl (W : AW) : Prop := ∀ r, W.nx ≤ r → W.get r = none
theorem Cl.start {W : AW} (h : Cl W) : W = X W W.nx [] := by
  refine aw_ext (fun r => ?_) rfl
  rw [X_gets]
  by_cases hr : r < W.nx
  · simp [hr]
  · simp only [hr, if_false]
    rw [h r (by omega)]; simp
theorem Cl.X {W : AW} {n : Nat} {l : List AObj} : Cl (S.X W n l) := by
  intro r hr
  simp only [S.X] at hr ⊢
  rw [if_neg (by omega), List.getElem?_eq_none (by omega)]
theorem ok_Cl {W : AW} (h : W.ok) : Cl W := by
  intro r hr
  cases hg : W.get r with
  | none => rfl
  | some o => have := (h r o hg).1; omega
theorem Cl.put {W : AW} {r : Nat} {o : AObj} (h : Cl W) (hr : r < W.nx) : Cl (W.put r o) := by
  intro x hx
  rw [pu_gets, if_neg (by have : W.nx ≤ x := hx; omega)]
  exact h x hx
theorem awp_startC {W : AW} {c : AC} {Q : Exit → AFr → AW → Prop} {A : AFr} (h : Cl W) (g : awp E c Q A (S.X W W.nx [])) : awp E c Q A W := by
  rw [h.start]; exact g
/-- A world that goes on from another one. -/
structure Ex (W W1 : AW) : Prop where
  cl : Cl W1
  nx : W.nx ≤ W1.nx
  get : ∀ x, x < W.nx → W1.get x = W.get x
theorem Ex.refl {W : AW} (h : Cl W) : Ex W W := ⟨h, Nat.le_refl _, fun _ _ => rfl⟩
theorem Ex.X {W W1 : AW} {l : List AObj} (h : Ex W W1) : Ex W (S.X W1 W1.nx l) :=
  ⟨Cl.X, by have := h.nx; simp only [S.X]; omega, fun x hx => by rw [X_old (by have := h.nx; omega)]; exact h.get x hx⟩
theorem Ex.trans {W W1 W2 : AW} (h : Ex W W1) (h' : Ex W1 W2) : Ex W W2 :=
  ⟨h'.cl, Nat.le_trans h.nx h'.nx, fun x hx => by rw [h'.get x (by have := h.nx; omega)]; exact h.get x hx⟩
theorem Ex.x0 {W : AW} {l : List AObj} : Ex W (S.X W W.nx l) := ⟨Cl.X, by simp [S.X], fun _ h => X_old h⟩
theorem Ex.back {W W1 : AW} {x : V} (h : Ex W W1) (hok : W.ok) (hx : x.bel W.nx = true) : RetV x W1 x W := .weak (weak_back hok hx h.get)
theorem m_mupd {W : AW} {K : V → AW → Prop} {sh : Bool × List SK} {key x : V} {r c : Nat} {es : List En} (h : W.get r = some (.map es c)) (hk : keysOk sh key es) : sem E (.mupd sh) [.map r, key, x] W K = (match findK key es with
    | some _ => K .undef (W.put r (.map (updK key x es) c))
    | none => K .undef (W.put r (.map (es ++ [(key, x, c)]) (c + 1)))) := by
  simp only [sem, h]
  cases hf : findK key es with
  | none => exact propext ⟨fun h => h.2, fun h => ⟨hk, h⟩⟩
  | some e => exact propext ⟨fun h => h.2, fun h => ⟨hk, h⟩⟩
theorem es_some {s : Str} {i : Int} {t : Tx} (h : find s i = some t) (n : Nat) : ∃ e, findK (.int .u16 i) (esFrom n s) = some e := by
  have := es_find s i n
  rw [h] at this
  cases hf : findK (.int .u16 i) (esFrom n s) with
  | none => rw [hf] at this; cases this
  | some e => exact ⟨e, rfl⟩
theorem es_none {s : Str} {i : Int} (h : find s i = none) (n : Nat) : findK (.int .u16 i) (esFrom n s) = none := by
  have := es_find s i n
  rw [h] at this
  cases hf : findK (.int .u16 i) (esFrom n s) with
  | none => rfl
  | some e => rw [hf] at this; cases this
theorem upd_ids (s : Str) (x : Tx) : (upd s x).map (·.id) = s.map (·.id) := by
  induction s with
  | nil => rfl
  | cons t s ih =>
    simp only [upd]
    split
    · rename_i h; simp [h]
    · simp [ih]
theorem upd_len (s : Str) (x : Tx) : (upd s x).length = s.length := by
  have := congrArg List.length (upd_ids s x); simpa using this
theorem upd_last (s : Str) (x : Tx) : lastId (upd s x) = lastId s := by
  have h : ∀ l : Str, lastId l = ((l.map (·.id)).getLast?).getD (-1) := by
    intro l
    simp only [lastId, List.getLast?_map]
    cases l.getLast? <;> rfl
  rw [h, h, upd_ids]
theorem upd_mem {s : Str} {x y : Tx} (h : y ∈ upd s x) : y = x ∨ y ∈ s := by
  induction s with
  | nil => simp [upd] at h
  | cons t s ih =>
    simp only [upd] at h
    split at h
    · rcases List.mem_cons.1 h with h | h
      · exact .inl h
      · exact .inr (by simp [h])
    · rcases List.mem_cons.1 h with h | h
      · exact .inr (by simp [h])
      · rcases ih h with h | h
        · exact .inl h
        · exact .inr (by simp [h])
theorem upd_ok {s : Str} {x : Tx} (h : SOk s) (hx : x.ok) : SOk (upd s x) := by
  refine ⟨fun t ht => ?_, ?_⟩
  · rcases upd_mem ht with rfl | ht
    · exact hx
    · exact h.ok t ht
  · have := h.lt
    rw [← List.pairwise_map (f := Tx.id) (R := fun a b => a < b)] at this ⊢
    rwa [upd_ids]
theorem upd_who {s : Str} (hs : s.Pairwise fun a b => a.id < b.id) {t x : Tx} (ht : t ∈ s) (hi : x.id = t.id) (hm : x.ms = t.ms) (k v : Int) : (who (upd s x) k v).map Tx.id = (who s k v).map Tx.id := by
  induction s with
  | nil => rfl
  | cons y s ih =>
    have hp := List.pairwise_cons.1 hs
    simp only [upd]
    by_cases e : y.id = x.id
    · have hy : y = t := by
        rcases List.mem_cons.1 ht with h | h
        · exact h.symm
        · have := hp.1 t h; omega
      subst hy
      have hh : S.has x k v = S.has y k v := by simp only [S.has, hm]
      simp only [if_pos e, who, List.find?_cons, hh]
      split
      · simp [hi]
      · rfl
    · rw [if_neg e]
      have ht' : t ∈ s := by
        rcases List.mem_cons.1 ht with h | h
        · subst h; exact absurd hi.symm e
        · exact h
      simp only [who, List.find?_cons]
      split
      · rfl
      · exact ih hp.2 ht'
theorem ws_upd {ws : List En} {s : Str} (h : WsOk ws s) (hs : s.Pairwise fun a b => a.id < b.id) {t x : Tx} (ht : t ∈ s) (hi : x.id = t.id) (hm : x.ms = t.ms) : WsOk ws (upd s x) := by
  refine ⟨h.key, fun k v => ?_⟩
  rw [h.val k v]
  have := upd_who hs ht hi hm k v
  cases h1 : who (upd s x) k v <;> cases h2 : who s k v <;> simp [h1, h2] at this ⊢
  exact this.symm
/-- A store whose entry of one transaction was written anew. -/
theorem St.upd {W : AW} {p ra rw : Nat} {s : Str} (h : St W p ra rw s) {t x : Tx} (ht : t ∈ s) (hi : x.id = t.id) (hm : x.ms = t.ms) (hx : x.ok) : St (W.put ra (.map (esFrom 0 (upd s x)) s.length)) p ra rw (S.upd s x) := by
  obtain ⟨ws, cw, hw, hws⟩ := h.hw
  refine ⟨?_, ?_, ⟨ws, cw, ?_, ws_upd hws h.ok.lt ht hi hm⟩, h.ne, h.lp, h.la, h.lw, upd_ok h.ok hx⟩
  · rw [put_ne h.pra, upd_last]; exact h.hp
  · rw [put_at, upd_len]
  · rw [put_ne h.ne.symm]; exact hw
theorem Fr.put {W : AW} {p ra rw : Nat} {o : AObj} : Fr W (W.put ra o) p ra rw := ⟨rfl, fun _ _ h2 _ => put_ne h2⟩
end Go.AL.S
set_option maxRecDepth 100000
namespace Go.AL.S
open Go Go.AL Go.Proofs
/- (*umpire/txn.Store).Commit -/
def c8 : AC := (AC.seq (AC.reg [
  ⟨(some 6), .mov, [.c (.int .i64 0)], none⟩])
 (AC.seq (AC.reg [
  ⟨(some 13), .mov, [.t 0], none⟩,
  ⟨(some 14), .mov, [.t 1], none⟩,
  ⟨(some 15), .call 26, [.t 13, .t 14], none⟩,
  ⟨(some 12), .mov, [.t 15], none⟩,
  ⟨(some 16), .ext 0, [.t 12], none⟩,
  ⟨(some 17), .ext 1, [.t 12], none⟩,
  ⟨(some 7), .alloc [.int .u16 0, .int .u8 0, .nilsl, .nilsl, .int .u8 0], [], none⟩,
  ⟨none, .store 5, [.t 7, .t 16], none⟩,
  ⟨(some 8), .mov, [.t 17], none⟩])
 (AC.seq (AC.seq (AC.reg [
  ⟨(some 18), .mov, [.t 8], none⟩,
  ⟨(some 19), .bin .neq, [.t 18, .c (.int .i64 0)], none⟩])
 (AC.cond (.t 19)
  (AC.seq (AC.reg [
   ⟨(some 20), .mov, [.t 8], none⟩,
   ⟨(some 6), .mov, [.t 20], none⟩])
  AC.ret)
  AC.skip))
 (AC.seq (AC.seq (AC.reg [
  ⟨(some 21), .mov, [.t 1], none⟩,
  ⟨(some 22), .mov, [.t 2], none⟩,
  ⟨(some 23), .build [.int .u8 0, .int .u8 0, .int .u16 0, .int .u8 0, .int .u8 0, .int .u8 0, .int .u16 0, .int .u16 0, .int .u8 0, .int .u16 0, .nilsl, .nilsl, .int .u8 0, .int .i64 0, .int .i64 0, .int .i64 0, .bool false, .bool false, .bool false] [(0, 1), (2, 1), (11, 1)], [.c (.int .u8 6), .t 21, .t 22], none⟩,
  ⟨(some 24), .call 27, [.t 23], none⟩,
  ⟨(some 25), .bin .neq, [.t 24, .c (.int .i64 0)], none⟩])
 (AC.cond (.t 25)
  (AC.seq (AC.reg [
   ⟨(some 6), .mov, [.c (.int .i64 4)], none⟩])
  AC.ret)
  AC.skip))
 (AC.seq (AC.reg [
  ⟨(some 26), .mov, [.t 2], none⟩,
  ⟨(some 27), .call 28, [.t 26], none⟩,
  ⟨(some 28), .fld 4, [.t 7], none⟩,
  ⟨none, .store 1, [.t 28, .c (.int .u8 1)], none⟩,
  ⟨(some 29), .fld 3, [.t 7], none⟩,
  ⟨none, .store 1, [.t 29, .t 27], none⟩])
 (AC.seq (AC.reg [
  ⟨(some 9), .mov, [.c (.int .i64 0)], none⟩])
 (AC.seq (AC.seq (AC.reg [
  ⟨(some 30), .fld 2, [.t 7], none⟩,
  ⟨(some 31), .load false 1, [.t 30], none⟩,
  ⟨(some 32), .len 1 0, [.t 31], none⟩,
  ⟨(some 33), .mov, [.c (.int .i64 0)], none⟩])
 (AC.block 0
  (AC.loop
   (AC.seq (AC.reg [
    ⟨(some 34), .bin .lss, [.t 33, .t 32], none⟩])
   (AC.seq (AC.cond (.t 34)
    AC.skip
    (AC.exit 0))
   (AC.seq (AC.block 1
    (AC.seq (AC.reg [
     ⟨(some 35), .idxp 3, [.t 31, .t 33], none⟩,
     ⟨(some 36), .load true 3, [.t 35], none⟩,
     ⟨(some 11), .alloc [.bool false, .int .u8 0, .int .u16 0], [], none⟩,
     ⟨none, .store 3, [.t 11, .t 36], none⟩])
    (AC.seq (AC.reg [
     ⟨(some 37), .fld 0, [.t 11], none⟩,
     ⟨(some 38), .load false 1, [.t 37], none⟩])
    (AC.cond (.t 38)
     (AC.reg [
      ⟨(some 39), .mov, [.t 9], none⟩,
      ⟨(some 40), .bin .add, [.t 39, .c (.int .i64 1)], none⟩,
      ⟨(some 9), .mov, [.t 40], none⟩])
     AC.skip))))
   (AC.reg [
    ⟨(some 41), .bin .add, [.t 33, .c (.int .i64 1)], none⟩,
    ⟨(some 33), .mov, [.t 41], none⟩])))))))
 (AC.seq (AC.seq (AC.reg [
  ⟨(some 42), .mov, [.t 9], none⟩,
  ⟨(some 43), .mov, [.t 2], none⟩,
  ⟨(some 44), .len 1 0, [.t 43], none⟩,
  ⟨(some 45), .bin .neq, [.t 42, .t 44], none⟩])
 (AC.cond (.t 45)
  (AC.seq (AC.reg [
   ⟨(some 6), .mov, [.c (.int .i64 10)], none⟩])
  AC.ret)
  AC.skip))
 (AC.seq (AC.par
  (PT.step 0 ⟨(some 46), .mov, [.t 0], none⟩
  (PT.step 1 ⟨(some 47), .nilck, [.t 46], none⟩
  (PT.step 2 ⟨(some 48), .fld 0, [.t 47], none⟩
  (PT.step 4 ⟨(some 50), .mov, [.t 1], none⟩
  (PT.step 3 ⟨(some 49), .load false 1, [.t 48], none⟩
  (PT.step 5 ⟨(some 51), .load true 5, [.t 7], none⟩
  (PT.step 6 ⟨none, .mupd (false, [.i .u16]), [.t 49, .t 50, .t 51], none⟩
  PT.done))))))))
 (AC.seq (AC.reg [
  ⟨(some 6), .mov, [.c (.int .i64 0)], none⟩])
 AC.ret))))))))))
def r8 : AC × List RT × Nat := (c8, [.tmp 6], 52)
theorem ok8e : compF Tryz.prog Tryz.f8 ⟨false, false, []⟩ = some r8 := by kernel_rfl
variable {E : Env}
def endR (s : Str) (i st : Int) : Str × Int := match find s i with
  | some t => if t.st = 0 then (upd s { t with st := st }, 0) else (s, 7)
  | none => (s, 7)
theorem openR_cases (s : Str) (i : Int) : (∃ t, find s i = some t ∧ t.st = 0 ∧ openR s i = (t, 0) ∧ ∀ st, endR s i st = (upd s { t with st := st }, 0)) ∨ (openR s i = (Tx.zero, 7) ∧ ∀ st, endR s i st = (s, 7)) := by
  cases hf : find s i with
  | none => exact .inr ⟨by simp [openR, hf], fun st => by simp [endR, hf]⟩
  | some t =>
    by_cases h : t.st = 0
    · exact .inl ⟨t, rfl, h, by simp [openR, hf, h], fun st => by simp [endR, hf, h]⟩
    · exact .inr ⟨by simp [openR, hf, h], fun st => by simp [endR, hf, h]⟩
theorem end_c (hP : E.P = Tryz.prog) (W : AW) {p ra rw : Nat} {s : Str} (h : St W p ra rw s) (i st : Int) (h0 : 0 ≤ i) (h1 : i < 65536) (hst : 0 ≤ st ∧ st < 4) :
    ACalls E 29 [.ptr p 0, .int .u16 i, .int .u8 st] W fun Y W' => Y = .int .i64 (endR s i st).2 ∧ St W' p ra rw (endR s i st).1 ∧ Fr W W' p ra rw := by
  refine ACalls.of hP Tryz.func29 ok29e (by simp) fun _ hok => ?_
  refine awp_start hok ?_
  have hla := h.la
  have hlp := h.lp
  have hX : ∀ l, St (X W W.nx l) p ra rw s := fun l => ⟨by rw [X_old h.lp]; exact h.hp, by rw [X_old h.la]; exact h.ha, by obtain ⟨ws, cw, a, b⟩ := h.hw; exact ⟨ws, cw, by rw [X_old h.lw]; exact a, b⟩, h.ne, by simp [X_nx, rf]; omega, by have := h.la; simp [X_nx, rf]; omega, by have := h.lw; simp [X_nx, rf]; omega, h.ok⟩
  simp only [c29, e_seq, e_reg, e_cons, e_nil, e_plain, evs_nil, evs_cons, ev_t, ev_c, argsA_ap, e_putK, e_putd, e_put, e_then, ↓reduceIte, Nat.reduceEqDiff, reduceCtorEq, List.map_cons, List.map_nil, List.getElem?_cons_zero, List.getElem?_cons_succ, frz_int, frz_ptr, sem_mov, sem_call]
  refine pc (open_c hP _ (hX _) i h0 h1) ?_
  rcases openR_cases s i with ⟨t, hf, ht0, ho, he⟩ | ⟨ho, he⟩
  · obtain ⟨tm, ti, tok⟩ := find_ok h.ok hf
    have hr : ∀ l, (X W W.nx l).get ra = some (.map (esFrom 0 s) s.length) := fun l => by rw [X_old h.la]; exact h.ha
    obtain ⟨e, he2⟩ := es_some hf 0
    simp (config := { maxSteps := 2000000 }) (disch := omega) only [ho, e_seq, e_reg, cond_if, e_ret, e_par, e_done, e_step, e_cons, e_nil, e_plain, evs_nil, evs_cons, ev_t, ev_c, argsA_ap, e_putK, e_putd, e_putd0, e_put, e_then, retQ_ret, e_res1, ↓reduceIte, Nat.reduceEqDiff, reduceCtorEq, Option.map_some, List.getElem?_cons_zero, List.getElem?_cons_succ, frz_int, sem_mov, sem_eql, sem_ext0, sem_ext1, sem_alloc, sem_nilck_ptr, sem_fld_ptr, X_alloc, X_nx, X_get, X_put1, X_old, X_putold, m_load, loadK_f, loadK_t, optK_some, m_store, storeK_row, cells_int, cells_agg, one_int, List.cons_append, List.nil_append, List.append_nil, List.length_cons, List.length_nil, Nat.zero_add, Nat.add_zero, Nat.reduceAdd, Nat.reduceLeDiff, Nat.reduceLT, List.set_cons_zero, List.drop_succ_cons, List.drop_zero, List.drop_nil, List.take_succ_cons, List.take_zero, List.take_nil, List.all_cons, List.all_nil, Bool.and_self, undef_t, msV_one, lsV_one, Tx.V, beq_self_eq_true, h.hp, m_mupd (hr _) (es_keys h.ok.ok h0 h1 0), he2]
    have hx : ({ t with st := st } : Tx).ok := ⟨tok.id0, tok.id1, tok.cl0, tok.cl1, tok.ms, tok.msl, tok.lsl, tok.ls, hst⟩
    have hu : updK (V.int IntKind.u16 i) (V.agg [V.int IntKind.u16 t.id, V.int IntKind.u8 t.client, msV t.ms, lsV t.ls, V.int IntKind.u8 st]) (esFrom 0 s) = esFrom 0 (upd s { t with st := st }) := by
      rw [← es_upd, ← ti]; rfl
    have hW := h.upd (x := { t with st := st }) tm rfl rfl hx
    refine ⟨_, rfl, _, W.put ra (.map (esFrom 0 (upd s { t with st := st })) s.length), ?_, Nat.le_refl _, by rw [he], by rw [he]; exact hW, Fr.put⟩
    rw [hu]
    exact backX' rfl (ok_put hok h.la (es_bel _ _ _)) rfl
  · simp (config := { maxSteps := 2000000 }) (disch := omega) only [ho, e_seq, e_reg, cond_if, e_ret, e_skip, e_cons, e_nil, e_plain, evs_nil, evs_cons, ev_t, ev_c, e_putK, e_putd, e_putd0, e_put, e_then, retQ_ret, e_res1, ↓reduceIte, Nat.reduceEqDiff, Option.map_some, List.getElem?_cons_zero, Bool.false_eq_true, frz_int, sem_mov, sem_eql, sem_ext0, sem_ext1, sem_alloc, X_alloc, X_nx, X_get, X_put1, m_store, storeK_row, cells_agg, one_int, List.nil_append, List.append_nil, List.length_cons, List.length_nil, Nat.zero_add, Nat.reduceAdd, Nat.reduceLeDiff, Nat.reduceLT, List.set_cons_zero, List.drop_succ_cons, List.drop_nil, List.take_zero, List.all_cons, List.all_nil, Bool.and_self, undef_t, msV_one, lsV_one, Tx.V, Tx.zero, show ((7 : Int) == 0) = false by decide]
    exact ⟨_, rfl, _, W, backX hok rfl, Nat.le_refl _, by rw [he], by rw [he]; exact h, Fr.refl _ _ _ _⟩
theorem abort_c (hP : E.P = Tryz.prog) (W : AW) {p ra rw : Nat} {s : Str} (h : St W p ra rw s) (i : Int) (h0 : 0 ≤ i) (h1 : i < 65536) :
    ACalls E 9 [.ptr p 0, .int .u16 i] W fun Y W' => Y = .int .i64 (endR s i 2).2 ∧ St W' p ra rw (endR s i 2).1 ∧ Fr W W' p ra rw := by
  refine ACalls.of hP Tryz.func9 ok9e (by simp) fun _ hok => ?_
  simp only [c9, e_seq, e_reg, e_cons, e_nil, e_plain, evs_nil, evs_cons, ev_t, ev_c, argsA_ap, e_putK, e_putd, e_put, e_then, ↓reduceIte, Nat.reduceEqDiff, reduceCtorEq, List.map_cons, List.map_nil, List.getElem?_cons_zero, List.getElem?_cons_succ, frz_int, frz_ptr, sem_mov, sem_call]
  refine (end_c hP _ h i 2 h0 h1 (by decide)).mono ?_
  rintro Y W' ⟨rfl, h1, h2⟩
  simp only [e_ret, e_cons, e_nil, e_plain, evs_nil, evs_cons, ev_t, e_putK, e_putd, e_put, retQ_ret, e_res1, ↓reduceIte, Option.map_some, frz_int, sem_mov]
  exact ⟨_, rfl, _, _, .weak weak_id, by rw [h2.nx]; exact Nat.le_refl _, rfl, h1, h2⟩
theorem info_c (hP : E.P = Tryz.prog) (W : AW) {p ra rw : Nat} {s : Str} (h : St W p ra rw s) (i : Int) (h0 : 0 ≤ i) (h1 : i < 65536) :
    ACalls E 10 [.ptr p 0, .int .u16 i] W fun Y W' => Y = .int .i64 (endR s i 3).2 ∧ St W' p ra rw (endR s i 3).1 ∧ Fr W W' p ra rw := by
  refine ACalls.of hP Tryz.func10 ok10e (by simp) fun _ hok => ?_
  simp only [c10, e_seq, e_reg, e_cons, e_nil, e_plain, evs_nil, evs_cons, ev_t, ev_c, argsA_ap, e_putK, e_putd, e_put, e_then, ↓reduceIte, Nat.reduceEqDiff, reduceCtorEq, List.map_cons, List.map_nil, List.getElem?_cons_zero, List.getElem?_cons_succ, frz_int, frz_ptr, sem_mov, sem_call]
  refine (end_c hP _ h i 3 h0 h1 (by decide)).mono ?_
  rintro Y W' ⟨rfl, h1, h2⟩
  simp only [e_ret, e_cons, e_nil, e_plain, evs_nil, evs_cons, ev_t, e_putK, e_putd, e_put, retQ_ret, e_res1, ↓reduceIte, Option.map_some, frz_int, sem_mov]
  exact ⟨_, rfl, _, _, .weak weak_id, by rw [h2.nx]; exact Nat.le_refl _, rfl, h1, h2⟩


theorem St.ex {W W1 : AW} {p ra rw : Nat} {s : Str} (h : St W p ra rw s) (x : Ex W W1) : St W1 p ra rw s := by
  obtain ⟨ws, cw, a, b⟩ := h.hw
  have := x.nx
  have := h.lp
  have := h.la
  have := h.lw
  exact ⟨by rw [x.get _ h.lp]; exact h.hp, by rw [x.get _ h.la]; exact h.ha, ⟨ws, cw, by rw [x.get _ h.lw]; exact a, b⟩, h.ne, by omega, by omega, by omega, h.ok⟩
def reads (l : List Mi) : Nat := (l.filter (·.read)).length
def commitR (s : Str) (i : Int) (ls : List (Option (List Int))) : Str × Int := match find s i with
  | some t => if t.st = 0 then (if okC ls = true then (if reads t.ms = ls.length then (upd s { t with st := 1, ls := ls }, 0) else (s, 10)) else (s, 4)) else (s, 7)
  | none => (s, 7)
theorem reads_take {l : List Mi} {k : Nat} (h : k < l.length) : reads (l.take (k + 1)) = reads (l.take k) + (if l[k].read = true then 1 else 0) := by
  rw [List.take_add_one, List.getElem?_eq_getElem h]
  simp only [reads, Option.toList_some, List.filter_append, List.length_append]
  cases hr : l[k].read <;> simp [hr]
theorem reads_le (l : List Mi) : reads l ≤ l.length := List.length_filter_le _ _
theorem lists_r (hP : E.P = Tryz.prog) (W : AW) {r : V} {ls : List (Option (List Int))} (h : isLs r ls) (hb : r.bel 0 = true) (hl : ls.length < 2 ^ 40) (hs : ∀ x ∈ ls, (nums x).length < 2 ^ 40) : ACalls E 28 [r] W fun Y W' => Y = lsV ls ∧ W' = W := by
  obtain ⟨xs, i1, i2, i3⟩ := h
  have hL : ∀ x ∈ xs, isL x := by
    intro x hx
    obtain ⟨k, hk, rfl⟩ := List.mem_iff_getElem.1 hx
    rcases i3 k hk (by omega) with ⟨e, _⟩ | ⟨e, _⟩ | ⟨f, l, e1, e2⟩
    · exact .inl e
    · exact .inr (.inl e)
    · refine .inr (.inr ⟨f, intsV l, e2, belL_ints l 0, ?_⟩)
      rw [ints_len]
      have := hs _ (List.getElem_mem (l := ls) (by omega : k < ls.length))
      rw [e1] at this; simpa [nums] using this
  have hv : listsV xs = lsV ls := by
    unfold listsV lsV
    by_cases h0 : ls = []
    · have : xs = [] := List.length_eq_zero_iff.1 (by rw [i2, h0]; rfl)
      simp [h0, this]
    · have : xs ≠ [] := by rintro rfl; exact h0 (List.length_eq_zero_iff.1 (by rw [← i2]; rfl))
      simp only [h0, this, if_false]
      congr 1
      refine List.ext_getElem (by simp [i2]) fun k h1 h2 => ?_
      rw [List.getElem_map, List.getElem_map]
      rcases i3 k (by simpa using h1) (by simpa using h2) with ⟨e, e'⟩ | ⟨e, e'⟩ | ⟨f, l, e1, e2⟩
      · rw [e, e']; rfl
      · rw [e, e']; rfl
      · rw [e1, e2]; cases l <;> rfl
  rw [← hv]
  exact lists_c hP W r xs i1 hL (by omega)
theorem commit_c (hP : E.P = Tryz.prog) (W : AW) {p ra rw : Nat} {s : Str} (h : St W p ra rw s) (i : Int) (h0 : 0 ≤ i) (h1 : i < 65536) {r : V} {ls : List (Option (List Int))} (hr : isLs r ls) (hb : r.bel 0 = true) (hl : ls.length < 2 ^ 40) (hs : ∀ x ∈ ls, (nums x).length < 2 ^ 40 ∧ ∀ n ∈ nums x, 0 ≤ n ∧ n < 65536) :
    ACalls E 8 [.ptr p 0, .int .u16 i, r] W fun Y W' => Y = .int .i64 (commitR s i ls).2 ∧ St W' p ra rw (commitR s i ls).1 ∧ Fr W W' p ra rw := by
  refine ACalls.of hP Tryz.func8 ok8e (by simp) fun _ hok => ?_
  refine awp_start hok ?_
  have hla := h.la
  have hlp := h.lp
  obtain ⟨xs, i1, i2, i3⟩ := id hr
  simp only [c8, e_seq, e_reg, e_cons, e_nil, e_plain, evs_nil, evs_cons, ev_t, ev_c, argsA_ap, e_putK, e_putd, e_put, e_then, ↓reduceIte, Nat.reduceEqDiff, reduceCtorEq, List.map_cons, List.map_nil, List.getElem?_cons_zero, List.getElem?_cons_succ, frz_int, frz_ptr, sem_mov, sem_call]
  refine pc (open_c hP _ (h.ex .x0) i h0 h1) ?_
  rcases openR_cases s i with ⟨t, hf, ht0, ho, he⟩ | ⟨ho, he⟩
  · obtain ⟨tm, ti, tok⟩ := find_ok h.ok hf
    simp only [ho, e_seq, e_reg, cond_if, e_skip, e_cons, e_nil, e_plain, evs_nil, evs_cons, ev_t, ev_c, argsA_ap, e_putK, e_putd, e_putd0, e_put, e_then, ↓reduceIte, Nat.reduceEqDiff, List.map_cons, List.map_nil, List.getElem?_cons_zero, List.getElem?_cons_succ, Bool.false_eq_true, frz_agg, sem_mov, sem_neq, sem_ext0, sem_ext1, sem_call, sem_alloc, X_alloc, X_nx, X_get, X_put1, optK_some, m_store, storeK_row, m_build, fillV_nil, fillV_cons, cells_int, cells_agg, one_int, List.cons_append, List.nil_append, List.append_nil, List.length_cons, List.length_nil, Nat.zero_add, Nat.reduceAdd, Nat.reduceLeDiff, Nat.reduceLT, List.set_cons_zero, List.drop_succ_cons, List.drop_zero, List.drop_nil, List.take_succ_cons, List.take_zero, List.all_cons, List.all_nil, Bool.and_self, undef_t, msV_one, lsV_one, Tx.V, show ((0 : Int) != 0) = false by decide, i1.cells]
    refine pc (checkC_c hP _ i hr hl (fun x hx => (hs x hx).1) hb) ?_
    by_cases hc : okC ls = true
    · simp only [if_pos hc, e_seq, e_reg, cond_if, e_skip, e_cons, e_nil, e_plain, evs_nil, evs_cons, ev_t, ev_c, argsA_ap, e_putK, e_putd, e_put, e_then, ↓reduceIte, Nat.reduceEqDiff, List.map_cons, List.map_nil, List.getElem?_cons_zero, List.getElem?_cons_succ, Bool.false_eq_true, sem_mov, sem_neq, sem_call, show ((0 : Int) != 0) = false by decide, i1.frz]
      refine pc (lists_r hP _ hr hb hl (fun x hx => (hs x hx).1)) ?_
      simp only [e_seq, e_reg, e_block, e_cons, e_nil, e_plain, evs_nil, evs_cons, ev_t, ev_c, e_putK, e_putd, e_putd0, e_put, e_then, ↓reduceIte, Nat.reduceEqDiff, List.getElem?_cons_zero, List.getElem?_cons_succ, sem_mov, sem_fld_ptr, X_get, X_put1, m_load, loadK_f, optK_some, m_store, storeK_row, cells_int, one_int, List.cons_append, List.nil_append, List.append_nil, List.length_cons, List.length_nil, Nat.zero_add, Nat.reduceAdd, Nat.reduceLeDiff, Nat.reduceLT, List.set_cons_zero, List.drop_succ_cons, List.drop_zero, List.drop_nil, List.take_succ_cons, List.take_zero, List.all_cons, List.all_nil, Bool.and_self, undef_t, lsV_cells, lsV_one, (msV_isMs t.ms).len, List.length_map]
      rw [e_loop]
      obtain ⟨W0, hW0⟩ : ∃ W0, W0 = X W W.nx [AObj.row [V.int IntKind.u16 t.id, V.int IntKind.u8 t.client, msV t.ms, lsV ls, V.int IntKind.u8 1]] := ⟨_, rfl⟩
      rw [← hW0]
      have hC0 : Cl W0 := by rw [hW0]; exact Cl.X
      have hn0 : W0.nx = W.nx + 1 := by rw [hW0]; rfl
      have hg0 : W0.get (rf W.nx 0) = some (AObj.row [V.int IntKind.u16 t.id, V.int IntKind.u8 t.client, msV t.ms, lsV ls, V.int IntKind.u8 1]) := by rw [hW0, X_get]; rfl
      have hE0 : Ex W W0 := by rw [hW0]; exact .x0
      have hrf : rf W.nx 0 < W0.nx := by rw [hn0]; simp [rf]
      have hml := tok.msl
      refine ALoop.go (B := awp E _) (fun h => awp_mono _ h) (fun (k : Nat) A1 W1 => A1 0 = some (.ptr p 0) ∧ A1 1 = some (.int .u16 i) ∧ A1 2 = some r ∧ A1 7 = some (.ptr (rf W.nx 0) 0) ∧ A1 9 = some (.int .i64 (reads (t.ms.take k))) ∧ A1 31 = some (msV t.ms) ∧ A1 32 = some (.int .i64 t.ms.length) ∧ A1 33 = some (.int .i64 k) ∧ k ≤ t.ms.length ∧ Ex W0 W1) (fun k => t.ms.length - k) 0
        ⟨rfl, rfl, rfl, rfl, rfl, rfl, rfl, rfl, Nat.zero_le _, Ex.refl hC0⟩ ?_
      rintro k A1 W1 ⟨g0, g1, g2, g7, g9, g31, g32, g33, gk, gE⟩ _
      by_cases hk1 : k < t.ms.length
      · have hrt := reads_take hk1
        have hrl := reads_le (t.ms.take k)
        have hrl' : (t.ms.take k).length ≤ k := by simp; omega
        have hnx := gE.nx
        refine awp_startC gE.cl ?_
        cases hm : (t.ms[k]).read with
        | true =>
          simp (config := { maxSteps := 2000000 }) (disch := omega) only [e_seq, e_reg, cond_if, e_block, e_skip, e_cons, e_nil, e_plain, evs_nil, evs_cons, ev_t, ev_c, e_putK, e_putd, e_putd0, e_put, e_then, e_blk, ↓reduceIte, Nat.reduceEqDiff, reduceCtorEq, List.getElem?_cons_zero, sem_mov, sem_add, sem_lss, sem_alloc, sem_fld_ptr, X_alloc, X_nx, X_get, X_put1, m_load, loadK_f, optK_some, m_loadct, m_store, storeK_row, cells_agg, one_int, one_bool, List.nil_append, List.append_nil, List.length_cons, List.length_nil, Nat.zero_add, Nat.add_zero, Nat.reduceAdd, Nat.reduceLeDiff, Nat.reduceLT, List.set_cons_zero, List.drop_succ_cons, List.drop_nil, List.take_succ_cons, List.take_zero, List.take_nil, List.all_cons, List.all_nil, Bool.and_self, undef_t, g0, g1, g2, g7, g9, g31, g32, g33, clt, hk1, decide_true, (msV_isMs t.ms).idx (mi_at hk1), Mi.V, hm, wadd1]
          exact ⟨k + 1, ⟨(by first | trivial | rfl | omega), (by first | trivial | rfl | omega), (by first | trivial | rfl | omega), (by first | trivial | rfl | omega), by rw [hrt, hm]; rfl, (by first | trivial | rfl | omega), (by first | trivial | rfl | omega), (by first | trivial | rfl | omega), (by first | trivial | rfl | omega), gE.X⟩, by omega, by simp only [rf]; omega⟩
        | false =>
          simp (config := { maxSteps := 2000000 }) (disch := omega) only [e_seq, e_reg, cond_if, e_block, e_skip, e_cons, e_nil, e_plain, evs_nil, evs_cons, ev_t, ev_c, e_putK, e_putd, e_putd0, e_put, e_then, e_blk, ↓reduceIte, Nat.reduceEqDiff, reduceCtorEq, List.getElem?_cons_zero, Bool.false_eq_true, sem_mov, sem_add, sem_lss, sem_alloc, sem_fld_ptr, X_alloc, X_nx, X_get, X_put1, m_load, loadK_f, optK_some, m_loadct, m_store, storeK_row, cells_agg, one_int, one_bool, List.nil_append, List.append_nil, List.length_cons, List.length_nil, Nat.zero_add, Nat.add_zero, Nat.reduceAdd, Nat.reduceLeDiff, Nat.reduceLT, List.set_cons_zero, List.drop_succ_cons, List.drop_nil, List.take_succ_cons, List.take_zero, List.take_nil, List.all_cons, List.all_nil, Bool.and_self, undef_t, g0, g1, g2, g7, g9, g31, g32, g33, clt, hk1, decide_true, (msV_isMs t.ms).idx (mi_at hk1), Mi.V, hm, wadd1]
          exact ⟨k + 1, ⟨(by first | trivial | rfl | omega), (by first | trivial | rfl | omega), (by first | trivial | rfl | omega), (by first | trivial | rfl | omega), by rw [hrt, hm]; rfl, (by first | trivial | rfl | omega), (by first | trivial | rfl | omega), (by first | trivial | rfl | omega), (by first | trivial | rfl | omega), gE.X⟩, by omega, by simp only [rf]; omega⟩
      · obtain rfl : k = t.ms.length := by omega
        rw [List.take_length] at g9
        by_cases hq : reads t.ms = ls.length
        · obtain ⟨e, he2⟩ := es_some hf 0
          have hE1 := hE0.trans gE
          have hlen0 : ((reads t.ms : Int) != (ls.length : Int)) = false := by simp [hq]
          have hx : ({ t with st := 1, ls := ls } : Tx).ok := by
            refine ⟨tok.id0, tok.id1, tok.cl0, tok.cl1, tok.ms, tok.msl, ?_, ?_, by show (0 : Int) ≤ 1 ∧ (1 : Int) < 4; decide⟩
            · simp only [okC, Bool.and_eq_true, decide_eq_true_eq] at hc; exact hc.1
            · intro o ho'
              refine ⟨?_, (hs o ho').2⟩
              simp only [okC, Bool.and_eq_true, Bool.not_eq_true', List.any_eq_false] at hc
              have := hc.2 o ho'
              simp only [longL, decide_eq_true_eq] at this
              omega
          have hu : updK (V.int IntKind.u16 i) (V.agg [V.int IntKind.u16 t.id, V.int IntKind.u8 t.client, msV t.ms, lsV ls, V.int IntKind.u8 1]) (esFrom 0 s) = esFrom 0 (upd s { t with st := 1, ls := ls }) := by
            rw [← es_upd, ← ti]; rfl
          have eR : commitR s i ls = (upd s { t with st := 1, ls := ls }, 0) := by simp [commitR, hf, ht0, hc, hq]
          have hr1 : W1.get ra = some (.map (esFrom 0 s) s.length) := by rw [hE1.get _ h.la]; exact h.ha
          have hp1 := (hE1.get _ h.lp).trans h.hp
          have h71 := (gE.get _ hrf).trans hg0
          simp (config := { maxSteps := 2000000 }) (disch := omega) only [e_seq, e_reg, cond_if, e_exit, e_ret, e_skip, e_par, e_done, e_step, e_cons, e_nil, e_plain, evs_nil, evs_cons, ev_t, ev_c, e_putK, e_putd, e_putd0, e_put, e_then, e_then_exit, e_blk_exit, retQ_ret, e_res1, ↓reduceIte, Nat.reduceEqDiff, reduceCtorEq, Option.map_some, List.getElem?_cons_zero, Bool.false_eq_true, frz_int, sem_mov, sem_lss, sem_neq, sem_nilck_ptr, sem_fld_ptr, m_load, loadK_f, loadK_t, optK_some, List.length_cons, List.length_nil, Nat.zero_add, Nat.add_zero, Nat.reduceAdd, Nat.reduceLeDiff, List.drop_zero, List.take_succ_cons, List.take_nil, undef_t, g0, g1, g2, g7, g9, g32, g33, clt, hk1, decide_false, i1.len, i2, hlen0, hp1, h71, m_mupd hr1 (es_keys h.ok.ok h0 h1 0), he2, hu]
          have hW := h.upd (x := { t with st := 1, ls := ls }) tm rfl rfl hx
          refine ⟨_, rfl, _, W.put ra (.map (esFrom 0 (upd s { t with st := 1, ls := ls })) s.length), ?_, Nat.le_refl _, by rw [eR], by rw [eR]; exact hW, Fr.put⟩
          refine .weak (weak_back (ok_put hok h.la (es_bel _ _ _)) rfl fun x hx => ?_)
          by_cases e : x = ra
          · subst e; rw [put_at, put_at]
          · rw [put_ne e, put_ne e]; exact hE1.get x hx
        · have hlen0 : ((reads t.ms : Int) != (ls.length : Int)) = true := by simp; omega
          have e : commitR s i ls = (s, 10) := by simp [commitR, hf, ht0, hc, hq]
          simp (config := { maxSteps := 2000000 }) (disch := omega) only [e_seq, e_reg, cond_if, e_exit, e_ret, e_cons, e_nil, e_plain, evs_nil, evs_cons, ev_t, ev_c, e_putK, e_putd, e_put, e_then, e_then_ret, e_then_exit, e_blk_exit, retQ_ret, e_res1, ↓reduceIte, Nat.reduceEqDiff, Option.map_some, Bool.false_eq_true, frz_int, sem_mov, sem_lss, sem_neq, g2, g9, g32, g33, clt, hk1, decide_false, i1.len, i2, hlen0]
          exact ⟨_, rfl, _, W, (hE0.trans gE).back hok rfl, Nat.le_refl _, by rw [e], by rw [e]; exact h, Fr.refl _ _ _ _⟩
    · simp only [if_neg hc, e_seq, e_reg, cond_if, e_ret, e_cons, e_nil, e_plain, evs_nil, evs_cons, ev_t, ev_c, e_putK, e_putd, e_put, e_then, e_then_ret, retQ_ret, e_res1, ↓reduceIte, Option.map_some, frz_int, sem_mov, sem_neq, show ((4 : Int) != 0) = true by decide]
      have e : commitR s i ls = (s, 4) := by simp [commitR, hf, ht0, hc]
      exact ⟨_, rfl, _, W, backX hok rfl, Nat.le_refl _, by rw [e], by rw [e]; exact h, Fr.refl _ _ _ _⟩
  · have e : commitR s i ls = (s, 7) := by
      have := he 0
      unfold commitR; unfold endR at this
      cases hf : find s i with
      | none => rfl
      | some t =>
        rw [hf] at this
        by_cases h0 : t.st = 0
        · simp [h0] at this
        · simp [h0]
    simp (config := { maxSteps := 2000000 }) (disch := omega) only [ho, e_seq, e_reg, cond_if, e_ret, e_cons, e_nil, e_plain, evs_nil, evs_cons, ev_t, ev_c, e_putK, e_putd, e_putd0, e_put, e_then, e_then_ret, retQ_ret, e_res1, ↓reduceIte, Nat.reduceEqDiff, Option.map_some, List.getElem?_cons_zero, frz_int, sem_mov, sem_neq, sem_ext0, sem_ext1, sem_alloc, X_alloc, X_nx, X_get, X_put1, m_store, storeK_row, cells_agg, one_int, List.nil_append, List.append_nil, List.length_cons, List.length_nil, Nat.zero_add, Nat.reduceAdd, Nat.reduceLeDiff, Nat.reduceLT, List.set_cons_zero, List.drop_succ_cons, List.drop_nil, List.take_zero, List.all_cons, List.all_nil, Bool.and_self, undef_t, msV_one, lsV_one, Tx.V, Tx.zero, show ((7 : Int) != 0) = true by decide]
    exact ⟨_, rfl, _, W, backX hok rfl, Nat.le_refl _, by rw [e], by rw [e]; exact h, Fr.refl _ _ _ _⟩
end Go.AL.S
set_option maxRecDepth 100000
namespace Go.AL.S
open Go Go.AL Go.Proofs
/- maps.Copy[map[umpire/txn.element]uint16,map[umpire/txn.element]uint16,umpire/txn.element,uint16] -/
def c31 : AC := (AC.seq (AC.reg [
  ⟨(some 6), .mov, [.t 1], none⟩,
  ⟨(some 7), .rangem, [.t 6], none⟩])
 (AC.block 0
  (AC.loop
   (AC.seq (AC.reg [
    ⟨(some 8), .nextm, [.t 7], none⟩,
    ⟨(some 9), .ext 0, [.t 8], none⟩])
   (AC.seq (AC.cond (.t 9)
    AC.skip
    (AC.exit 0))
   (AC.block 1
    (AC.seq (AC.reg [
     ⟨(some 10), .entry, [.t 7], none⟩,
     ⟨(some 11), .ext 0, [.t 10], none⟩,
     ⟨(some 12), .ext 1, [.t 10], none⟩,
     ⟨(some 4), .alloc [.int .u8 0, .int .u16 0], [], none⟩,
     ⟨none, .store 2, [.t 4, .t 11], none⟩,
     ⟨(some 5), .mov, [.t 12], none⟩])
    (AC.reg [
     ⟨(some 13), .mov, [.t 0], none⟩,
     ⟨(some 14), .load true 2, [.t 4], none⟩,
     ⟨(some 15), .mov, [.t 5], none⟩,
     ⟨none, .mupd (true, [.i .u8, .i .u16]), [.t 13, .t 14, .t 15], none⟩]))))))))
def r31 : AC × List RT × Nat := (c31, [], 16)
theorem ok31e : compF Tryz.prog Tryz.f31 ⟨false, false, []⟩ = some r31 := by kernel_rfl
def c11_0 : AC := (AC.seq (AC.reg [
    ⟨(some 40), .bin .lss, [.t 39, .t 38], none⟩])
   (AC.seq (AC.cond (.t 40)
    AC.skip
    (AC.exit 1))
   (AC.seq (AC.block 2
    (AC.seq (AC.reg [
     ⟨(some 41), .idxp 3, [.t 37, .t 39], none⟩,
     ⟨(some 42), .load true 3, [.t 41], none⟩,
     ⟨(some 11), .alloc [.bool false, .int .u8 0, .int .u16 0], [], none⟩,
     ⟨none, .store 3, [.t 11, .t 42], none⟩])
    (AC.seq (AC.reg [
     ⟨(some 43), .fld 1, [.t 11], none⟩,
     ⟨(some 44), .load false 1, [.t 43], none⟩,
     ⟨(some 45), .fld 2, [.t 11], none⟩,
     ⟨(some 46), .load false 1, [.t 45], none⟩,
     ⟨(some 47), .build [.int .u8 0, .int .u16 0] [(0, 1), (1, 1)], [.t 44, .t 46], none⟩,
     ⟨(some 12), .alloc [.int .u8 0, .int .u16 0], [], none⟩,
     ⟨none, .store 2, [.t 12, .t 47], none⟩])
    (AC.seq (AC.seq (AC.reg [
     ⟨(some 48), .fld 0, [.t 11], none⟩,
     ⟨(some 49), .load false 1, [.t 48], none⟩])
    (AC.cond (.t 49)
     (AC.exit 2)
     AC.skip))
    (AC.seq (AC.reg [
     ⟨(some 51), .mov, [.t 9], none⟩,
     ⟨(some 52), .load true 2, [.t 12], none⟩,
     ⟨(some 53), .lookup (true, [.i .u8, .i .u16]) (.int .u16 0) true, [.t 51, .t 52], none⟩,
     ⟨(some 50), .mov, [.t 53], none⟩,
     ⟨(some 54), .ext 0, [.t 50], none⟩,
     ⟨(some 55), .ext 1, [.t 50], none⟩,
     ⟨(some 13), .mov, [.t 54], none⟩,
     ⟨(some 14), .mov, [.t 55], none⟩])
    (AC.seq (AC.seq (AC.par
     (PT.step 0 ⟨(some 57), .mov, [.t 0], none⟩
     (PT.step 1 ⟨(some 58), .nilck, [.t 57], none⟩
     (PT.step 2 ⟨(some 59), .fld 1, [.t 58], none⟩
     (PT.step 3 ⟨(some 60), .load false 1, [.t 59], none⟩
     (PT.step 4 ⟨(some 61), .load true 2, [.t 12], none⟩
     (PT.step 5 ⟨(some 62), .lookup (true, [.i .u8, .i .u16]) (.int .u16 0) true, [.t 60, .t 61], none⟩
     (PT.step 6 ⟨(some 56), .mov, [.t 62], none⟩
     (PT.step 7 ⟨(some 63), .ext 0, [.t 56], none⟩
     (PT.step 8 ⟨(some 64), .ext 1, [.t 56], none⟩
     (PT.step 9 ⟨(some 15), .mov, [.t 63], none⟩
     (PT.step 10 ⟨(some 16), .mov, [.t 64], none⟩
     PT.done))))))))))))
    (AC.seq (AC.reg [
     ⟨(some 65), .mov, [.t 16], none⟩,
     ⟨(some 66), .mov, [.t 65], none⟩,
     ⟨(some 67), .mov, [.t 14], (some (66, false))⟩,
     ⟨(some 68), .pick, [.t 66, .c (.bool true), .t 67], none⟩])
    (AC.cond (.t 68)
     (AC.seq (AC.reg [
      ⟨(some 8), .mov, [.c (.int .i64 8)], none⟩])
     AC.ret)
     AC.skip)))
    (AC.reg [
     ⟨(some 69), .mov, [.t 9], none⟩,
     ⟨(some 70), .load true 2, [.t 12], none⟩,
     ⟨(some 71), .mov, [.t 2], none⟩,
     ⟨none, .mupd (true, [.i .u8, .i .u16]), [.t 69, .t 70, .t 71], none⟩])))))))
   (AC.reg [
    ⟨(some 72), .bin .add, [.t 39, .c (.int .i64 1)], none⟩,
    ⟨(some 39), .mov, [.t 72], none⟩]))))
/- (*umpire/txn.Store).Begin -/
def c11 : AC := (AC.seq (AC.reg [
  ⟨(some 8), .mov, [.c (.int .i64 0)], none⟩])
 (AC.seq (AC.block 0
  (AC.seq (AC.reg [
   ⟨(some 18), .mov, [.t 0], none⟩,
   ⟨(some 19), .call 30, [.t 18], none⟩,
   ⟨(some 20), .un .not, [.t 19], none⟩,
   ⟨(some 17), .mov, [.t 20], none⟩])
  (AC.cond (.t 17)
   (AC.seq (AC.reg [
    ⟨(some 8), .mov, [.c (.int .i64 1)], none⟩])
   AC.ret)
   (AC.seq (AC.reg [
    ⟨(some 22), .mov, [.t 1], none⟩,
    ⟨(some 23), .mov, [.t 2], none⟩,
    ⟨(some 24), .mov, [.t 3], none⟩,
    ⟨(some 25), .build [.int .u8 0, .int .u8 0, .int .u16 0, .int .u8 0, .int .u8 0, .int .u8 0, .int .u16 0, .int .u16 0, .int .u8 0, .int .u16 0, .nilsl, .nilsl, .int .u8 0, .int .i64 0, .int .i64 0, .int .i64 0, .bool false, .bool false, .bool false] [(0, 1), (1, 1), (2, 1), (10, 1)], [.c (.int .u8 5), .t 22, .t 23, .t 24], none⟩,
    ⟨(some 26), .call 27, [.t 25], none⟩,
    ⟨(some 27), .bin .neq, [.t 26, .c (.int .i64 0)], none⟩,
    ⟨(some 21), .mov, [.t 27], none⟩])
   (AC.cond (.t 21)
    (AC.seq (AC.reg [
     ⟨(some 8), .mov, [.c (.int .i64 4)], none⟩])
    AC.ret)
    (AC.seq (AC.reg [
     ⟨(some 29), .mov, [.t 2], none⟩,
     ⟨(some 30), .conv .i64, [.t 29], none⟩,
     ⟨(some 31), .mov, [.t 0], none⟩,
     ⟨(some 32), .nilck, [.t 31], none⟩,
     ⟨(some 33), .fld 2, [.t 32], none⟩,
     ⟨(some 34), .load false 1, [.t 33], none⟩,
     ⟨(some 35), .bin .leq, [.t 30, .t 34], none⟩,
     ⟨(some 28), .mov, [.t 35], none⟩])
    (AC.cond (.t 28)
     (AC.seq (AC.reg [
      ⟨(some 8), .mov, [.c (.int .i64 8)], none⟩])
     AC.ret)
     AC.skip)))))))
 (AC.seq (AC.reg [
  ⟨(some 36), .mkmap, [], none⟩,
  ⟨(some 9), .mov, [.t 36], none⟩])
 (AC.seq (AC.seq (AC.reg [
  ⟨(some 37), .mov, [.t 3], none⟩,
  ⟨(some 38), .len 1 0, [.t 37], none⟩,
  ⟨(some 39), .mov, [.c (.int .i64 0)], none⟩])
 (AC.block 1
  (AC.loop c11_0)))
 (AC.seq (AC.reg [
  ⟨(some 73), .mov, [.t 0], none⟩,
  ⟨(some 74), .nilck, [.t 73], none⟩,
  ⟨(some 75), .fld 1, [.t 74], none⟩,
  ⟨(some 76), .load false 1, [.t 75], none⟩,
  ⟨(some 77), .mov, [.t 9], none⟩,
  ⟨(some 78), .call 31, [.t 76, .t 77], none⟩])
 (AC.seq (AC.par
  (PT.step 0 ⟨(some 79), .mov, [.t 0], none⟩
  (PT.step 1 ⟨(some 80), .nilck, [.t 79], none⟩
  (PT.step 2 ⟨(some 81), .fld 0, [.t 80], none⟩
  (PT.step 4 ⟨(some 83), .mov, [.t 2], none⟩
  (PT.step 5 ⟨(some 84), .mov, [.t 2], none⟩
  (PT.step 6 ⟨(some 85), .mov, [.t 1], none⟩
  (PT.step 7 ⟨(some 86), .mov, [.t 3], none⟩
  (PT.step 3 ⟨(some 82), .load false 1, [.t 81], none⟩
  (PT.step 8 ⟨(some 87), .pcall 32, [.t 86], none⟩
  (PT.step 9 ⟨(some 88), .build [.int .u16 0, .int .u8 0, .nilsl, .nilsl, .int .u8 0] [(0, 1), (1, 1), (2, 1)], [.t 84, .t 85, .t 87], none⟩
  (PT.step 10 ⟨none, .mupd (false, [.i .u16]), [.t 82, .t 83, .t 88], none⟩
  PT.done))))))))))))
 (AC.seq (AC.reg [
  ⟨(some 89), .mov, [.t 0], none⟩,
  ⟨(some 90), .mov, [.t 2], none⟩,
  ⟨(some 91), .conv .i64, [.t 90], none⟩,
  ⟨(some 92), .nilck, [.t 89], none⟩,
  ⟨(some 93), .fld 2, [.t 92], none⟩,
  ⟨none, .store 1, [.t 93, .t 91], none⟩])
 (AC.seq (AC.reg [
  ⟨(some 8), .mov, [.c (.int .i64 0)], none⟩])
 AC.ret))))))))
def r11 : AC × List RT × Nat := (c11, [.tmp 8], 94)
theorem ok11e : compF Tryz.prog Tryz.f11 ⟨false, false, []⟩ = some r11 := by kernel_rfl
variable {E : Env}
theorem keysK_bel {ws : List En} (h : KeysK ws) (m : Nat) : (ws.all fun e => e.1.bel m && e.2.1.bel m) = true := by
  rw [List.all_eq_true]
  intro e he
  obtain ⟨k, v, n, e1, e2, _⟩ := h e he
  rw [e1, e2]; rfl
/-- A map's entry, written. -/
def mset (key x : V) (es : List En) (c : Nat) : List En × Nat := match findK key es with
  | some _ => (updK key x es, c)
  | none => (es ++ [(key, x, c)], c + 1)
theorem m_mset {W : AW} {K : V → AW → Prop} {sh : Bool × List SK} {key x : V} {r c : Nat} {es : List En} (h : W.get r = some (.map es c)) (hk : keysOk sh key es) : sem E (.mupd sh) [.map r, key, x] W K = K .undef (W.put r (.map (mset key x es c).1 (mset key x es c).2)) := by
  rw [m_mupd h hk, mset]
  cases findK key es <;> rfl
theorem mset_keys {k v n : Int} {es : List En} {c : Nat} (h : KeysK es) (h0 : 0 ≤ k) (h1 : k < 256) (h2 : 0 ≤ v) (h3 : v < 65536) : KeysK (mset (kV k v) (.int .u16 n) es c).1 := by
  have hu : ∀ l : List En, KeysK l → KeysK (updK (kV k v) (.int .u16 n) l) := by
    intro l
    induction l with
    | nil => intro _ e he; simp [updK] at he
    | cons x l ih =>
      intro hl e he
      simp only [updK] at he
      split at he
      · rcases List.mem_cons.1 he with rfl | he
        · exact ⟨k, v, n, rfl, rfl, h0, h1, h2, h3⟩
        · exact hl e (by simp [he])
      · rcases List.mem_cons.1 he with rfl | he
        · exact hl _ (by simp)
        · exact ih (fun e he => hl e (by simp [he])) e he
  unfold mset
  split
  · exact hu es h
  · intro e he
    rcases List.mem_append.1 he with he | he
    · exact h e he
    · rw [List.mem_singleton.1 he]; exact ⟨k, v, n, rfl, rfl, h0, h1, h2, h3⟩
theorem findK_app {key : V} {a b : List En} : findK key (a ++ b) = (findK key a).or (findK key b) := by
  induction a with
  | nil => rfl
  | cons x a ih =>
    simp only [List.cons_append, findK]
    split
    · rfl
    · exact ih
theorem mset_val {k v : Int} {x : V} {es : List En} {c : Nat} (h : KeysK es) (k' v' : Int) : (findK (kV k' v') (mset (kV k v) x es c).1).map (·.2.1) = if k' = k ∧ v' = v then some x else (findK (kV k' v') es).map (·.2.1) := by
  have hu : ∀ l : List En, KeysK l → (findK (kV k v) l).isSome → (findK (kV k' v') (updK (kV k v) x l)).map (·.2.1) = if k' = k ∧ v' = v then some x else (findK (kV k' v') l).map (·.2.1) := by
    intro l
    induction l with
    | nil => intro _ h; cases h
    | cons y l ih =>
      intro hl hs
      obtain ⟨a, b, n, e1, e2, _⟩ := hl y (by simp)
      simp only [updK, findK, e1, keq_kV] at hs ⊢
      by_cases hy : k = a ∧ v = b
      · obtain ⟨rfl, rfl⟩ := hy
        simp only [decide_true, Bool.and_self, if_true, findK, keq_kV]
        by_cases hk : k' = k ∧ v' = v
        · simp [hk]
        · have : (decide (k' = k) && decide (v' = v)) = false := by simp; intro e; exact fun e' => hk ⟨e, e'⟩
          simp only [this, hk, Bool.false_eq_true, if_false]
      · have hy' : (decide (k = a) && decide (v = b)) = false := by simp; intro e; exact fun e' => hy ⟨e, e'⟩
        simp only [hy', Bool.false_eq_true, if_false, findK, e1, keq_kV] at hs ⊢
        by_cases hk : k' = a ∧ v' = b
        · obtain ⟨rfl, rfl⟩ := hk
          have : ¬ (k' = k ∧ v' = v) := fun e => hy ⟨e.1.symm, e.2.symm⟩
          simp [this]
        · have : (decide (k' = a) && decide (v' = b)) = false := by simp; intro e; exact fun e' => hk ⟨e, e'⟩
          simp only [this, Bool.false_eq_true, if_false]
          exact ih (fun e he => hl e (by simp [he])) hs
  unfold mset
  cases hf : findK (kV k v) es with
  | some e => exact hu es h (by rw [hf]; rfl)
  | none =>
    simp only [findK_app, findK, keq_kV]
    by_cases hk : k' = k ∧ v' = v
    · obtain ⟨rfl, rfl⟩ := hk
      simp [hf]
    · have : (decide (k' = k) && decide (v' = v)) = false := by simp; intro e; exact fun e' => hk ⟨e, e'⟩
      simp only [this, hk, Bool.false_eq_true, if_false]
      cases findK (kV k' v') es <;> rfl
theorem kV_inj {k v k' v' : Int} : kV k v = kV k' v' ↔ k = k' ∧ v = v' := by simp [kV]
def inK (l : List En) (k v : Int) : Bool := l.any fun e => (kV k v).keq e.1
theorem copy_c (hP : E.P = Tryz.prog) (W : AW) {rw mr cw c : Nat} {ws es : List En} {i : Int} (hw : W.get rw = some (.map ws cw)) (hm : W.get mr = some (.map es c)) (hne : rw ≠ mr) (hlw : rw < W.nx) (hlm : mr < W.nx) (hf : Fresh es c) (hwk : KeysK ws) (hek : KeysK es) (hv : ∀ e ∈ es, e.2.1 = .int .u16 i) :
    ACalls E 31 [.map rw, .map mr] W fun Y W' => ∃ ws' cw', W' = W.put rw (.map ws' cw') ∧ KeysK ws' ∧ ∀ k v, (findK (kV k v) ws').map (·.2.1) = if inK es k v = true then some (.int .u16 i) else (findK (kV k v) ws).map (·.2.1) := by
  refine ACalls.of hP Tryz.func31 ok31e (by simp) fun _ hok => ?_
  simp only [c31, e_seq, e_reg, e_block, e_cons, e_nil, e_plain, evs_nil, evs_cons, ev_t, argsA_ap, e_putK, e_putd, e_put, e_then, ↓reduceIte, List.getElem?_cons_zero, List.getElem?_cons_succ, sem_mov, sem_rangem hm, e_loop]
  have hn' : mr ≠ W.nx := by omega
  have hn2 : rw ≠ W.nx := by omega
  refine ALoop.go (B := awp E _) (fun h => awp_mono _ h) (fun (done : List En) A1 W1 => A1 0 = some (.map rw) ∧ A1 7 = some (.ptr W.nx 0) ∧ Cl W1 ∧ W.nx < W1.nx ∧ W1.get W.nx = some (.iter (some mr) c (stamps done) c) ∧ (∀ x, x < W.nx → x ≠ rw → W1.get x = W.get x) ∧ (stamps done).Nodup ∧ (∀ e ∈ done, e ∈ es) ∧
      ∃ ws' cw', W1.get rw = some (.map ws' cw') ∧ KeysK ws' ∧ ∀ k v, (findK (kV k v) ws').map (·.2.1) = if inK done k v = true then some (.int .u16 i) else (findK (kV k v) ws).map (·.2.1)) (fun done => es.length - done.length) []
    ⟨rfl, rfl, ?_, by rw [alloc_nx]; omega, alloc_at, fun x hx _ => alloc_lt hx, List.nodup_nil, by simp, ws, cw, by rw [alloc_lt hlw]; exact hw, hwk, fun k v => rfl⟩ ?_
  · intro r hr
    rw [alloc_nx] at hr
    rw [al_gets, if_neg (by omega)]
    exact ok_Cl hok r (by omega)
  rintro done A1 W1 ⟨g0, g7, gC, gn, gi, gW, gd, gs, ws', cw', gw, gk, gv⟩ _
  have k2 : W1.get mr = some (.map es c) := by rw [gW _ hlm hne.symm]; exact hm
  simp only [e_seq, e_reg, cond_if, e_block, e_exit, e_skip, e_cons, e_nil, e_plain, evs_nil, evs_cons, ev_t, e_putK, e_putd, e_put, e_then, e_then_exit, e_blk_exit, retQ_normal, e_res0, ↓reduceIte, Nat.reduceEqDiff, Bool.false_eq_true, sem_ext0, g7, sem_nextm gi k2]
  refine ⟨?_, ?_, ?_⟩
  · cases es with
    | nil => exact .inr (.inl rfl)
    | cons e es => exact .inr (.inr ⟨e, by simp, hf.lt e (by simp)⟩)
  · intro hall
    have hp : done.Perm es := by
      refine perm_of_mem (nodup_of_stamps gd) (nodup_of_stamps hf.nodup) fun x => ⟨gs x, fun hx => ?_⟩
      by_cases hm' : x.2.2 ∈ stamps done
      · obtain ⟨x', h1, h2⟩ := List.mem_map.1 hm'
        rwa [← same_stamp hf.nodup (gs x' h1) hx h2]
      · have := hall x hx hm'
        have := hf.lt x hx
        omega
    refine ⟨_, rfl, _, W.put rw (.map ws' cw'), .weak (weak_back (ok_put hok hlw (keysK_bel gk _)) rfl fun x hx => ?_), Nat.le_refl _, ws', cw', rfl, gk, fun k v => ?_⟩
    · by_cases e : x = rw
      · subst e; rw [put_at]; exact gw
      · rw [put_ne e]; exact gW x hx e
    · rw [gv k v]
      have : inK done k v = inK es k v := by
        rw [Bool.eq_iff_iff]
        simp only [inK, List.any_eq_true, hp.mem_iff]
      rw [this]
  · intro e he hne'
    obtain ⟨k, v, n, e1, e2, q0, q1, q2, q3⟩ := hek e he
    have en : n = i := by have := hv e he; rw [e2] at this; exact (V.int.inj this).2
    subst en
    obtain ⟨W2, hW2⟩ : ∃ W2, W2 = W1.put W.nx (.iter (some mr) c (stamps done ++ [e.2.2]) c) := ⟨_, rfl⟩
    rw [← hW2]
    have j1 : W2.get W.nx = some (.iter (some mr) c (stamps done ++ [e.2.2]) c) := by rw [hW2, put_at]
    have j2 : W2.get mr = some (.map es c) := by rw [hW2, put_ne hn']; exact k2
    have j3 : (stamps done ++ [e.2.2]).getLast? = some e.2.2 := by simp
    have j4 : W2.get rw = some (.map ws' cw') := by rw [hW2, put_ne hn2]; exact gw
    have jn : W2.nx = W1.nx := by rw [hW2]; rfl
    have jC : Cl W2 := by rw [hW2]; exact gC.put gn
    rw [sem_entry j1 j2 j3 (Fresh.find hf.nodup he)]
    have hr : ∀ l, (X W2 W2.nx l).get rw = some (.map ws' cw') := fun l => by rw [X_old (by omega)]; exact j4
    rw [jC.start]
    simp (config := { maxSteps := 2000000 }) (disch := omega) only [e_reg, e_cons, e_nil, e_plain, evs_nil, evs_cons, ev_t, e_putK, e_putd, e_putd0, e_put, e_then, e_blk, ↓reduceIte, Nat.reduceEqDiff, reduceCtorEq, List.getElem?_cons_zero, sem_mov, sem_ext0, sem_ext1, sem_alloc, X_alloc, X_nx, X_get, X_put1, m_load, loadK_t, m_store, storeK_row, cells_agg, one_int, List.nil_append, List.append_nil, List.length_cons, List.length_nil, Nat.zero_add, Nat.reduceAdd, Nat.reduceLeDiff, Nat.reduceLT, List.set_cons_zero, List.drop_succ_cons, List.drop_zero, List.drop_nil, List.take_succ_cons, List.take_zero, List.take_nil, List.all_cons, List.all_nil, Bool.and_self, undef_t, g0, e1, e2, kV]
    have hms : ∀ (l : List AObj) K, sem E (.mupd (true, [.i .u8, .i .u16])) [.map rw, .agg [.int .u8 k, .int .u16 v], .int .u16 n] (X W2 W2.nx l) K = K .undef ((X W2 W2.nx l).put rw (.map (mset (kV k v) (.int .u16 n) ws' cw').1 (mset (kV k v) (.int .u16 n) ws' cw').2)) := fun l K => m_mset (hr l) (ws_keys' gk q0 q1 q2 q3)
    simp (config := { maxSteps := 2000000 }) (disch := omega) only [hms, e_nil, e_putK, e_putd0, e_put, ↓reduceIte, Nat.reduceEqDiff, reduceCtorEq, X_nx, X_old, X_putold, List.length_cons, List.length_nil, Nat.zero_add, undef_t, g0, g7]
    refine ⟨done ++ [e], ⟨trivial, trivial, Cl.X, ?_, ?_, ?_, ?_, ?_, (mset (kV k v) (.int .u16 n) ws' cw').1, (mset (kV k v) (.int .u16 n) ws' cw').2, ?_, mset_keys gk q0 q1 q2 q3, fun k' v' => ?_⟩, ?_, ?_⟩
    · simp only [rf]; omega
    · try rw [X_old (by omega)]
      rw [put_ne hn2.symm, j1]; simp [stamps]
    · intro x hx hxr
      try rw [X_old (by omega)]
      rw [put_ne hxr, hW2, put_ne (by omega)]
      exact gW x hx hxr
    · simp only [stamps, List.map_append, List.map_cons, List.map_nil]
      exact List.nodup_append.2 ⟨gd, by simp, fun a ha b hb => by
        rw [List.mem_singleton.1 hb]
        exact fun e' => hne' (e' ▸ ha)⟩
    · intro x hx
      rcases List.mem_append.1 hx with hx | hx
      · exact gs x hx
      · rw [List.mem_singleton.1 hx]; exact he
    · try rw [X_old (by omega)]
      rw [put_at]
    · show (findK (kV k' v') _).map _ = if inK _ k' v' = true then _ else (findK (kV k' v') ws).map _
      rw [mset_val gk, gv]
      simp only [inK, List.any_append, List.any_cons, List.any_nil, e1, keq_kV, Bool.or_false]
      by_cases hk : k' = k ∧ v' = v
      · obtain ⟨rfl, rfl⟩ := hk; simp
      · have : (decide (k' = k) && decide (v' = v)) = false := by simp; intro e; exact fun e' => hk ⟨e, e'⟩
        rw [this, Bool.or_false, if_neg hk]
        rfl
    · have : done.length < es.length := by
        have h1 := length_le_of_sub (l := done ++ [e]) (m := es) (nodup_of_stamps (by
          simp only [stamps, List.map_append, List.map_cons, List.map_nil]
          exact List.nodup_append.2 ⟨gd, by simp, fun a ha b hb => by
            rw [List.mem_singleton.1 hb]
            exact fun e' => hne' (e' ▸ ha)⟩)) (fun x hx => by
            rcases List.mem_append.1 hx with hx | hx
            · exact gs x hx
            · rw [List.mem_singleton.1 hx]; exact he)
        simp at h1; omega
      simp; omega
    · simp only [rf, alloc_nx]; omega
end Go.AL.S
set_option maxRecDepth 100000
namespace Go.AL.S
open Go Go.AL Go.Proofs
variable {E : Env}
def addsOf (l : List Mi) : List (Int × Int) := (l.filter (!·.read)).map fun m => (m.key, m.v)
def freshB (s : Str) (l : List Mi) : Bool := decide (addsOf l).Nodup && (addsOf l).all fun a => (who s a.1 a.2).isNone
def beginR (s : Str) (c i : Int) (l : List Mi) : Str × Int :=
  if okB c l = true then (if i ≤ lastId s then (s, 8) else if freshB s l = true then (s ++ [⟨i, c, l, [], 0⟩], 0) else (s, 8)) else (s, 4)
/-- The entries of one's own numbers. -/
def mineFrom (i : Int) : Nat → List (Int × Int) → List En
  | _, [] => []
  | n, a :: l => (kV a.1 a.2, .int .u16 i, n) :: mineFrom i (n + 1) l
theorem mine_app (i : Int) (a : Int × Int) : ∀ (l : List (Int × Int)) n, mineFrom i n (l ++ [a]) = mineFrom i n l ++ [(kV a.1 a.2, .int .u16 i, n + l.length)]
  | [], n => by simp [mineFrom]
  | x :: l, n => by simp only [List.cons_append, mineFrom, mine_app i a l, List.length_cons, show n + 1 + l.length = n + (l.length + 1) by omega]
theorem mine_in (i : Int) (k v : Int) : ∀ (l : List (Int × Int)) n, inK (mineFrom i n l) k v = decide ((k, v) ∈ l)
  | [], n => by simp [mineFrom, inK]
  | x :: l, n => by
    have ih := mine_in i k v l (n + 1)
    simp only [inK] at ih
    simp only [inK, mineFrom, List.any_cons, keq_kV, ih, List.mem_cons, Prod.ext_iff]
    by_cases h : k = x.1 ∧ v = x.2
    · simp [h]
    · have : (decide (k = x.1) && decide (v = x.2)) = false := by simp; intro e; exact fun e' => h ⟨e, e'⟩
      simp [this, h]
theorem mine_find (i : Int) (k v : Int) : ∀ (l : List (Int × Int)) n, ((findK (kV k v) (mineFrom i n l)).map (·.2.1)) = if (k, v) ∈ l then some (.int .u16 i) else none
  | [], n => by simp [mineFrom, findK]
  | x :: l, n => by
    have ih := mine_find i k v l (n + 1)
    simp only [mineFrom, findK, keq_kV, List.mem_cons, Prod.ext_iff]
    by_cases h : k = x.1 ∧ v = x.2
    · simp [h]
    · have : (decide (k = x.1) && decide (v = x.2)) = false := by simp; intro e; exact fun e' => h ⟨e, e'⟩
      simp only [this, h, Bool.false_eq_true, if_false, ih, false_or]
theorem mine_keys {i : Int} : ∀ {l : List (Int × Int)}, (∀ a ∈ l, 0 ≤ a.1 ∧ a.1 < 256 ∧ 0 ≤ a.2 ∧ a.2 < 65536) → ∀ n, KeysK (mineFrom i n l)
  | [], _, n => fun _ h => by simp [mineFrom] at h
  | x :: l, hl, n => by
    intro e he
    rcases List.mem_cons.1 he with rfl | he
    · obtain ⟨a, b, c, d⟩ := hl x (by simp)
      exact ⟨x.1, x.2, i, rfl, rfl, a, b, c, d⟩
    · exact mine_keys (fun a ha => hl a (by simp [ha])) _ e he
theorem mine_vals {i : Int} : ∀ {l : List (Int × Int)} n, ∀ e ∈ mineFrom i n l, e.2.1 = .int .u16 i
  | [], n => fun _ h => by simp [mineFrom] at h
  | x :: l, n => by
    intro e he
    rcases List.mem_cons.1 he with rfl | he
    · rfl
    · exact mine_vals _ e he
theorem mine_fresh {i : Int} : ∀ (l : List (Int × Int)) n, (∀ e ∈ mineFrom i n l, n ≤ e.2.2 ∧ e.2.2 < n + l.length) ∧ (stamps (mineFrom i n l)).Nodup
  | [], n => ⟨fun _ h => by simp [mineFrom] at h, List.nodup_nil⟩
  | x :: l, n => by
    obtain ⟨h1, h2⟩ := mine_fresh (i := i) l (n + 1)
    refine ⟨fun e he => ?_, ?_⟩
    · rcases List.mem_cons.1 he with rfl | he
      · simp
      · have := h1 e he; simp only [List.length_cons]; omega
    · refine List.nodup_cons.2 ⟨fun h => ?_, h2⟩
      obtain ⟨e, he, h3⟩ := List.mem_map.1 h
      have := h1 e he
      simp only at h3
      omega
theorem adds_take {l : List Mi} {k : Nat} (h : k < l.length) : addsOf (l.take (k + 1)) = addsOf (l.take k) ++ (if l[k].read = true then [] else [(l[k].key, l[k].v)]) := by
  rw [List.take_add_one, List.getElem?_eq_getElem h]
  simp only [addsOf, Option.toList_some, List.filter_append, List.map_append]
  cases hr : l[k].read <;> simp [hr]
theorem adds_len (l : List Mi) : (addsOf l).length ≤ l.length := by
  simp only [addsOf, List.length_map]; exact List.length_filter_le _ _
theorem adds_mem {l : List Mi} {k v : Int} : (k, v) ∈ addsOf l ↔ ∃ m ∈ l, m.read = false ∧ m.key = k ∧ m.v = v := by
  simp only [addsOf, List.mem_map, List.mem_filter, Prod.mk.injEq, Bool.not_eq_true']
  exact ⟨fun ⟨m, ⟨a, b⟩, c, d⟩ => ⟨m, a, b, c, d⟩, fun ⟨m, a, b, c, d⟩ => ⟨m, ⟨a, b⟩, c, d⟩⟩
theorem has_iff {t : Tx} {k v : Int} : S.has t k v = decide ((k, v) ∈ addsOf t.ms) := by
  rw [Bool.eq_iff_iff, decide_eq_true_eq, adds_mem]
  simp only [S.has, List.any_eq_true, Bool.and_eq_true, Bool.not_eq_true', decide_eq_true_eq]
theorem last_app (s : Str) (t : Tx) : lastId (s ++ [t]) = t.id := by simp [lastId]
theorem last_lt {s : Str} (h : s.Pairwise fun a b => a.id < b.id) {t : Tx} (ht : t ∈ s) : t.id ≤ lastId s := by
  revert t
  induction s with
  | nil => intro t ht; simp at ht
  | cons x s ih =>
    intro t ht
    have hp := List.pairwise_cons.1 h
    cases s with
    | nil => rw [List.mem_singleton.1 ht]; exact Int.le_refl _
    | cons y s =>
      have hl : lastId (x :: y :: s) = lastId (y :: s) := by simp [lastId, List.getLast?_cons_cons]
      rw [hl]
      rcases List.mem_cons.1 ht with rfl | ht
      · have := hp.1 y (by simp)
        have h2 : y.id ≤ lastId (y :: s) := ih hp.2 (by simp)
        omega
      · exact ih hp.2 ht
theorem app_ok {s : Str} {t : Tx} (h : SOk s) (ht : t.ok) (hl : lastId s < t.id) : SOk (s ++ [t]) := by
  refine ⟨fun x hx => ?_, List.pairwise_append.2 ⟨h.lt, List.pairwise_singleton _ _, fun a ha b hb => ?_⟩⟩
  · rcases List.mem_append.1 hx with hx | hx
    · exact h.ok x hx
    · rw [List.mem_singleton.1 hx]; exact ht
  · rw [List.mem_singleton.1 hb]
    have := last_lt h.lt ha
    omega
theorem find_none_last {s : Str} (h : s.Pairwise fun a b => a.id < b.id) {i : Int} (hl : lastId s < i) : find s i = none := by
  rw [find, List.find?_eq_none]
  intro t ht
  have := last_lt h ht
  simp; omega
theorem ws_app {ws ws' : List En} {s : Str} {t : Tx} (h : WsOk ws s) (hk : KeysK ws') (hf : ∀ k v, (k, v) ∈ addsOf t.ms → who s k v = none)
    (hv : ∀ k v, (findK (kV k v) ws').map (·.2.1) = if decide ((k, v) ∈ addsOf t.ms) = true then some (.int .u16 t.id) else (findK (kV k v) ws).map (·.2.1)) : WsOk ws' (s ++ [t]) := by
  refine ⟨hk, fun k v => ?_⟩
  rw [hv, h.val]
  simp only [who, List.find?_append, List.find?_cons, List.find?_nil, has_iff]
  by_cases hm : (k, v) ∈ addsOf t.ms
  · have := hf k v hm
    simp only [who] at this
    simp only [has_iff] at this
    simp [hm, this]
  · simp [hm]
end Go.AL.S
set_option maxRecDepth 100000
namespace Go.AL.S
open Go Go.AL Go.Proofs
variable {E : Env}
theorem clone_ms {v : V} {l : List Mi} (h : isMs v l) (h1 : 1 ≤ l.length) : cloneV 3 v = msV l := by
  rcases h with ⟨rfl, h⟩ | ⟨rfl, h⟩ | ⟨f, rfl⟩
  · simp at h; subst h; simp at h1
  · simp at h; subst h; simp at h1
  · cases l with
    | nil => simp at h1
    | cons a l => rfl
theorem i64_16 {i : Int} (h0 : 0 ≤ i) (h1 : i < 65536) : IntKind.i64.wrap i = i := IntWalk.i64_in _ (by omega)
theorem adds_pre (l : List Mi) (k : Nat) : addsOf l = addsOf (l.take k) ++ addsOf (l.drop k) := by
  simp only [addsOf, ← List.map_append, ← List.filter_append, List.take_append_drop]
theorem lookK_mine {sh : Bool × List SK} {z : V} {ok : Bool} {n : Nat} {i k v : Int} {l : List (Int × Int)} {K : V → Prop} : lookK sh z ok (kV k v) (mineFrom i n l) K = (if (k, v) ∈ l then K (if ok = true then .tuple [.int .u16 i, .bool true] else .int .u16 i) else K (if ok = true then .tuple [z, .bool false] else z)) := by
  simp only [lookK, mine_find]
  by_cases h : (k, v) ∈ l <;> simp [h]
theorem mine_mset {i k v : Int} {l : List (Int × Int)} (h : (k, v) ∉ l) : mset (kV k v) (.int .u16 i) (mineFrom i 0 l) l.length = (mineFrom i 0 (l ++ [(k, v)]), (l ++ [(k, v)]).length) := by
  have h1 := mine_find i k v l 0
  rw [if_neg h] at h1
  have h2 : findK (kV k v) (mineFrom i 0 l) = none := by
    cases hf : findK (kV k v) (mineFrom i 0 l) with
    | none => rfl
    | some e => rw [hf] at h1; cases h1
  simp only [mset, h2, mine_app, List.length_append, List.length_cons, List.length_nil, Nat.zero_add]
theorem begin_loop (hP : E.P = Tryz.prog) (W : AW) {p ra rw : Nat} {s : Str} (h : St W p ra rw s) (c i : Int) {v : V} {l : List Mi} (hv : isMs v l) (ho : ∀ m ∈ l, m.ok) (hl8 : 1 ≤ l.length ∧ l.length ≤ 8) {A : AFr} {Q : Exit → AFr → AW → Prop}
    (a0 : A 0 = some (.ptr p 0)) (a1 : A 1 = some (.int .u8 c)) (a2 : A 2 = some (.int .u16 i)) (a3 : A 3 = some v) (a9 : A 9 = some (.map (rf W.nx 0))) (a37 : A 37 = some v) (a38 : A 38 = some (.int .i64 l.length)) (a39 : A 39 = some (.int .i64 0))
    (hret : freshB s l = false → ∀ A' W', A' 8 = some (.int .i64 8) → Ex W W' → Q .ret A' W')
    (hex : ∀ A' W', A' 0 = some (.ptr p 0) → A' 1 = some (.int .u8 c) → A' 2 = some (.int .u16 i) → A' 3 = some v → A' 9 = some (.map (rf W.nx 0)) → Ex W W' → rf W.nx 0 < W'.nx →
      W'.get (rf W.nx 0) = some (.map (mineFrom i 0 (addsOf l)) (addsOf l).length) → freshB s l = true → Q (.exit 1) A' W') : ALoop (awp E c11_0) Q A (X W W.nx [.map [] 0]) := by
  have hla := h.la
  have hlp := h.lp
  have hlw := h.lw
  obtain ⟨ws, cw, hw, hws⟩ := h.hw
  have hmr : W.nx ≤ rf W.nx 0 := by simp [rf]
  refine ALoop.go (B := awp E _) (fun h => awp_mono _ h) (fun (k : Nat) A1 W1 => A1 0 = some (.ptr p 0) ∧ A1 1 = some (.int .u8 c) ∧ A1 2 = some (.int .u16 i) ∧ A1 3 = some v ∧ A1 9 = some (.map (rf W.nx 0)) ∧ A1 37 = some v ∧ A1 38 = some (.int .i64 l.length) ∧ A1 39 = some (.int .i64 k) ∧ k ≤ l.length ∧ Ex W W1 ∧ rf W.nx 0 < W1.nx ∧
    W1.get (rf W.nx 0) = some (.map (mineFrom i 0 (addsOf (l.take k))) (addsOf (l.take k)).length) ∧ (addsOf (l.take k)).Nodup ∧ (∀ a ∈ addsOf (l.take k), who s a.1 a.2 = none)) (fun k => l.length - k) 0
    ⟨a0, a1, a2, a3, a9, a37, a38, a39, Nat.zero_le _, Ex.x0, by simp [rf, X], by rw [X_get]; rfl, by simp [addsOf], by simp [addsOf]⟩ ?_
  rintro k A1 W1 ⟨g0, g1, g2, g3, g9, g37, g38, g39, gk, gE, gr, gm, gd, gf⟩ _
  have hn1 := gE.nx
  have hp1 := (gE.get _ h.lp).trans h.hp
  have hw1 := (gE.get _ h.lw).trans hw
  by_cases hk1 : k < l.length
  · have hat := adds_take hk1
    obtain ⟨q0, q1, q2, q3⟩ := ho l[k] (List.getElem_mem hk1)
    refine awp_startC gE.cl ?_
    cases hm : (l[k]).read with
    | true =>
      simp (config := { maxSteps := 2000000 }) (disch := omega) only [c11_0, e_seq, e_reg, cond_if, e_block, e_exit, e_skip, e_cons, e_nil, e_plain, evs_nil, evs_cons, ev_t, ev_c, e_putK, e_putd, e_putd0, e_put, e_then, e_then_exit, e_blk_exit, ↓reduceIte, Nat.reduceEqDiff, reduceCtorEq, List.getElem?_cons_zero, List.getElem?_cons_succ, sem_mov, sem_add, sem_lss, sem_alloc, sem_fld_ptr, X_alloc, X_nx, X_get, X_put1, X_old, m_load, loadK_f, loadK_t, optK_some, m_loadct, m_store, storeK_row, m_build, fillV_nil, fillV_cons, cells_int, cells_agg, one_int, one_bool, List.cons_append, List.nil_append, List.append_nil, List.length_cons, List.length_nil, List.length_append, Nat.zero_add, Nat.add_zero, Nat.reduceAdd, Nat.reduceLeDiff, Nat.reduceLT, List.set_cons_zero, List.set_cons_succ, List.drop_succ_cons, List.drop_zero, List.drop_nil, List.take_succ_cons, List.take_zero, List.take_nil, List.all_cons, List.all_nil, Bool.and_self, undef_t, g0, g1, g2, g3, g9, g37, g38, g39, clt, hk1, decide_true, hv.idx (mi_at hk1), Mi.V, hm, wadd1]
      rw [hm, if_pos rfl, List.append_nil] at hat
      exact ⟨k + 1, ⟨(by first | trivial | rfl | omega), (by first | trivial | rfl | omega), (by first | trivial | rfl | omega), (by first | trivial | rfl | omega), (by first | trivial | rfl | omega), (by first | trivial | rfl | omega), (by first | trivial | rfl | omega), (by first | trivial | rfl | omega), (by first | trivial | rfl | omega), gE.X, by simp only [rf] at gr ⊢; omega, by (try rw [X_old gr]); rw [hat]; exact gm, by rw [hat]; exact gd, by rw [hat]; exact gf⟩, by omega, by simp only [rf]; simp only [rf] at gr; omega⟩
    | false =>
      rw [hm, if_neg (by simp)] at hat
      have hmk : KeysK (mineFrom i 0 (addsOf (l.take k))) := mine_keys (fun a ha => by
        obtain ⟨m, hm, _, e1, e2⟩ := adds_mem.1 ha
        obtain ⟨b0, b1, b2, b3⟩ := ho m (List.mem_of_mem_take hm)
        rw [← e1, ← e2]; exact ⟨b0, b1, b2, b3⟩) 0
      have hlk1 : ∀ (o : List AObj) K, sem E (.lookup (true, [.i .u8, .i .u16]) (.int .u16 0) true) [.map (rf W.nx 0), .agg [.int .u8 l[k].key, .int .u16 l[k].v]] (X W1 W1.nx o) K = lookK (true, [.i .u8, .i .u16]) (.int .u16 0) true (kV l[k].key l[k].v) (mineFrom i 0 (addsOf (l.take k))) (fun v => K v (X W1 W1.nx o)) :=
        fun o K => m_lookup (by rw [X_old gr]; exact gm) (ws_keys' hmk q0 q1 q2 q3)
      have hlk2 : ∀ (o : List AObj) K, sem E (.lookup (true, [.i .u8, .i .u16]) (.int .u16 0) true) [.map rw, .agg [.int .u8 l[k].key, .int .u16 l[k].v]] (X W1 W1.nx o) K = lookK (true, [.i .u8, .i .u16]) (.int .u16 0) true (kV l[k].key l[k].v) ws (fun v => K v (X W1 W1.nx o)) :=
        fun o K => m_lookup (by rw [X_old (by omega)]; exact hw1) (ws_keys hws q0 q1 q2 q3)
      have hpre := adds_pre l (k + 1)
      rw [hat] at hpre
      have hmem : (l[k].key, l[k].v) ∈ addsOf l := by rw [hpre]; simp
      cases hwf : who s l[k].key l[k].v with
      | some t =>
        have e : freshB s l = false := by
          simp only [freshB, Bool.and_eq_false_iff, List.all_eq_false]
          exact .inr ⟨_, hmem, by simp [hwf]⟩
        by_cases hin : (l[k].key, l[k].v) ∈ addsOf (l.take k)
        · simp (config := { maxSteps := 2000000 }) (disch := omega) only [c11_0, e_seq, e_reg, cond_if, e_block, e_exit, e_ret, e_skip, e_par, e_done, e_step, e_cons, e_nil, e_plain, guard_if, evs_nil, evs_cons, ev_t, ev_c, e_putK, e_putd, e_putd0, e_put, e_then, e_then_ret, e_then_exit, e_blk_ret, e_blk_exit, ↓reduceIte, Nat.reduceEqDiff, reduceCtorEq, List.getElem?_cons_zero, List.getElem?_cons_succ, Bool.false_eq_true, Bool.true_eq_false, sem_mov, sem_pick, sem_add, sem_lss, sem_ext0, sem_ext1, sem_alloc, sem_nilck_ptr, sem_fld_ptr, X_alloc, X_nx, X_get, X_put1, X_old, m_load, loadK_f, loadK_t, optK_some, m_loadct, m_store, storeK_row, m_build, fillV_nil, fillV_cons, cells_int, cells_agg, one_int, one_bool, List.cons_append, List.nil_append, List.append_nil, List.length_cons, List.length_nil, List.length_append, Nat.zero_add, Nat.add_zero, Nat.reduceAdd, Nat.reduceLeDiff, Nat.reduceLT, List.set_cons_zero, List.set_cons_succ, List.drop_succ_cons, List.drop_zero, List.drop_nil, List.take_succ_cons, List.take_zero, List.take_nil, List.all_cons, List.all_nil, Bool.and_self, undef_t, g0, g1, g2, g3, g9, g37, g38, g39, clt, hk1, decide_true, hv.idx (mi_at hk1), Mi.V, hm, wadd1, hlk1, hlk2, lookK_mine, if_pos hin, lookK_who hws, hwf, hp1]
          exact hret e _ _ rfl gE.X
        · simp (config := { maxSteps := 2000000 }) (disch := omega) only [c11_0, e_seq, e_reg, cond_if, e_block, e_exit, e_ret, e_skip, e_par, e_done, e_step, e_cons, e_nil, e_plain, guard_if, evs_nil, evs_cons, ev_t, ev_c, e_putK, e_putd, e_putd0, e_put, e_then, e_then_ret, e_then_exit, e_blk_ret, e_blk_exit, ↓reduceIte, Nat.reduceEqDiff, reduceCtorEq, List.getElem?_cons_zero, List.getElem?_cons_succ, Bool.false_eq_true, Bool.true_eq_false, sem_mov, sem_pick, sem_add, sem_lss, sem_ext0, sem_ext1, sem_alloc, sem_nilck_ptr, sem_fld_ptr, X_alloc, X_nx, X_get, X_put1, X_old, m_load, loadK_f, loadK_t, optK_some, m_loadct, m_store, storeK_row, m_build, fillV_nil, fillV_cons, cells_int, cells_agg, one_int, one_bool, List.cons_append, List.nil_append, List.append_nil, List.length_cons, List.length_nil, List.length_append, Nat.zero_add, Nat.add_zero, Nat.reduceAdd, Nat.reduceLeDiff, Nat.reduceLT, List.set_cons_zero, List.set_cons_succ, List.drop_succ_cons, List.drop_zero, List.drop_nil, List.take_succ_cons, List.take_zero, List.take_nil, List.all_cons, List.all_nil, Bool.and_self, undef_t, g0, g1, g2, g3, g9, g37, g38, g39, clt, hk1, decide_true, hv.idx (mi_at hk1), Mi.V, hm, wadd1, hlk1, hlk2, lookK_mine, if_neg hin, lookK_who hws, hwf, hp1]
          exact hret e _ _ rfl gE.X
      | none =>
        by_cases hin : (l[k].key, l[k].v) ∈ addsOf (l.take k)
        · have e : freshB s l = false := by
            have : ¬ (addsOf l).Nodup := by
              rw [hpre]
              intro hn
              have := (List.nodup_append.1 (List.nodup_append.1 hn).1).2.2 _ hin _ (List.mem_singleton.2 rfl)
              exact this rfl
            simp [freshB, this]
          simp (config := { maxSteps := 2000000 }) (disch := omega) only [c11_0, e_seq, e_reg, cond_if, e_block, e_exit, e_ret, e_skip, e_par, e_done, e_step, e_cons, e_nil, e_plain, guard_if, evs_nil, evs_cons, ev_t, ev_c, e_putK, e_putd, e_putd0, e_put, e_then, e_then_ret, e_then_exit, e_blk, e_blk_ret, e_blk_exit, ↓reduceIte, Nat.reduceEqDiff, reduceCtorEq, List.getElem?_cons_zero, List.getElem?_cons_succ, Bool.false_eq_true, sem_mov, sem_pick, sem_add, sem_lss, sem_ext0, sem_ext1, sem_alloc, sem_nilck_ptr, sem_fld_ptr, X_alloc, X_nx, X_get, X_put1, X_old, m_load, loadK_f, loadK_t, optK_some, m_loadct, m_store, storeK_row, m_build, fillV_nil, fillV_cons, cells_int, cells_agg, one_int, one_bool, List.cons_append, List.nil_append, List.append_nil, List.length_cons, List.length_nil, List.length_append, Nat.zero_add, Nat.add_zero, Nat.reduceAdd, Nat.reduceLeDiff, Nat.reduceLT, List.set_cons_zero, List.set_cons_succ, List.drop_succ_cons, List.drop_zero, List.drop_nil, List.take_succ_cons, List.take_zero, List.take_nil, List.all_cons, List.all_nil, Bool.and_self, undef_t, g0, g1, g2, g3, g9, g37, g38, g39, clt, hk1, decide_true, hv.idx (mi_at hk1), Mi.V, hm, wadd1, hlk1, hlk2, lookK_mine, if_pos hin, lookK_who hws, hwf, hp1]
          exact hret e _ _ rfl gE.X
        · have hms : ∀ (o : List AObj) K, sem E (.mupd (true, [.i .u8, .i .u16])) [.map (rf W.nx 0), .agg [.int .u8 l[k].key, .int .u16 l[k].v], .int .u16 i] (X W1 W1.nx o) K = K .undef (X (W1.put (rf W.nx 0) (.map (mineFrom i 0 (addsOf (l.take (k + 1)))) (addsOf (l.take (k + 1))).length)) W1.nx o) := by
            intro o K
            have hg : (X W1 W1.nx o).get (rf W.nx 0) = some (.map (mineFrom i 0 (addsOf (l.take k))) (addsOf (l.take k)).length) := by rw [X_old gr]; exact gm
            rw [show V.agg [.int .u8 l[k].key, .int .u16 l[k].v] = kV l[k].key l[k].v from rfl, m_mset hg (ws_keys' hmk q0 q1 q2 q3), mine_mset hin, ← hat, X_putold gr]
          simp (config := { maxSteps := 2000000 }) (disch := omega) only [c11_0, e_seq, e_reg, cond_if, e_block, e_exit, e_ret, e_skip, e_par, e_done, e_step, e_cons, e_nil, e_plain, guard_if, evs_nil, evs_cons, ev_t, ev_c, e_putK, e_putd, e_putd0, e_put, e_then, e_then_ret, e_then_exit, e_blk, e_blk_ret, e_blk_exit, ↓reduceIte, Nat.reduceEqDiff, reduceCtorEq, List.getElem?_cons_zero, List.getElem?_cons_succ, Bool.false_eq_true, sem_mov, sem_pick, sem_add, sem_lss, sem_ext0, sem_ext1, sem_alloc, sem_nilck_ptr, sem_fld_ptr, X_alloc, X_nx, X_get, X_put1, X_old, m_load, loadK_f, loadK_t, optK_some, m_loadct, m_store, storeK_row, m_build, fillV_nil, fillV_cons, cells_int, cells_agg, one_int, one_bool, List.cons_append, List.nil_append, List.append_nil, List.length_cons, List.length_nil, List.length_append, Nat.zero_add, Nat.add_zero, Nat.reduceAdd, Nat.reduceLeDiff, Nat.reduceLT, List.set_cons_zero, List.set_cons_succ, List.drop_succ_cons, List.drop_zero, List.drop_nil, List.take_succ_cons, List.take_zero, List.take_nil, List.all_cons, List.all_nil, Bool.and_self, undef_t, g0, g1, g2, g3, g9, g37, g38, g39, clt, hk1, decide_true, hv.idx (mi_at hk1), Mi.V, hm, wadd1, hlk1, hlk2, hms, lookK_mine, if_neg hin, lookK_who hws, hwf, hp1]
          refine ⟨k + 1, ⟨(by first | trivial | rfl | omega), (by first | trivial | rfl | omega), (by first | trivial | rfl | omega), (by first | trivial | rfl | omega), (by first | trivial | rfl | omega), (by first | trivial | rfl | omega), (by first | trivial | rfl | omega), (by first | trivial | rfl | omega), (by first | trivial | rfl | omega), ⟨Cl.X, ?_, fun x hx => ?_⟩, ?_, ?_, ?_, ?_⟩, by omega, ?_⟩
          · simp only [X]; omega
          · rw [X_old (by omega), put_ne (by omega)]; exact gE.get x hx
          · simp only [rf] at gr ⊢; omega
          · try rw [X_old gr]
            rw [put_at]
          · rw [hat]
            exact List.nodup_append.2 ⟨gd, by simp, fun a ha b hb => by rw [List.mem_singleton.1 hb]; rintro rfl; exact hin ha⟩
          · rw [hat]
            intro a ha
            rcases List.mem_append.1 ha with ha | ha
            · exact gf a ha
            · rw [List.mem_singleton.1 ha]; exact hwf
          · simp only [rf]; simp only [rf] at gr; omega
  · obtain rfl : k = l.length := by omega
    rw [List.take_length] at gm gd gf
    have e : freshB s l = true := by
      simp only [freshB, gd, decide_true, Bool.true_and, List.all_eq_true]
      intro a ha; rw [gf a ha]; rfl
    simp (config := { maxSteps := 2000000 }) (disch := omega) only [c11_0, e_seq, e_reg, cond_if, e_exit, e_cons, e_nil, e_plain, evs_nil, evs_cons, ev_t, e_putK, e_putd, e_put, e_then, e_then_exit, ↓reduceIte, Bool.false_eq_true, sem_lss, X_nx, List.length_cons, List.length_nil, Nat.zero_add, g38, g39, clt, hk1, decide_false]
    exact hex _ _ g0 g1 g2 g3 g9 gE gr gm e
end Go.AL.S
set_option maxRecDepth 100000
namespace Go.AL.S
open Go Go.AL Go.Proofs
variable {E : Env}
theorem begin_c (hP : E.P = Tryz.prog) (W : AW) {p ra rw : Nat} {s : Str} (h : St W p ra rw s) (c i : Int) (h0 : 0 ≤ i) (h1 : i < 65536) (c0 : 0 ≤ c) (c1 : c < 256) {v : V} {l : List Mi} (hv : isMs v l) (ho : ∀ m ∈ l, m.ok) (hl : l.length < 2 ^ 40) :
    ACalls E 11 [.ptr p 0, .int .u8 c, .int .u16 i, v] W fun Y W' => Y = .int .i64 (beginR s c i l).2 ∧ St W' p ra rw (beginR s c i l).1 ∧ Fr W W' p ra rw := by
  refine ACalls.of hP Tryz.func11 ok11e (by simp) fun _ hok => ?_
  refine awp_start hok ?_
  have hla := h.la
  have hlp := h.lp
  have hlw := h.lw
  obtain ⟨ws, cw, hw, hws⟩ := h.hw
  simp only [c11, e_seq, e_reg, e_block, e_cons, e_nil, e_plain, evs_nil, evs_cons, ev_t, ev_c, argsA_ap, e_putK, e_putd, e_put, e_then, ↓reduceIte, reduceCtorEq, List.map_cons, List.map_nil, List.getElem?_cons_zero, frz_ptr, sem_mov, sem_call]
  refine pc (is_c hP _ (r := [.map rw, .int .i64 (lastId s)]) (by rw [X_old h.lp]; exact h.hp)) ?_
  simp only [e_seq, e_reg, cond_if, e_cons, e_nil, e_plain, evs_nil, evs_cons, ev_t, ev_c, argsA_ap, e_putK, e_putd, e_put, e_then, ↓reduceIte, Nat.reduceEqDiff, List.map_cons, List.map_nil, List.getElem?_cons_zero, List.getElem?_cons_succ, Bool.false_eq_true, frz_agg, sem_mov, sem_not, sem_call, optK_some, m_build, fillV_nil, fillV_cons, cells_int, List.cons_append, List.nil_append, List.length_cons, List.length_nil, Nat.zero_add, Nat.reduceAdd, Nat.reduceLeDiff, List.drop_succ_cons, List.drop_zero, List.take_succ_cons, List.take_zero, Bool.not_true, hv.cells]
  refine pc (checkB_c hP _ c i hv ho hl) ?_
  by_cases hB : okB c l = true
  · by_cases hL : i ≤ lastId s
    · have e : beginR s c i l = (s, 8) := by simp [beginR, hB, hL]
      simp (config := { maxSteps := 2000000 }) (disch := omega) only [e_seq, e_reg, cond_if, e_ret, e_cons, e_nil, e_plain, evs_nil, evs_cons, ev_t, ev_c, argsA_ap, e_putK, e_putd, e_put, e_then, e_then_ret, e_blk_ret, retQ_ret, e_res1, ↓reduceIte, Nat.reduceEqDiff, reduceCtorEq, Option.map_some, List.getElem?_cons_zero, List.getElem?_cons_succ, Bool.false_eq_true, frz_int, sem_mov, sem_leq, sem_neq, sem_conv, sem_nilck_ptr, sem_fld_ptr, X_old, m_load, loadK_f, optK_some, Nat.zero_add, if_pos hB, show ((0 : Int) != 0) = false by decide, i64_16 h0 h1, h.hp, decide_eq_true hL]
      exact ⟨_, rfl, _, W, backX hok rfl, Nat.le_refl _, by rw [e], by rw [e]; exact h, Fr.refl _ _ _ _⟩
    · simp (config := { maxSteps := 2000000 }) (disch := omega) only [e_seq, e_reg, cond_if, e_block, e_skip, e_cons, e_nil, e_plain, evs_nil, evs_cons, ev_t, ev_c, argsA_ap, e_putK, e_putd, e_put, e_then, e_blk, ↓reduceIte, Nat.reduceEqDiff, reduceCtorEq, List.getElem?_cons_zero, List.getElem?_cons_succ, Bool.false_eq_true, sem_mov, sem_leq, sem_neq, sem_conv, sem_mkmap, sem_nilck_ptr, sem_fld_ptr, X_alloc, X_nx, X_old, m_load, loadK_f, optK_some, List.nil_append, List.length_nil, Nat.zero_add, if_pos hB, show ((0 : Int) != 0) = false by decide, i64_16 h0 h1, h.hp, decide_eq_false hL, hv.len, List.length_map]
      rw [e_loop]
      have hl8 : 1 ≤ l.length ∧ l.length ≤ 8 := by
        simp only [okB, Bool.and_eq_true, decide_eq_true_eq] at hB; exact hB.1.1
      refine begin_loop hP W h c i hv ho hl8 rfl rfl rfl rfl rfl rfl rfl rfl ?_ ?_
      · intro hfr A' W' g8 gE
        have e : beginR s c i l = (s, 8) := by simp [beginR, hB, hL, hfr]
        simp only [e_then_ret, e_blk_ret, retQ_ret, e_res1, Option.map_some, frz_int, g8]
        exact ⟨_, rfl, _, W, gE.back hok rfl, Nat.le_refl _, by rw [e], by rw [e]; exact h, Fr.refl _ _ _ _⟩
      · intro A' W1 g0 g1 g2 g3 g9 gE gr gm hfr
        have e : beginR s c i l = (s ++ [⟨i, c, l, [], 0⟩], 0) := by simp [beginR, hB, hL, hfr]
        have hn1 := gE.nx
        have hp1 := (gE.get _ h.lp).trans h.hp
        have hw1 := (gE.get _ h.lw).trans hw
        have ha1 := (gE.get _ h.la).trans h.ha
        have hmr : W.nx ≤ rf W.nx 0 := by simp [rf]
        simp (config := { maxSteps := 2000000 }) (disch := omega) only [e_seq, e_reg, e_cons, e_plain, evs_nil, evs_cons, ev_t, e_putK, e_putd, e_put, e_then, e_blk_exit, ↓reduceIte, Nat.reduceEqDiff, List.map_cons, List.map_nil, List.getElem?_cons_zero, List.getElem?_cons_succ, frz_map, sem_mov, sem_call, sem_nilck_ptr, sem_fld_ptr, m_load, loadK_f, optK_some, Nat.zero_add, g0, g9, hp1]
        refine (copy_c hP W1 (i := i) hw1 gm (by omega) (by omega) gr ⟨(mine_fresh _ 0).2, fun x hx => by simpa using ((mine_fresh _ 0).1 x hx).2⟩ hws.key (mine_keys (fun a ha => by
          obtain ⟨m, hm, _, e1, e2⟩ := adds_mem.1 ha
          obtain ⟨b0, b1, b2, b3⟩ := ho m hm
          rw [← e1, ← e2]; exact ⟨b0, b1, b2, b3⟩) 0) (mine_vals 0)).mono ?_
        rintro Y W2 ⟨ws', cw', rfl, hk', hv'⟩
        have hp2 : (W1.put rw (.map ws' cw')).get p = some (.row [.map ra, .map rw, .int .i64 (lastId s)]) := by rw [put_ne h.prw]; exact hp1
        have ha2 : (W1.put rw (.map ws' cw')).get ra = some (.map (esFrom 0 s) s.length) := by rw [put_ne h.ne]; exact ha1
        simp (config := { maxSteps := 2000000 }) (disch := omega) only [e_seq, e_par, e_step, e_nil, e_plain, evs_nil, evs_cons, ev_t, e_putK, e_putd, e_put, e_then, ↓reduceIte, Nat.reduceEqDiff, reduceCtorEq, List.map_cons, List.map_nil, List.getElem?_cons_zero, sem_mov, sem_nilck_ptr, sem_fld_ptr, m_load, loadK_f, optK_some, m_pcall, m_build, fillV_nil, fillV_cons, cells_int, List.cons_append, List.nil_append, List.length_cons, List.length_nil, Nat.zero_add, Nat.add_zero, Nat.reduceAdd, Nat.reduceLeDiff, List.drop_succ_cons, List.drop_zero, List.take_succ_cons, List.take_zero, g0, g1, g2, g3, hp2, hv.frz]
        refine ⟨_, clone32_c hP _ _ _ hv (belL_mi _ _) (by simpa using hl), ?_⟩
        rw [clone_ms hv hl8.1]
        have hfn : findK (.int .u16 i) (esFrom 0 s) = none := es_none (find_none_last h.ok.lt (by omega)) 0
        have hes : esFrom 0 s ++ [(V.int .u16 i, V.agg [.int .u16 i, .int .u8 c, msV l, .nilsl, .int .u8 0], s.length)] = esFrom 0 (s ++ [⟨i, c, l, [], 0⟩]) := by
          rw [es_app, Nat.zero_add]; rfl
        have hp3 : ∀ o, ((W1.put rw (.map ws' cw')).put ra o).get p = some (.row [.map ra, .map rw, .int .i64 (lastId s)]) := fun o => by rw [put_ne h.pra]; exact hp2
        simp (config := { maxSteps := 2000000 }) (disch := omega) only [e_seq, e_reg, e_ret, e_done, e_cons, e_nil, e_plain, evs_nil, evs_cons, ev_t, ev_c, e_putK, e_putd, e_putd0, e_put, e_then, retQ_ret, e_res1, ↓reduceIte, Nat.reduceEqDiff, reduceCtorEq, Option.map_some, frz_int, sem_mov, sem_conv, sem_nilck_ptr, sem_fld_ptr, optK_some, m_store, storeK_row, cells_int, one_int, List.cons_append, List.nil_append, List.append_nil, List.length_cons, List.length_nil, Nat.zero_add, Nat.reduceAdd, Nat.reduceLeDiff, List.drop_succ_cons, List.drop_nil, List.take_succ_cons, List.take_zero, List.all_cons, List.all_nil, Bool.and_self, undef_t, msV_cells, g0, g2, m_mupd ha2 (es_keys h.ok.ok h0 h1 0), hfn, hes, hp3, i64_16 h0 h1]
        have tok : (⟨i, c, l, [], 0⟩ : Tx).ok := ⟨h0, h1, c0, c1, ho, hl8.2, by simp, by simp, by show (0 : Int) ≤ 0 ∧ (0 : Int) < 4; decide⟩
        have hfa : ∀ k v, (k, v) ∈ addsOf l → who s k v = none := by
          intro k v ha
          simp only [freshB, Bool.and_eq_true, List.all_eq_true] at hfr
          have := hfr.2 _ ha
          simpa using this
        have hW' : ∃ W', W' = ((W.put rw (.map ws' cw')).put ra (.map (esFrom 0 (s ++ [⟨i, c, l, [], 0⟩])) (s.length + 1))).put p (.row [.map ra, .map rw, .int .i64 i]) := ⟨_, rfl⟩
        obtain ⟨W', hW'⟩ := hW'
        refine ⟨_, rfl, _, W', .weak (weak_back ?_ rfl fun x hx => ?_), by rw [hW']; exact Nat.le_refl _, by rw [e], ?_, ?_⟩
        · rw [hW']
          exact ok_put (ok_put (ok_put hok h.lw (keysK_bel hk' _)) h.la (es_bel _ _ _)) h.lp (by simp [AObj.bel, V.belL, V.bel]; exact ⟨h.la, h.lw⟩)
        · rw [hW']
          have hx' : x < W.nx := by rw [hW'] at hx; exact hx
          simp only [pu_gets, gE.get x hx']
        · rw [e, hW']
          refine ⟨?_, ?_, ⟨ws', cw', ?_, ws_app hws hk' hfa fun k v => ?_⟩, h.ne, h.lp, h.la, h.lw, app_ok h.ok tok (by show lastId s < i; omega)⟩
          · rw [put_at, last_app]
          · rw [put_ne h.pra.symm, put_at]; simp
          · rw [put_ne h.prw.symm, put_ne h.ne.symm, put_at]
          · rw [hv' k v, mine_in]
        · rw [hW']
          exact ⟨rfl, fun x h1 h2 h3 => by rw [put_ne h1, put_ne h2, put_ne h3]⟩
  · have e : beginR s c i l = (s, 4) := by simp [beginR, hB]
    simp only [e_seq, e_reg, cond_if, e_ret, e_cons, e_nil, e_plain, evs_nil, evs_cons, ev_t, ev_c, e_putK, e_putd, e_put, e_then, e_then_ret, e_blk_ret, retQ_ret, e_res1, ↓reduceIte, Option.map_some, frz_int, sem_mov, sem_neq, if_neg hB, show ((4 : Int) != 0) = true by decide]
    exact ⟨_, rfl, _, W, backX hok rfl, Nat.le_refl _, by rw [e], by rw [e]; exact h, Fr.refl _ _ _ _⟩
end Go.AL.S
set_option maxRecDepth 100000
namespace Go.AL.S
open Go Go.AL Go.Proofs Go.Sort
/- maps.Keys[map[uint16]umpire/txn.Txn,uint16,umpire/txn.Txn] -/
def c35 : AC := (AC.seq (AC.reg [
  ⟨(some 1), .box, [.t 0], none⟩,
  ⟨(some 2), .mov, [.c (.nilfn)], none⟩])
 (AC.seq (AC.reg [
  ⟨(some 3), .mkfn (.func 46) 0, [.t 1], none⟩,
  ⟨(some 2), .mov, [.t 3], none⟩])
 AC.ret))
def r35 : AC × List RT × Nat := (c35, [.tmp 2], 4)
theorem ok35e : compF Tryz.prog Tryz.f35 ⟨false, false, []⟩ = some r35 := by kernel_rfl
/- (*umpire/txn.Store).All -/
def c12 : AC := (AC.seq (AC.reg [
  ⟨(some 1), .box, [.t 0], none⟩,
  ⟨(some 2), .mov, [.c (.nilfn)], none⟩])
 (AC.seq (AC.reg [
  ⟨(some 3), .mkfn (.func 33) 0, [.t 1], none⟩,
  ⟨(some 2), .mov, [.t 3], none⟩])
 AC.ret))
def r12 : AC × List RT × Nat := (c12, [.tmp 2], 4)
theorem ok12e : compF Tryz.prog Tryz.f12 ⟨false, false, []⟩ = some r12 := by kernel_rfl
def c33_0 : AC := (AC.seq (AC.reg [
    ⟨(some 16), .bin .lss, [.t 15, .t 14], none⟩])
   (AC.seq (AC.cond (.t 16)
    AC.skip
    (AC.exit 0))
   (AC.seq (AC.block 1
    (AC.seq (AC.reg [
     ⟨(some 17), .idxp 1, [.t 13, .t 15], none⟩,
     ⟨(some 18), .load false 1, [.t 17], none⟩,
     ⟨(some 4), .mov, [.t 18], none⟩])
    (AC.seq (AC.reg [
     ⟨(some 19), .mov, [.t 0], none⟩,
     ⟨(some 20), .load false 1, [.t 1], none⟩,
     ⟨(some 21), .nilck, [.t 20], none⟩,
     ⟨(some 22), .fld 0, [.t 21], none⟩,
     ⟨(some 23), .load false 1, [.t 22], none⟩,
     ⟨(some 24), .mov, [.t 4], none⟩,
     ⟨(some 25), .lookup (false, [.i .u16]) (.agg [.int .u16 0, .int .u8 0, .nilsl, .nilsl, .int .u8 0]) false, [.t 23, .t 24], none⟩,
     ⟨(some 26), .call 36, [.t 25], none⟩,
     ⟨(some 27), .callv, [.t 19, .t 26], none⟩,
     ⟨(some 28), .un .not, [.t 27], none⟩])
    (AC.cond (.t 28)
     AC.ret
     AC.skip))))
   (AC.reg [
    ⟨(some 29), .bin .add, [.t 15, .c (.int .i64 1)], none⟩,
    ⟨(some 15), .mov, [.t 29], none⟩]))))
/- (*umpire/txn.Store).All$1 -/
def c33 : AC := (AC.seq (AC.seq (AC.reg [
  ⟨(some 5), .load false 1, [.t 1], none⟩,
  ⟨(some 6), .call 30, [.t 5], none⟩,
  ⟨(some 7), .un .not, [.t 6], none⟩])
 (AC.cond (.t 7)
  AC.ret
  AC.skip))
 (AC.seq (AC.reg [
  ⟨(some 8), .load false 1, [.t 1], none⟩,
  ⟨(some 9), .nilck, [.t 8], none⟩,
  ⟨(some 10), .fld 0, [.t 9], none⟩,
  ⟨(some 11), .load false 1, [.t 10], none⟩,
  ⟨(some 12), .call 35, [.t 11], none⟩,
  ⟨(some 13), .call 34, [.t 12], none⟩,
  ⟨(some 14), .len 1 0, [.t 13], none⟩,
  ⟨(some 15), .mov, [.c (.int .i64 0)], none⟩])
 (AC.block 0
  (AC.loop c33_0))))
def r33 : AC × List RT × Nat := (c33, [], 30)
theorem ok33e : compF Tryz.prog Tryz.f33 ⟨false, false, []⟩ = some r33 := by kernel_rfl
/- (*umpire/txn.Store).Count -/
def c20 : AC := (AC.seq (AC.reg [
  ⟨(some 3), .box, [.t 1], none⟩,
  ⟨(some 4), .alloc [.int .i64 0], [], none⟩])
 (AC.seq (AC.seq (AC.reg [
  ⟨(some 6), .mov, [.t 0], none⟩,
  ⟨(some 7), .call 12, [.t 6], none⟩])
 (AC.block 0
  (AC.rangef (.t 7) [8]
   (AC.reg [
    ⟨(some 5), .alloc [.int .u16 0, .int .u8 0, .nilsl, .nilsl, .int .u8 0], [], none⟩,
    ⟨none, .store 5, [.t 5, .t 8], none⟩])
   (AC.block 1
    (AC.seq (AC.reg [
     ⟨(some 9), .fld 4, [.t 5], none⟩,
     ⟨(some 10), .load false 1, [.t 9], none⟩,
     ⟨(some 11), .load false 1, [.t 3], none⟩,
     ⟨(some 12), .bin .eql, [.t 10, .t 11], none⟩])
    (AC.cond (.t 12)
     (AC.reg [
      ⟨(some 13), .load false 1, [.t 4], none⟩,
      ⟨(some 14), .bin .add, [.t 13, .c (.int .i64 1)], none⟩,
      ⟨none, .store 1, [.t 4, .t 14], none⟩])
     AC.skip))))))
 (AC.seq (AC.reg [
  ⟨(some 15), .load false 1, [.t 4], none⟩,
  ⟨none, .store 1, [.t 4, .t 15], none⟩])
 AC.ret)))
def r20 : AC × List RT × Nat := (c20, [.cell 4 false 1], 16)
theorem ok20e : compF Tryz.prog Tryz.f20 ⟨false, false, []⟩ = some r20 := by kernel_rfl
variable {E : Env}
theorem sort_id {l : List Int} (h : l.Pairwise fun a b => a < b) : (sort ltInt l.toArray).toList = l := by
  rw [sortInt]
  have a1 := List.pairwise_mergeSort (le := fun x y : Int => decide (x ≤ y)) (by simp; omega) (by simp; omega) l
  refine (List.mergeSort_perm l _).eq_of_pairwise ?_ a1 (h.imp (fun h => by simp; omega))
  intro x y _ _ h1 h2
  simp at h1 h2; omega
def keyOf (e : En) : Int := match e.1 with
  | .int _ n => n
  | _ => 0
theorem es_key (s : Str) : ∀ n, (esFrom n s).map keyOf = s.map Tx.id := by
  induction s with
  | nil => intro n; rfl
  | cons t s ih => intro n; simp only [esFrom, List.map_cons, ih]; rfl
theorem es_int (s : Str) : ∀ n, ∀ e ∈ esFrom n s, e.1 = .int .u16 (keyOf e) := by
  induction s with
  | nil => intro n e he; simp [esFrom] at he
  | cons t s ih =>
    intro n e he
    rcases List.mem_cons.1 he with rfl | he
    · rfl
    · exact ih _ e he
theorem es_fresh (s : Str) : ∀ n, (∀ e ∈ esFrom n s, n ≤ e.2.2 ∧ e.2.2 < n + s.length) ∧ (stamps (esFrom n s)).Nodup := by
  induction s with
  | nil => intro n; exact ⟨fun _ h => by simp [esFrom] at h, List.nodup_nil⟩
  | cons x l ih =>
    intro n
    obtain ⟨h1, h2⟩ := ih (n + 1)
    refine ⟨fun e he => ?_, ?_⟩
    · rcases List.mem_cons.1 he with rfl | he
      · simp
      · have := h1 e he; simp only [List.length_cons]; omega
    · refine List.nodup_cons.2 ⟨fun h => ?_, h2⟩
      obtain ⟨e, he, h3⟩ := List.mem_map.1 h
      have := h1 e he
      simp only at h3
      omega
theorem ids_lt {s : Str} (h : SOk s) : (s.map Tx.id).Pairwise fun a b => a < b := (List.pairwise_map).2 h.lt
theorem len_ids : ∀ {l : List Int} {a b : Int}, l.Pairwise (fun a b => a < b) → (∀ x ∈ l, a ≤ x ∧ x < b) → l.length ≤ (b - a).toNat
  | [], _, _, _, _ => Nat.zero_le _
  | x :: l, a, b, h, hl => by
    have hp := List.pairwise_cons.1 h
    have hx := hl x (by simp)
    have := len_ids (l := l) (a := x + 1) (b := b) hp.2 fun y hy => ⟨by have := hp.1 y hy; omega, (hl y (by simp [hy])).2⟩
    simp only [List.length_cons]; omega
theorem st_len {s : Str} (h : SOk s) : s.length ≤ 65536 := by
  have := len_ids (a := 0) (b := 65536) (ids_lt h) fun x hx => by
    obtain ⟨t, ht, rfl⟩ := List.mem_map.1 hx
    exact ⟨(h.ok t ht).id0, (h.ok t ht).id1⟩
  simpa using this
theorem keys_c (hP : E.P = Tryz.prog) (W : AW) (m : Nat) : ACalls E 35 [.map m] W fun Y W' => Y = .fn (.func 46) [] [.ptr W.nx 0] ∧ W' = W.alloc (.row [.map m]) := by
  refine ACalls.of hP Tryz.func35 ok35e (by simp) fun _ hok => ?_
  simp only [c35, e_seq, e_reg, e_ret, e_cons, e_nil, e_plain, evs_nil, evs_cons, ev_t, ev_c, argsA_ap, e_putK, e_putd, e_put, e_then, retQ_ret, e_res1, ↓reduceIte, Nat.reduceEqDiff, Option.map_some, List.getElem?_cons_zero, frz_fn, sem_mov, sem_box, sem_mkfn, cells_map, List.drop_zero, List.take_zero, List.take_zero, List.drop_zero]
  exact ⟨_, rfl, _, _, .weak weak_id, by rw [alloc_nx]; omega, rfl, rfl⟩
theorem all_c (hP : E.P = Tryz.prog) (W : AW) (p : Nat) : ACalls E 12 [.ptr p 0] W fun Y W' => Y = .fn (.func 33) [] [.ptr W.nx 0] ∧ W' = W.alloc (.row [.ptr p 0]) := by
  refine ACalls.of hP Tryz.func12 ok12e (by simp) fun _ hok => ?_
  simp only [c12, e_seq, e_reg, e_ret, e_cons, e_nil, e_plain, evs_nil, evs_cons, ev_t, ev_c, argsA_ap, e_putK, e_putd, e_put, e_then, retQ_ret, e_res1, ↓reduceIte, Nat.reduceEqDiff, Option.map_some, List.getElem?_cons_zero, frz_fn, sem_mov, sem_box, sem_mkfn, cells_ptr, List.drop_zero, List.take_zero, List.take_zero, List.drop_zero]
  exact ⟨_, rfl, _, _, .weak weak_id, by rw [alloc_nx]; omega, rfl, rfl⟩
theorem tx_frz {W : AW} (t : Tx) : W.frz t.V = t.V := id rfl
/-- All's function: it hands out each transaction, in order. -/
theorem all_iter (hP : E.P = Tryz.prog) {W : AW} {y q p ra rw : Nat} {s : Str} (hq : W.get q = some (.row [.ptr p 0])) (hqn : q < W.nx) (h : St W p ra rw s) (J : Nat → AW → Prop) (R : AW → Prop)
    (h0 : ∀ W1, Ex W W1 → W.nx < W1.nx → J 0 W1) (hJ : ∀ k W1, J k W1 → Cl W1 ∧ W.nx < W1.nx ∧ W1.get q = W.get q ∧ W1.get p = W.get p ∧ W1.get ra = W.get ra)
    (hR : ∀ W1, R W1 → W.nx ≤ W1.nx) (hmono : ∀ (vs : List V) (W1 : AW) (K K' : V → AW → Prop), (∀ v W', K v W' → K' v W') → E.yield y vs W1 K → E.yield y vs W1 K')
    (hy : ∀ k (hk : k < s.length) W1, J k W1 → E.yield y [s[k].V] W1 (fun Y W2 => (Y = .bool true ∧ J (k + 1) W2) ∨ (Y = .bool false ∧ R W2))) :
    ACalls E 33 [.yld y, .ptr q 0] W fun Y W' => Y = .tuple [] ∧ (J s.length W' ∨ R W') := by
  refine ACalls.of hP Tryz.func33 ok33e (by simp) fun _ hok => ?_
  refine awp_start hok ?_
  have hla := h.la
  have hlp := h.lp
  simp (config := { maxSteps := 2000000 }) (disch := omega) only [c33, e_seq, e_reg, e_cons, e_plain, evs_nil, evs_cons, ev_t, argsA_ap, e_putK, e_putd, e_put, e_then, ↓reduceIte, List.map_cons, List.map_nil, List.getElem?_cons_zero, List.getElem?_cons_succ, frz_ptr, sem_call, X_old, m_load, loadK_f, optK_some, hq]
  refine pc (is_c hP _ (r := [.map rw, .int .i64 (lastId s)]) (by rw [X_old h.lp]; exact h.hp)) ?_
  simp (config := { maxSteps := 2000000 }) (disch := omega) only [e_seq, e_reg, cond_if, e_skip, e_cons, e_nil, e_plain, evs_nil, evs_cons, ev_t, argsA_ap, e_putK, e_putd, e_put, e_then, ↓reduceIte, Nat.reduceEqDiff, List.map_cons, List.map_nil, List.getElem?_cons_zero, List.getElem?_cons_succ, Bool.false_eq_true, frz_map, sem_not, sem_call, sem_nilck_ptr, sem_fld_ptr, X_old, m_load, loadK_f, optK_some, Nat.add_zero, Bool.not_true, hq, h.hp]
  refine (keys_c hP _ ra).mono ?_
  rintro Y W1 ⟨rfl, rfl⟩
  simp (config := { maxSteps := 2000000 }) (disch := omega) only [e_cons, e_plain, evs_nil, evs_cons, ev_t, e_putK, e_putd, e_put, ↓reduceIte, List.map_cons, List.map_nil, frz_fn, sem_call, X_alloc, X_nx, List.nil_append, List.length_nil]
  have hes := es_fresh s 0
  have hpb : (X W W.nx [.row [.map ra]]).get (rf W.nx 0) = some (.row [.map ra]) := by rw [X_get]; rfl
  refine pc (sorted_c hP keyOf hpb (by rw [X_old h.la]; exact h.ha) ⟨hes.2, fun e he => by have := (hes.1 e he).2; omega⟩ (by simp [X, rf]) (by simp [X]; omega) (es_int s 0) (by rw [es_len]; have := st_len h.ok; omega)) ?_
  rw [es_key]
  have hsv : isS 1 (sortedV (s.map Tx.id)) (intsV (s.map Tx.id)) := by
    unfold sortedV
    split
    · rename_i h0; rw [h0]; exact .nil
    · rw [sort_id (ids_lt h.ok)]; exact .mk
  simp only [e_block, e_cons, e_nil, e_plain, evs_nil, evs_cons, ev_t, ev_c, e_putK, e_putd, e_put, ↓reduceIte, sem_mov, hsv.len, ints_len, List.length_map]
  rw [e_loop]
  refine ALoop.go (B := awp E _) (fun h => awp_mono _ h) (fun (k : Nat) A1 W1 => A1 0 = some (.yld y) ∧ A1 1 = some (.ptr q 0) ∧ A1 13 = some (sortedV (s.map Tx.id)) ∧ A1 14 = some (.int .i64 s.length) ∧ A1 15 = some (.int .i64 k) ∧ k ≤ s.length ∧ J k W1) (fun k => s.length - k) 0
    ⟨rfl, rfl, rfl, rfl, rfl, Nat.zero_le _, h0 _ Ex.x0 (by simp [X])⟩ ?_
  rintro k A1 W1 ⟨g0, g1, g13, g14, g15, gk, gJ⟩ _
  obtain ⟨j0, j1, j2, j3, j4⟩ := hJ _ _ gJ
  rw [hq] at j2
  rw [h.hp] at j3
  rw [h.ha] at j4
  by_cases hk1 : k < s.length
  · have hsl := st_len h.ok
    have hto := h.ok.ok s[k] (List.getElem_mem hk1)
    have hat : (intsV (s.map Tx.id))[k]? = some (.int .u16 s[k].id) := by
      rw [int_at (by simpa using hk1)]; simp
    simp (config := { maxSteps := 2000000 }) (disch := omega) only [c33_0, e_seq, e_reg, cond_if, e_block, e_skip, e_cons, e_nil, e_plain, evs_nil, evs_cons, ev_t, e_putK, e_putd, e_put, e_then, ↓reduceIte, Nat.reduceEqDiff, reduceCtorEq, List.map_cons, List.map_nil, List.getElem?_cons_zero, Bool.false_eq_true, sem_mov, sem_lss, sem_call, sem_nilck_ptr, sem_fld_ptr, X_nx, m_load, loadK_f, optK_some, m_loadcf, cells_int, List.length_cons, List.length_nil, Nat.zero_add, Nat.add_zero, g0, g1, g13, g14, g15, clt, hk1, decide_true, hsv.idx hat, j2, j3, m_lookup j4 (es_keys h.ok.ok hto.id0 hto.id1 0), lookK_all, find_self h.ok.lt (List.getElem_mem hk1), tx_frz]
    refine pc (own_c hP _ hto) ?_
    simp only [e_cons, e_plain, evs_nil, evs_cons, ev_t, e_putK, e_putd, e_put, ↓reduceIte, Nat.reduceEqDiff, List.map_cons, List.map_nil, sem_yield, tx_frz]
    refine hmono _ _ _ _ ?_ (hy k hk1 W1 gJ)
    rintro Y W2 (⟨rfl, g⟩ | ⟨rfl, g⟩)
    · have g' := (hJ _ _ g).2.1
      simp (config := { maxSteps := 2000000 }) (disch := omega) only [e_reg, cond_if, e_skip, e_cons, e_nil, e_plain, evs_nil, evs_cons, ev_t, ev_c, e_putK, e_putd, e_put, e_then, e_blk, ↓reduceIte, Nat.reduceEqDiff, reduceCtorEq, Bool.false_eq_true, sem_mov, sem_add, sem_not, Bool.not_true, g0, g1, g13, g14, g15, wadd1]
      exact ⟨k + 1, ⟨(by first | trivial | rfl | omega), (by first | trivial | rfl | omega), (by first | trivial | rfl | omega), (by first | trivial | rfl | omega), (by first | trivial | rfl | omega), (by first | trivial | rfl | omega), g⟩, by omega, (by first | omega | (simp only [rf]; omega) | (simp only [rf, X, List.length_cons, List.length_nil, Nat.zero_add]; omega) | (simp [rf, X]; omega))⟩
    · simp (config := { maxSteps := 2000000 }) (disch := omega) only [cond_if, e_ret, e_cons, e_nil, e_plain, evs_nil, evs_cons, ev_t, e_putK, e_putd, e_put, e_then_ret, e_blk_ret, retQ_ret, e_res0, ↓reduceIte, sem_not, Bool.not_false]
      exact ⟨_, rfl, _, _, .weak weak_id, hR _ g, rfl, .inr g⟩
  · obtain rfl : k = s.length := by omega
    simp (config := { maxSteps := 2000000 }) (disch := omega) only [c33_0, e_seq, e_reg, cond_if, e_exit, e_cons, e_nil, e_plain, evs_nil, evs_cons, ev_t, e_putK, e_putd, e_put, e_then, e_then_exit, e_blk_exit, retQ_normal, e_res0, ↓reduceIte, Bool.false_eq_true, sem_lss, X_nx, List.length_cons, List.length_nil, Nat.zero_add, g14, g15, clt, hk1, decide_false]
    exact ⟨_, rfl, _, _, .weak weak_id, Nat.le_of_lt j1, rfl, .inl gJ⟩
end Go.AL.S
set_option maxRecDepth 100000
namespace Go.AL.S
open Go Go.AL Go.Proofs
variable {E : Env}
/-- A round over a store's transactions. -/
theorem range_all (hP : E.P = Tryz.prog) {W0 : AW} {A : AFr} {q p ra rw pv : Nat} {s : Str} {g : AX} {asg body : AC} {Q : Exit → AFr → AW → Prop} (hg : g.ev E A = some (.fn (.func 33) [] [.ptr q 0])) (hq : W0.get q = some (.row [.ptr p 0])) (hqn : q < W0.nx) (hC : Cl W0) (h : St W0 p ra rw s)
    (J : Nat → AW → Prop) (h0 : ∀ W1, Ex W0 W1 → J 0 W1) (hJ : ∀ k W1, J k W1 → Cl W1 ∧ W1.get q = W0.get q ∧ W1.get p = W0.get p ∧ W1.get ra = W0.get ra)
    (hb : ∀ k (hk : k < s.length) W1, J k W1 → W1.get W0.nx = some (.loop .ready none) → W0.nx + 1 < W1.nx →
      awp E asg (thenQ (fun A1 W2 => W2.get W0.nx = some (.loop .ready none) ∧ awp E body (fun e _ W3 => e = .normal ∧ W3.get W0.nx = some (.loop .busy none) ∧ W0.nx + 1 < W3.nx ∧ J (k + 1) (W3.put W0.nx (.loop .ready none))) A1 (W2.put W0.nx (.loop .busy none))) (fun _ _ _ => False)) (A.put pv s[k].V) W1)
    (hQ : ∀ W1, J s.length W1 → W1.get W0.nx = some (.loop .ready none) → W0.nx + 1 < W1.nx → Q .normal A (W1.put W0.nx (.loop .exhausted none))) : awp E (.rangef g [pv] asg body) Q A W0 := by
  rw [awp_rangef', hg]
  intro E' eP eG ey _
  have hP' : E'.P = Tryz.prog := eP.trans hP
  have hE : Ex W0 (W0.alloc (.loop .ready none)) := ⟨fun r hr => by rw [alloc_nx] at hr; rw [al_gets, if_neg (by omega)]; exact hC r (by omega), by rw [alloc_nx]; omega, fun x hx => alloc_lt hx⟩
  simp only [List.map_cons, List.map_nil, frz_ptr]
  refine (all_iter (E := E') hP' (y := W0.nx) (q := q) (by rw [alloc_lt hqn]; exact hq) (by rw [alloc_nx]; omega) (h.ex hE) (fun k W1 => J k W1 ∧ W1.get W0.nx = some (.loop .ready none) ∧ W0.nx + 1 < W1.nx) (fun _ => False) ?_ ?_ (fun _ h => h.elim) (fun vs W1 K K' hk hy => E'.yieldMono _ _ _ _ _ hk hy) ?_).mono ?_
  · intro W1 hE1 hn
    rw [alloc_nx] at hn
    refine ⟨h0 _ (hE.trans hE1), ?_, hn⟩
    rw [hE1.get _ (by rw [alloc_nx]; omega), alloc_at]
  · rintro k W1 ⟨g1, g2, g3⟩
    obtain ⟨j0, j1, j2, j3⟩ := hJ _ _ g1
    have hla := h.la
    have hlp := h.lp
    refine ⟨j0, by rw [alloc_nx]; exact g3, ?_, ?_, ?_⟩
    · rw [j1, alloc_lt hqn]
    · rw [j2, alloc_lt hlp]
    · rw [j3, alloc_lt hla]
  · rintro k hk W1 ⟨g1, g2, g3⟩
    refine ey _ _ _ ⟨g2, rfl, ?_⟩
    refine awp_mono _ ?_ (hb k hk W1 g1 g2 g3)
    intro e A1 W2 hh
    cases e with
    | normal =>
      refine ⟨hh.1, awp_mono _ ?_ hh.2⟩
      rintro e A3 W3 ⟨rfl, h2, h3, h4⟩
      exact ⟨h2, .inl ⟨rfl, h4, put_at, h3⟩⟩
    | _ => exact hh
  · rintro Y W1 ⟨_, ⟨g1, g2, g3⟩ | g⟩
    · simp only [doneQ, g2]
      exact hQ _ g1 g2 g3
    · exact g.elim
def countB (s : Str) (st : Int) : Nat := (s.filter fun t => decide (t.st = st)).length
theorem count_take {s : Str} {st : Int} {k : Nat} (h : k < s.length) : countB (s.take (k + 1)) st = countB (s.take k) st + (if s[k].st = st then 1 else 0) := by
  rw [List.take_add_one, List.getElem?_eq_getElem h]
  simp only [countB, Option.toList_some, List.filter_append, List.length_append]
  by_cases hr : s[k].st = st <;> simp [hr]
theorem count_le (s : Str) (st : Int) : countB s st ≤ s.length := List.length_filter_le _ _
theorem count_c (hP : E.P = Tryz.prog) (W : AW) {p ra rw : Nat} {s : Str} (h : St W p ra rw s) (st : Int) :
    ACalls E 20 [.ptr p 0, .int .u8 st] W fun Y W' => Y = .int .i64 (countB s st) ∧ W' = W := by
  refine ACalls.of hP Tryz.func20 ok20e (by simp) fun _ hok => ?_
  refine awp_start hok ?_
  have hla := h.la
  have hlp := h.lp
  have hlw := h.lw
  have hsl := st_len h.ok
  simp only [c20, e_seq, e_reg, e_cons, e_nil, e_plain, evs_nil, evs_cons, ev_t, argsA_ap, e_putK, e_putd, e_put, e_then, ↓reduceIte, reduceCtorEq, List.map_cons, List.map_nil, List.getElem?_cons_zero, List.getElem?_cons_succ, frz_ptr, sem_mov, sem_call, sem_alloc, sem_box, X_alloc, X_nx, cells_int, List.cons_append, List.nil_append, List.length_cons, List.length_nil, Nat.zero_add]
  refine (all_c hP _ p).mono ?_
  rintro Y W1 ⟨rfl, rfl⟩
  simp only [e_block, e_nil, e_putK, e_putd, X_alloc, X_nx, List.cons_append, List.nil_append, List.length_cons, List.length_nil, Nat.zero_add, Nat.reduceAdd]
  obtain ⟨W0, hW0⟩ : ∃ W0, W0 = X W W.nx [.row [.int .u8 st], .row [.int .i64 0], .row [.ptr p 0]] := ⟨_, rfl⟩
  rw [← hW0]
  have hn0 : W0.nx = W.nx + 3 := by rw [hW0]; rfl
  have hE0 : Ex W W0 := by rw [hW0]; exact .x0
  have hs0 : W0.get (W.nx + 0) = some (.row [.int .u8 st]) := by rw [hW0]; exact X_get (k := 0)
  have hc0 : W0.get (W.nx + 1) = some (.row [.int .i64 0]) := by rw [hW0]; exact X_get (k := 1)
  have hq0 : W0.get (W.nx + 2) = some (.row [.ptr p 0]) := by rw [hW0]; exact X_get (k := 2)
  refine range_all hP (q := W.nx + 2) (s := s) rfl hq0 (by omega) hE0.cl (h.ex hE0) (fun k W1 => Cl W1 ∧ W1.get (W.nx + 1) = some (.row [.int .i64 (countB (s.take k) st)]) ∧ ∀ x, x < W.nx + 3 → x ≠ W.nx + 1 → W1.get x = W0.get x) ?_ ?_ ?_ ?_
  · intro W1 hE1
    exact ⟨hE1.cl, by rw [hE1.get _ (by omega)]; exact hc0, fun x hx _ => hE1.get x (by omega)⟩
  · rintro k W1 ⟨j0, j1, j2⟩
    exact ⟨j0, j2 _ (by omega) (by omega), j2 _ (by omega) (by omega), j2 _ (by omega) (by omega)⟩
  · rintro k hk W1 ⟨j0, j1, j2⟩ hl hn
    have hct := count_take (st := st) hk
    have hcl := count_le (s.take k) st
    have hcl' : (s.take k).length ≤ k := by simp; omega
    have hs1 := (j2 (W.nx + 0) (by omega) (by omega)).trans hs0
    have r0 : rf W.nx 0 = W.nx + 0 := rfl
    have r1 : rf W.nx 1 = W.nx + 1 := rfl
    rw [← r1] at j1
    rw [← r0] at hs1
    have hst : ((s[k].st : Int) == st) = decide (s[k].st = st) := cmpeq
    refine awp_startC j0 ?_
    by_cases hc : s[k].st = st
    · simp (config := { maxSteps := 2000000 }) (disch := omega) only [e_seq, e_reg, cond_if, e_block, e_cons, e_nil, e_plain, evs_nil, evs_cons, ev_t, ev_c, e_putK, e_putd, e_putd0, e_put, e_then, e_blk, ↓reduceIte, Nat.reduceEqDiff, List.getElem?_cons_zero, List.getElem?_cons_succ, sem_add, sem_eql, sem_alloc, sem_fld_ptr, X_alloc, X_nx, X_get, X_put1, X_old, X_putold, m_load, loadK_f, optK_some, m_store, storeK_row, cells_int, cells_agg, one_int, List.nil_append, List.append_nil, List.length_cons, List.length_nil, Nat.zero_add, Nat.reduceAdd, Nat.reduceLeDiff, Nat.reduceLT, List.set_cons_zero, List.drop_succ_cons, List.drop_nil, List.take_zero, List.all_cons, List.all_nil, Bool.and_self, undef_t, msV_one, lsV_one, Tx.V, hs1, hst, decide_eq_true hc, put_at, put_ne, j1, hl, wadd1]
      rw [hct, if_pos hc]
      refine ⟨trivial, trivial, trivial, (by first | omega | (simp only [rf]; omega) | (simp only [rf, X, List.length_cons, List.length_nil, Nat.zero_add]; omega) | (simp [rf, X]; omega)), Cl.X, ?_, fun x hx hx1 => ?_⟩
      · rw [← r1]; simp (config := { maxSteps := 2000000 }) (disch := omega) only [put_at]
      · (try simp (config := { maxSteps := 2000000 }) (disch := omega) only [X_old, put_ne]); exact j2 x hx hx1
    · simp (config := { maxSteps := 2000000 }) (disch := omega) only [e_seq, e_reg, cond_if, e_block, e_skip, e_cons, e_nil, e_plain, evs_nil, evs_cons, ev_t, e_putK, e_putd, e_putd0, e_put, e_then, e_blk, ↓reduceIte, Nat.reduceEqDiff, List.getElem?_cons_zero, List.getElem?_cons_succ, Bool.false_eq_true, sem_eql, sem_alloc, sem_fld_ptr, X_alloc, X_nx, X_get, X_put1, X_old, X_putold, m_load, loadK_f, optK_some, m_store, storeK_row, cells_agg, one_int, List.nil_append, List.append_nil, List.length_cons, List.length_nil, Nat.zero_add, Nat.reduceAdd, Nat.reduceLeDiff, Nat.reduceLT, List.set_cons_zero, List.drop_succ_cons, List.drop_nil, List.take_zero, List.all_cons, List.all_nil, Bool.and_self, undef_t, msV_one, lsV_one, Tx.V, hs1, hst, decide_eq_false hc, put_at, put_ne, hl]
      rw [hct, if_neg hc, Nat.add_zero]
      refine ⟨trivial, trivial, trivial, (by first | omega | (simp only [rf]; omega) | (simp only [rf, X, List.length_cons, List.length_nil, Nat.zero_add]; omega) | (simp [rf, X]; omega)), Cl.X, ?_, fun x hx hx1 => ?_⟩
      · rw [← r1]; (try simp (config := { maxSteps := 2000000 }) (disch := omega) only [X_old, put_ne, put_at]); exact j1
      · (try simp (config := { maxSteps := 2000000 }) (disch := omega) only [X_old, put_ne]); exact j2 x hx hx1
  · rintro W1 ⟨j0, j1, j2⟩ hl hn
    rw [List.take_length] at j1
    have r1 : rf W.nx 1 = W.nx + 1 := rfl
    rw [← r1] at j1
    simp (config := { maxSteps := 2000000 }) (disch := omega) only [e_seq, e_reg, e_ret, e_cons, e_nil, e_plain, evs_nil, evs_cons, ev_t, e_putK, e_putd, e_putd0, e_put, e_then, e_blk, retQ_ret, ↓reduceIte, Nat.reduceEqDiff, Option.map_some, List.getElem?_cons_zero, frz_int, m_load, loadK_f, optK_some, partV_f, m_store, storeK_row, cells_int, one_int, List.nil_append, List.append_nil, List.length_cons, List.length_nil, Nat.zero_add, Nat.reduceLeDiff, List.drop_succ_cons, List.drop_nil, List.take_zero, List.all_cons, List.all_nil, Bool.and_self, undef_t, e_resc, rt_cell, rsem_load, cellV_row, partV_f, put_ne, put_at, j1]
    refine ⟨_, rfl, _, W, .weak (weak_back hok rfl fun x hx => ?_), Nat.le_refl _, rfl, rfl⟩
    rw [put_ne (by omega), put_ne (by omega), j2 x (by omega) (by omega)]
    exact hE0.get x hx
end Go.AL.S
