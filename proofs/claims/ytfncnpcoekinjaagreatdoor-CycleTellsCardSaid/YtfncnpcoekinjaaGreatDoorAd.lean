/- Rules for proofs that go through code. Conditions: none. -/
import Derived.Test.YtfncnpcoekinjaaGreatDoorAc
open Nat renaming reduceEqDiff → nE, reduceLeDiff → nL, reduceAdd → nA, reduceLT → nT, le_refl → lr
open List renaming getElem?_eq_getElem → gEg, length_map → lmp, getElem_mem → gmm, length_append → lap, length_cons → lcs, mem_singleton → msg, append_nil → apn, mem_append → map', take_length → tkl, map_cons → mcs, map_append → mpp, mem_map → mmp, any_eq_true → aet, length_replicate → lrp, take_add_one → tao, length_take → ltk, mem_filter → mfl
namespace Go.AL
def Term (B : (Exit → AFr → AW → Prop) → AFr → AW → Prop) (Q : Exit → AFr → AW → Prop) (lo : Nat) : Nat → AFr → AW → Prop
 | 0 => fun _ _ => False
 | n + 1 => B (thenQ (fun A' W' => Term B Q lo n A' W' ∧ lo ≤ W'.nx) Q)
theorem exists_least (p : Nat → Prop) (h : ∃ n, p n) : ∃ n, p n ∧ ∀ m, p m → n ≤ m := by
 obtain ⟨n, hn⟩ := h
 induction n using Nat.strongRecOn with
 | _ n ih =>
  by_cases hx : ∃ m, m < n ∧ p m
  ·obtain ⟨m, h1, h2⟩ := hx
   exact ih m h1 h2
  ·refine ⟨n, hn, fun m hm => ?_⟩
   by_cases hlt : m < n
   ·exact absurd ⟨m, hlt, hm⟩ hx
   ·omega
theorem Term.loop {B : (Exit → AFr → AW → Prop) → AFr → AW → Prop} (hB : ∀ {Q Q' : Exit → AFr → AW → Prop} {A W}, (∀ e A W, Q e A W → Q' e A W) → B Q A W → B Q' A W) {Q : Exit → AFr → AW → Prop} {n : Nat} {A : AFr} {W : AW} (h : Term B Q W.nx n A W) : ALoop B Q A W := by
 classical
 refine ⟨fun A1 W1 => ∃ n, Term B Q W.nx n A1 W1, fun A1 W1 => if h : ∃ n, Term B Q W.nx n A1 W1 then Classical.choose (exists_least _ h) else 0, ⟨A, W, .refl (lr _), n, h⟩, ?_⟩
 rintro A1 W1 ⟨m, hm⟩ hn
 have hex : ∃ n, Term B Q W.nx n A1 W1 := ⟨m, hm⟩
 obtain ⟨hspec, _⟩ := Classical.choose_spec (exists_least _ hex)
 obtain ⟨k, hk⟩ : ∃ k, Classical.choose (exists_least _ hex) = k + 1 := by
  cases hf : Classical.choose (exists_least _ hex) with
  | zero => rw [hf] at hspec; exact hspec.elim
  | succ k => exact ⟨k, rfl⟩
 rw [hk] at hspec
 refine hB ?_ hspec
 intro e A' W' hq
 cases e with
 | normal =>
  obtain ⟨q1, q2⟩ := hq
  have hex' : ∃ n, Term B Q W.nx n A' W' := ⟨k, q1⟩
  refine ⟨A', W', .refl q2, hex', ?_⟩
  simp only [dif_pos hex', dif_pos hex, hk]
  have := (Classical.choose_spec (exists_least _ hex')).2 k q1
  omega
 | _ => exact hq
def AW.empty : AW := ⟨fun _ => none, 0⟩
end Go.AL
namespace Go.AL
section
variable {E : Env} {W : AW} {K : V → AW → Prop}
theorem argsA_ap (vs : List V) (i : Nat) : argsA vs i = vs[i]? := id rfl
theorem evs_nil {A : AFr} : evs E A [] = some [] := id rfl
theorem evs_cons {A : AFr} (x : AX) (xs : List AX) : evs E A (x :: xs) = (match x.ev E A, evs E A xs with
  | some v, some vs => some (v :: vs)
  | _, _ => none) := id rfl
theorem ev_t {A : AFr} (n : Nat) : AX.ev E A (.t n) = A n := id rfl
theorem ev_c {A : AFr} (v : V) : AX.ev E A (.c v) = some v := id rfl
theorem ev_f {A : AFr} (f : FuncId) : AX.ev E A (.f f) = some (.fn (.func f) [] []) := id rfl
theorem sem_mov (x : V) : sem E .mov [x] W K = K x W := id rfl
theorem sem_pick (c : Bool) (a b : V) : sem E .pick [.bool c, a, b] W K = K (if c then a else b) W := id rfl
theorem sem_add (k : IntKind) (a b : Int) : sem E (.bin .add) [.int k a, .int k b] W K = K (.int k (k.wrap (a + b))) W := by simp [sem, rsem, tsem, binI]
theorem sem_sub (k : IntKind) (a b : Int) : sem E (.bin .sub) [.int k a, .int k b] W K = K (.int k (k.wrap (a - b))) W := by simp [sem, rsem, tsem, binI]
theorem sem_mul (k : IntKind) (a b : Int) : sem E (.bin .mul) [.int k a, .int k b] W K = K (.int k (k.wrap (a * b))) W := by simp [sem, rsem, tsem, binI]
theorem sem_lss (k : IntKind) (a b : Int) : sem E (.bin .lss) [.int k a, .int k b] W K = K (.bool (decide (a < b))) W := by simp [sem, rsem, tsem, binI, cmpI]
theorem sem_leq (k : IntKind) (a b : Int) : sem E (.bin .leq) [.int k a, .int k b] W K = K (.bool (decide (a ≤ b))) W := by simp [sem, rsem, tsem, binI, cmpI]
theorem sem_gtr (k : IntKind) (a b : Int) : sem E (.bin .gtr) [.int k a, .int k b] W K = K (.bool (decide (a > b))) W := by simp [sem, rsem, tsem, binI, cmpI]
theorem sem_geq (k : IntKind) (a b : Int) : sem E (.bin .geq) [.int k a, .int k b] W K = K (.bool (decide (a ≥ b))) W := by simp [sem, rsem, tsem, binI, cmpI]
theorem sem_eql (k : IntKind) (a b : Int) : sem E (.bin .eql) [.int k a, .int k b] W K = K (.bool (a == b)) W := by simp [sem, rsem, tsem, binI, cmpI]
theorem sem_neq (k : IntKind) (a b : Int) : sem E (.bin .neq) [.int k a, .int k b] W K = K (.bool (a != b)) W := by simp [sem, rsem, tsem, binI, cmpI]
theorem sem_not (b : Bool) : sem E (.un .not) [.bool b] W K = K (.bool !b) W := id rfl
theorem sem_neg (k : IntKind) (n : Int) : sem E (.un .neg) [.int k n] W K = K (.int k (k.wrap (0 - n))) W := id rfl
theorem sem_conv (k j : IntKind) (n : Int) : sem E (.conv k) [.int j n] W K = K (.int k (k.wrap n)) W := id rfl
theorem sem_ext0 (v : V) (vs : List V) : sem E (.ext 0) [.tuple (v :: vs)] W K = K v W := id rfl
theorem sem_ext1 (u v : V) (vs : List V) : sem E (.ext 1) [.tuple (u :: v :: vs)] W K = K v W := id rfl
theorem sem_call (f : FuncId) (vs : List V) : sem E (.call f) vs W K = ACalls E f (vs.map W.frz) W K := id rfl
theorem sem_callv (f : FuncId) (first cap vs : List V) : sem E .callv (.fn (.func f) first cap :: vs) W K = ACalls E f ((first ++ vs ++ cap).map W.frz) W K := id rfl
theorem sem_yield (r : Nat) (vs : List V) : sem E .callv (.yld r :: vs) W K = E.yield r (vs.map W.frz) W K := id rfl
theorem sem_alloc (z : List V) : sem E (.alloc z) [] W K = K (.ptr W.nx 0) (W.alloc (.row z)) := id rfl
theorem sem_box (x : V) : sem E .box [x] W K = K (.ptr W.nx 0) (W.alloc (.row x.cells)) := id rfl
theorem sem_mkmap : sem E .mkmap [] W K = K (.map W.nx) (W.alloc (.map [] 0)) := id rfl
theorem sem_mkfn (f : Fn) (n : Nat) (xs : List V) : sem E (.mkfn f n) xs W K = K (.fn f (xs.take n) (xs.drop n)) W := id rfl
theorem sem_nilck_ptr (r o : Nat) : sem E .nilck [.ptr r o] W K = K (.ptr r o) W := id rfl
theorem sem_nilck_fn (f : FuncId) (a b : List V) : sem E .nilck [.fn (.func f) a b] W K = K (.fn (.func f) a b) W := id rfl
theorem sem_fld_ptr (off r o : Nat) : sem E (.fld off) [.ptr r o] W K = K (.ptr r (o + off)) W := id rfl
theorem sem_fld_vptr (off r o : Nat) : sem E (.fld off) [.vptr r o] W K = K (.vptr r (o + off)) W := id rfl
theorem sem_load_row {g : Bool} {s r off : Nat} {cells : List V} {v : V} (hg : W.get r = some (.row cells)) (h : partV cells off s g = some v) : sem E (.load g s) [.ptr r off] W K = K v W := by simp [sem, rsem, hg, h]
theorem sem_load_vec {g : Bool} {s s' r off : Nat} {cells : List V} {v : V} (hg : W.get r = some (.vec s' cells)) (h : partV cells off s g = some v) : sem E (.load g s) [.vptr r off] W K = K v W := by simp [sem, rsem, hg, h]
theorem sem_store_row {s r off : Nat} {x : V} {cells : List V} (hg : W.get r = some (.row cells)) (h1 : x.cells.length = s) (h2 : x.cells.all V.one = true) (h3 : off + s ≤ cells.length) :
  sem E (.store s) [.ptr r off, x] W K = K .undef (W.put r (.row (cells.take off ++ x.cells ++ cells.drop (off + s)))) := by
 simp only [sem, hg]
 exact propext ⟨fun h => h.2.2.2, fun h => ⟨h1, h2, h3, h⟩⟩
theorem sem_store_vec {s s' r off : Nat} {x : V} {cells : List V} (hg : W.get r = some (.vec s' cells)) (h1 : x.cells.length = s) (h2 : x.cells.all V.one = true) (h3 : off + s ≤ cells.length) :
  sem E (.store s) [.vptr r off, x] W K = K .undef (W.put r (.vec s' (cells.take off ++ x.cells ++ cells.drop (off + s)))) := by
 simp only [sem, hg]
 exact propext ⟨fun h => h.2.2.2, fun h => ⟨h1, h2, h3, h⟩⟩
theorem sem_idxp_slr {s r k len : Nat} {kk : IntKind} {i : Int} (h0 : 0 ≤ i) (h1 : i < len) : sem E (.idxp s) [.slr r k len s, .int kk i] W K = K (.vptr r ((k + i.toNat) * s)) W := by simp [sem, rsem, tsem, h0, h1]
theorem sem_idxp_sl {s : Nat} {f : Bool} {xs : List V} {kk : IntKind} {i : Int} {x : V} (h0 : 0 ≤ i) (h1 : xs[i.toNat]? = some x) : sem E (.idxp s) [.sl s f xs, .int kk i] W K = K (.cptr x.cells) W := by simp [sem, rsem, tsem, h0, h1]
theorem sem_len_nil (n : Nat) : sem E (.len 1 n) [.nilsl] W K = K (.int .i64 0) W := id rfl
theorem sem_len_sl (n s : Nat) (f : Bool) (xs : List V) : sem E (.len 1 n) [.sl s f xs] W K = K (.int .i64 xs.length) W := id rfl
theorem sem_len_slr (n r k l s : Nat) : sem E (.len 1 n) [.slr r k l s] W K = K (.int .i64 l) W := id rfl
theorem frz_int {k : IntKind} {n : Int} : W.frz (.int k n) = .int k n := id rfl
theorem frz_bool {b : Bool} : W.frz (.bool b) = .bool b := id rfl
theorem frz_slr {r k l s : Nat} : W.frz (.slr r k l s) = .slr r k l s := id rfl
theorem frz_sl {s : Nat} {f : Bool} {xs : List V} : W.frz (.sl s f xs) = .sl s f xs := id rfl
theorem frz_nilsl : W.frz .nilsl = .nilsl := id rfl
theorem frz_ptr {r o : Nat} : W.frz (.ptr r o) = .ptr r o := id rfl
theorem frz_fn {f : Fn} {a b : List V} : W.frz (.fn f a b) = .fn f a b := id rfl
theorem frz_map {r : Nat} : W.frz (.map r) = .map r := id rfl
theorem frz_tuple {vs : List V} : W.frz (.tuple vs) = .tuple vs := id rfl
theorem frz_agg {vs : List V} : W.frz (.agg vs) = .agg vs := id rfl
theorem frz_yld {r : Nat} : W.frz (.yld r) = .yld r := id rfl
theorem frz_str {s : ByteArray} : W.frz (.str s) = .str s := id rfl
theorem weak_id {X : V} : WeakV X W W := ⟨.inl rfl, fun _ _ h => h, .inl rfl, .inl rfl⟩
theorem awp_rangef' {Q : Exit → AFr → AW → Prop} {A : AFr} (g : AX) (ps : List Nat) (asg body : AC) : awp E (.rangef g ps asg body) Q A W = (match g.ev E A with
  | some (.fn (.func gf) [] cap) => ∀ E' : Env, E'.P = E.P → E'.glob = E.glob →
    (∀ vs W1 K, roundY W.nx ps A (awp E asg) (awp E body) vs W1 K → E'.yield W.nx vs W1 K) → (∀ r vs W1 K, r ≠ W.nx → E.yield r vs W1 K → E'.yield r vs W1 K) →
    ACalls E' gf (.yld W.nx :: cap.map W.frz) (W.alloc (.loop .ready none)) (fun _ W' => doneQ W.nx Q A W')
  | _ => False) := id rfl
theorem guard_if {E : Env} {A : AFr} {W : AW} {Kf : AFr → AW → Prop} (d : Option Nat) (k : AK) (xs : List AX) (t : Nat) (b : Bool) : exec1 E ⟨d, k, xs, some (t, b)⟩ Kf A W = (match A t with
  | some (.bool c) => if c = b then (match evs E A xs with
   | some vs => sem E k vs W (putK d A Kf)
   | none => False) else Kf (A.putd d .undef) W
  | some (.tuple []) => Kf (A.putd d .undef) W
  | _ => False) := by
 rw [exec1_guard]
 cases h : A t with
 | none => rfl
 | some v =>
  cases v
  case bool c => cases c <;> cases b <;> (simp; try rfl)
  case tuple vs => cases vs <;> rfl
  all_goals rfl
theorem cond_if {E : Env} {A : AFr} {W : AW} {Q : Exit → AFr → AW → Prop} (c : AX) (x y : AC) : awp E (.cond c x y) Q A W = (match c.ev E A with
  | some (.bool t) => if t = true then awp E x Q A W else awp E y Q A W
  | _ => False) := by
 rw [awp_cond]
 cases h : c.ev E A with
 | none => rfl
 | some v =>
  cases v
  case bool t => cases t <;> simp
  all_goals rfl
theorem e_skip {E : Env} {A : AFr} {W : AW} {Q : Exit → AFr → AW → Prop} : awp E .skip Q A W = Q .normal A W := id rfl
theorem e_reg {E : Env} {A : AFr} {W : AW} {Q : Exit → AFr → AW → Prop} (ops : List AOp) : awp E (.reg ops) Q A W = execL E ops (Q .normal) A W := id rfl
theorem e_seq {E : Env} {A : AFr} {W : AW} {Q : Exit → AFr → AW → Prop} (a b : AC) : awp E (.seq a b) Q A W = awp E a (thenQ (awp E b Q) Q) A W := id rfl
theorem e_block {E : Env} {A : AFr} {W : AW} {Q : Exit → AFr → AW → Prop} (i : Nat) (c : AC) : awp E (.block i c) Q A W = awp E c (blockQ i Q) A W := id rfl
theorem e_exit {E : Env} {A : AFr} {W : AW} {Q : Exit → AFr → AW → Prop} (i : Nat) : awp E (.exit i) Q A W = Q (.exit i) A W := id rfl
theorem e_ret {E : Env} {A : AFr} {W : AW} {Q : Exit → AFr → AW → Prop} : awp E .ret Q A W = Q .ret A W := id rfl
theorem e_loop {E : Env} {A : AFr} {W : AW} {Q : Exit → AFr → AW → Prop} (c : AC) : awp E (.loop c) Q A W = ALoop (awp E c) Q A W := id rfl
theorem e_par {E : Env} {A : AFr} {W : AW} {Q : Exit → AFr → AW → Prop} (t : PT) : awp E (.par t) Q A W = aT E t (Q .normal) A W := id rfl
theorem e_done {E : Env} {A : AFr} {W : AW} {Kf : AFr → AW → Prop} : aT E .done Kf A W = Kf A W := id rfl
theorem e_step {E : Env} {A : AFr} {W : AW} {Kf : AFr → AW → Prop} (i : Nat) (x : AOp) (t : PT) : aT E (.step i x t) Kf A W = exec1 E x (aT E t Kf) A W := id rfl
theorem e_nil {E : Env} {A : AFr} {W : AW} {Kf : AFr → AW → Prop} : execL E [] Kf A W = Kf A W := id rfl
theorem e_cons {E : Env} {A : AFr} {W : AW} {Kf : AFr → AW → Prop} (o : AOp) (os : List AOp) : execL E (o :: os) Kf A W = exec1 E o (execL E os Kf) A W := id rfl
theorem e_plain {E : Env} {A : AFr} {W : AW} {Kf : AFr → AW → Prop} (d : Option Nat) (k : AK) (xs : List AX) : exec1 E ⟨d, k, xs, none⟩ Kf A W = (match evs E A xs with
  | some vs => sem E k vs W (putK d A Kf)
  | none => False) := id rfl
theorem e_putK {A : AFr} {W : AW} {Kf : AFr → AW → Prop} (d : Option Nat) (v : V) : putK d A Kf v W = Kf (A.putd d v) W := id rfl
theorem e_putd {A : AFr} (d : Nat) (v : V) : A.putd (some d) v = A.put d v := id rfl
theorem e_putd0 {A : AFr} (v : V) : A.putd none v = A := id rfl
theorem e_put {A : AFr} (d i : Nat) (v : V) : (A.put d v) i = if i = d then some v else A i := id rfl
theorem e_then {Kf : AFr → AW → Prop} {Q : Exit → AFr → AW → Prop} : thenQ Kf Q .normal = Kf := id rfl
theorem e_then_ret {Kf : AFr → AW → Prop} {Q : Exit → AFr → AW → Prop} : thenQ Kf Q .ret = Q .ret := id rfl
theorem e_then_exit {Kf : AFr → AW → Prop} {Q : Exit → AFr → AW → Prop} (i : Nat) : thenQ Kf Q (.exit i) = Q (.exit i) := id rfl
theorem e_blk {Q : Exit → AFr → AW → Prop} (i : Nat) : blockQ i Q .normal = Q .normal := id rfl
theorem e_blk_ret {Q : Exit → AFr → AW → Prop} (i : Nat) : blockQ i Q .ret = Q .ret := id rfl
theorem e_blk_exit {Q : Exit → AFr → AW → Prop} (i j : Nat) : blockQ i Q (.exit j) = if j = i then Q .normal else Q (.exit j) := id rfl
theorem e_res0 {A : AFr} {W : AW} : resV A W [] = some (.tuple []) := id rfl
theorem e_res1 {A : AFr} {W : AW} (t : Nat) : resV A W [.tmp t] = (A t).map W.frz := by
 simp only [resV, resL, RT.ev]
 cases A t <;> rfl
theorem e_res2 {A : AFr} {W : AW} (t u : Nat) : resV A W [.tmp t, .tmp u] = (match A t, A u with
  | some x, some y => some (.tuple [W.frz x, W.frz y])
  | _, _ => none) := by
 simp only [resV, resL, RT.ev]
 cases A t <;> cases A u <;> rfl
theorem retQ_ret {rs : List RT} {lo : Nat} {Q : V → AW → Prop} {A : AFr} : retQ rs lo Q .ret A W = ∃ X0, resV A W rs = some X0 ∧ ∃ X W', RetV X0 W X W' ∧ lo ≤ W'.nx ∧ Q X W' := id rfl
theorem retQ_normal {rs : List RT} {lo : Nat} {Q : V → AW → Prop} {A : AFr} : retQ rs lo Q .normal A W = ∃ X0, resV A W rs = some X0 ∧ ∃ X W', RetV X0 W X W' ∧ lo ≤ W'.nx ∧ Q X W' := id rfl
theorem ALoop.go {B : (Exit → AFr → AW → Prop) → AFr → AW → Prop} {Q : Exit → AFr → AW → Prop} {A : AFr} (hB : ∀ {Q Q' : Exit → AFr → AW → Prop} {A W}, (∀ e A W, Q e A W → Q' e A W) → B Q A W → B Q' A W) {σ : Type} (I : σ → AFr → AW → Prop) (μ : σ → Nat) (s0 : σ) (h0 : I s0 A W)
  (hs : ∀ s A1 W1, I s A1 W1 → W.nx ≤ W1.nx → B (thenQ (fun A' W' => ∃ s', I s' A' W' ∧ μ s' < μ s ∧ W.nx ≤ W'.nx) Q) A1 W1) : ALoop B Q A W := by
 classical
 have key : ∀ n, ∀ s A1 W1, I s A1 W1 → μ s < n → W.nx ≤ W1.nx → Term B Q W.nx n A1 W1 := by
  intro n
  induction n with
  | zero => intro s A1 W1 _ h; omega
  | succ n ih =>
   intro s A1 W1 hi hlt hn
   refine hB ?_ (hs s A1 W1 hi hn)
   intro e A' W' hq
   cases e with
   | normal =>
    obtain ⟨s', h1, h2, h3⟩ := hq
    exact ⟨ih s' A' W' h1 (by omega) h3, h3⟩
   | _ => exact hq
 exact Term.loop (B := B) hB (key (μ s0 + 1) s0 A W h0 (by omega) (lr _))
end
end Go.AL
namespace Go.AL
abbrev AOp.m (d n : Nat) : AOp := ⟨some d, .mov, [.t n], none⟩
abbrev AOp.u (d : Nat) (k : AK) (n : Nat) : AOp := ⟨some d, k, [.t n], none⟩
abbrev AOp.b (d : Nat) (k : AK) (n m : Nat) : AOp := ⟨some d, k, [.t n, .t m], none⟩
abbrev AOp.p (d : Nat) (k : AK) (l : List AX) : AOp := ⟨some d, k, l, none⟩
abbrev AOp.M (d n g : Nat) (c : Bool) : AOp := ⟨some d, .mov, [.t n], some (g, c)⟩
abbrev AOp.U (d : Nat) (k : AK) (n g : Nat) (c : Bool) : AOp := ⟨some d, k, [.t n], some (g, c)⟩
abbrev AOp.B (d : Nat) (k : AK) (n m g : Nat) (c : Bool) : AOp := ⟨some d, k, [.t n, .t m], some (g, c)⟩
abbrev AOp.P (d : Nat) (k : AK) (l : List AX) (g : Nat) (c : Bool) : AOp := ⟨some d, k, l, some (g, c)⟩
abbrev AOp.a (d : Nat) (k : AK) (n : Nat) (c : Int) : AOp := ⟨some d, k, [.t n, .c (.int .i64 c)], none⟩
abbrev AOp.v (d : Nat) (v : V) : AOp := ⟨some d, .mov, [.c v], none⟩
abbrev AX.i (n : Int) : AX := .c (.int .i64 n)
abbrev AX.T : AX := .c (.bool true)
abbrev AX.F : AX := .c (.bool false)
abbrev AC.r (l : List AOp) (c : AC) : AC := .seq (.reg l) c
abbrev AC.w (n e : Nat) : AC := .cond (.t n) .skip (.exit e)
end Go.AL
namespace Go.AL
theorem tt {p : Prop} (h : p := by first | trivial | rfl | omega) : p := h
theorem alp {E : Env} {c : AC} {Q : Exit → AFr → AW → Prop} {A : AFr} {W : AW} {σ : Type} (I : σ → AFr → AW → Prop) (μ : σ → Nat) (s0 : σ) (h0 : I s0 A W) (hs : ∀ s A1 W1, I s A1 W1 → W.nx ≤ W1.nx → awp E c (thenQ (fun A' W' => ∃ s', I s' A' W' ∧ μ s' < μ s ∧ W.nx ≤ W'.nx) Q) A1 W1) : ALoop (awp E c) Q A W := ALoop.go (fun h => awp_mono _ h) I μ s0 h0 hs
theorem dT : type_of% @decide_true := @decide_true
theorem dF : type_of% @decide_false := @decide_false
end Go.AL
