/- The abstract logic, part 2: each operation of the model does what its abstract rule says. Conditions: none. -/
import Derived.Test.YtfncnpcoekinjaaGreatDoorAa
import Derived.DeepKeys3
import Derived.IntWalk
open Nat renaming reduceEqDiff → nE, reduceLeDiff → nL, reduceAdd → nA, reduceLT → nT, le_refl → lr
open List renaming getElem?_eq_getElem → gEg, length_map → lmp, getElem_mem → gmm, length_append → lap, length_cons → lcs, mem_singleton → msg, append_nil → apn, mem_append → map', take_length → tkl, map_cons → mcs, map_append → mpp, mem_map → mmp, any_eq_true → aet, length_replicate → lrp, take_add_one → tao, length_take → ltk, mem_filter → mfl
namespace Go.AL
open RowKit
variable {γ : G} {E : Env} {w : World} {W : AW} {K : V → AW → Prop}
def SOk (P : Program) (m : Sem Value) (w : World) (R : Value → World → Prop) : Prop := ∃ v w', m.run P w = .ok v w' ∧ R v w'
def Post (E : Env) (γ : G) (W : AW) (K : V → AW → Prop) (v : Value) (w' : World) : Prop :=
 ∃ γ' X W', G.le W.nx γ γ' ∧ W.nx ≤ W'.nx ∧ RelW E γ' w' W' ∧ RelV γ' X v ∧ K X W'
theorem Post.same {v : Value} {X : V} (hW : RelW E γ w W) (hr : RelV γ X v) (hk : K X W) : Post E γ W K v w :=
 ⟨γ, X, W, G.le.refl _ _, lr _, hW, hr, hk⟩
theorem Post.same' {v : Value} {X : V} (hk : K X W) (hW : RelW E γ w W) (hr : RelV γ X v) : Post E γ W K v w := Post.same hW hr hk
theorem addr_add (b o n : Nat) : (⟨b, o, none⟩ : Addr).add n = ⟨b, o + n, none⟩ := by unfold Addr.add; split <;> simp_all
theorem s_load {t : TypeId} {g : Bool} {s : Nat} {X Y : V} {v : Value} (hg : isAggT E.P t = some g) (hs : sizeT E.P t = some s) (hr : RelV γ X v) (hW : RelW E γ w W)
  (h : rsem (.load g s) [X] W = some Y) (hk : K Y W) : SOk E.P (Instr.loadAt t v) w (Post E γ W K) := by
 cases X
 case ptr r off =>
  simp only [rsem] at h
  split at h
  ·rename_i cells hobj
   obtain ⟨b, hb, rfl⟩ := hr
   obtain ⟨b', l, e, hb', hheap, hl⟩ := hW.obj r _ hobj
   rw [hb] at hb'; cases hb'
   obtain ⟨u, hu, hru⟩ := run_loadVar_block (P := E.P) (pre := []) (post := []) hg hs hheap (by simp) hl h
   exact ⟨u, w, by simpa [Instr.loadAt, Instr.sureAddr] using hu, Post.same hW hru hk⟩
  ·cases h
 case vptr r off =>
  simp only [rsem] at h
  split at h
  ·rename_i s' cells hobj
   obtain ⟨b, hb, rfl⟩ := hr
   obtain ⟨b', pre, c, t', e, hb', hheap, hp, hl, _⟩ := hW.obj r _ hobj
   rw [hb] at hb'; cases hb'
   obtain ⟨u, hu, hru⟩ := run_loadVar_block (P := E.P) (pre := pre) (post := t') hg hs hheap rfl hl h
   rw [hp] at hu
   exact ⟨u, w, by simpa [Instr.loadAt, Instr.sureAddr] using hu, Post.same hW hru hk⟩
  ·cases h
 case cptr cells =>
  simp only [rsem, tsem] at h
  obtain ⟨b, pre, l, post, sz, hc, hl, rfl⟩ := hr
  obtain ⟨t', e, fz, hheap, _⟩ := hW.con b _ sz hc
  obtain ⟨u, hu, hru⟩ := run_loadVar_block (P := E.P) (pre := pre) (post := post ++ t') hg hs hheap (by simp) hl h
  exact ⟨u, w, by simpa [Instr.loadAt, Instr.sureAddr] using hu, Post.same hW hru hk⟩
 all_goals simp [rsem, tsem] at h
theorem heap_setRow {b : Nat} {c : Array Value} {e : TypeId} {fz : Nat × Nat} (h : w.heap[b]? = some (.cells c e fz)) (d : Array Value) :
  (w.setRow b d).heap[b]? = some (.cells d e fz) := setRow_heap w b c d e fz h
theorem below_setRow {B b : Nat} (h : B ≤ b) (d : Array Value) : Below B w (w.setRow b d) :=
 ⟨⟨rfl, rfl, rfl, by simp [World.setRow], fun k hk => setRow_other w b k d (by omega)⟩, lr _⟩
theorem s_store {t : TypeId} {s r off : Nat} {x : V} {v u : Value} {cells : List V} (hs : sizeT E.P t = some s) (hr : RelV γ (.ptr r off) v) (hx : RelV γ x u) (hW : RelW E γ w W)
  (hobj : W.get r = some (.row cells)) (h1 : x.cells.length = s) (h2 : x.cells.all V.one = true) (h3 : off + s ≤ cells.length)
  (hk : K .undef (W.put r (.row (cells.take off ++ x.cells ++ cells.drop (off + s))))) :
  ∃ w', (Instr.storeAt t v u).run E.P w = .ok () w' ∧ Post E γ W K undef w' := by
 obtain ⟨b, hb, rfl⟩ := hr
 obtain ⟨b', l, e, hb', hheap, hl⟩ := hW.obj r _ hobj
 rw [hb] at hb'; cases hb'
 have hc := hx.cells
 have hlen := hl.length
 have hcl := hc.length
 have hcl' : u.cells.size = x.cells.length := by simpa using hcl
 have hrun := run_storeCells_at (P := E.P) b off e u.cells.toList 0 l.toArray w hheap (by simp only [Nat.add_zero, Array.length_toList, hcl', h1, List.size_toArray, hlen]; exact h3) (hc.one h2)
 have hsz : ¬ u.cells.size ≠ s := by omega
 have hfull : (Instr.storeAt t (.pointer (some ⟨b, off, none⟩)) u).run E.P w = .ok () (w.setRow b (l.take off ++ u.cells.toList ++ l.drop (off + s)).toArray) := by
  simp only [Instr.storeAt, Instr.sureAddr, Sem.run_bind, Sem.run_pure, Result.andThen_ok, storeVar, run_sizeT hs, hsz, if_false]
  simpa [hcl', h1] using hrun
 refine ⟨_, hfull, γ, .undef, _, G.le.refl _ _, ?_, ?_, ⟨[], rfl, rfl⟩, hk⟩
 ·exact lr _
 ·obtain ⟨hB, _, _⟩ := hW.apart r _ b hobj hb
  refine hW.setObj hobj hb (by rw [hheap]; simp) (below_setRow hB _) (by simp [World.setRow]) (fun k hk => setRow_other w b k _ hk) ⟨b, _, e, hb, heap_setRow hheap _, ?_⟩
  exact ((hl.take off).append hc).append (hl.drop (off + s))
theorem s_storeV {t : TypeId} {s s' r off : Nat} {x : V} {v u : Value} {cells : List V} (hs : sizeT E.P t = some s) (hr : RelV γ (.vptr r off) v) (hx : RelV γ x u) (hW : RelW E γ w W)
  (hobj : W.get r = some (.vec s' cells)) (h1 : x.cells.length = s) (h2 : x.cells.all V.one = true) (h3 : off + s ≤ cells.length)
  (hk : K .undef (W.put r (.vec s' (cells.take off ++ x.cells ++ cells.drop (off + s))))) :
  ∃ w', (Instr.storeAt t v u).run E.P w = .ok () w' ∧ Post E γ W K undef w' := by
 obtain ⟨b, hb, rfl⟩ := hr
 obtain ⟨b', pre, l, tl, e, hb', hheap, hp, hl, hz⟩ := hW.obj r _ hobj
 rw [hb] at hb'; cases hb'
 have hc := hx.cells
 have hlen := hl.length
 have hcl := hc.length
 have hcl' : u.cells.size = x.cells.length := by simpa using hcl
 have hrun := run_storeCells_at (P := E.P) b (pre.length + off) e u.cells.toList 0 (pre ++ l ++ tl).toArray w hheap (by simp only [Nat.add_zero, Array.length_toList, hcl', h1, List.size_toArray, lap, hlen]; omega) (hc.one h2)
 have hsz : ¬ u.cells.size ≠ s := by omega
 have hcell : (pre ++ l ++ tl).take (pre.length + off) ++ u.cells.toList ++ (pre ++ l ++ tl).drop (pre.length + off + s) = pre ++ (l.take off ++ u.cells.toList ++ l.drop (off + s)) ++ tl := by
  rw [List.append_assoc pre l tl, List.take_length_add_append, Nat.add_assoc, List.drop_length_add_append, List.take_append_of_le_length (by omega), List.drop_append_of_le_length (by omega)]
  simp
 have hfull : (Instr.storeAt t (.pointer (some ⟨b, (γ.vb r).1 + off, none⟩)) u).run E.P w = .ok () (w.setRow b (pre ++ (l.take off ++ u.cells.toList ++ l.drop (off + s)) ++ tl).toArray) := by
  rw [← hcell, ← hp]
  simp only [Instr.storeAt, Instr.sureAddr, Sem.run_bind, Sem.run_pure, Result.andThen_ok, storeVar, run_sizeT hs, hsz, if_false]
  simpa [hcl', h1] using hrun
 refine ⟨_, hfull, γ, .undef, _, G.le.refl _ _, ?_, ?_, ⟨[], rfl, rfl⟩, hk⟩
 ·exact lr _
 ·obtain ⟨hB, _, _⟩ := hW.apart r _ b hobj hb
  refine hW.setObj hobj hb (by rw [hheap]; simp) (below_setRow hB _) (by simp [World.setRow]) (fun k hk => setRow_other w b k _ hk) ⟨b, pre, _, tl, e, hb, heap_setRow hheap _, hp, ((hl.take off).append hc).append (hl.drop (off + s)), ?_⟩
  rw [← hz]
  simp only [lap, ltk, List.length_drop, Array.length_toList, hcl', h1]
  omega
theorem s_alloc {t : TypeId} {z : V} (hz : zeroT E.P t = some z) (hW : RelW E γ w W) (hk : K (.ptr W.nx 0) (W.alloc (.row z.cells))) :
  SOk E.P (Instr.alloc t true (.tuple #[])) w (Post E γ W K) := by
 obtain ⟨zv, hrun, hrel⟩ := run_zeroT hz γ w
 obtain ⟨h1, h2⟩ := hW.newRow (cells := z.cells) (l := zv.cells.toList) hrel.cells t
 refine ⟨.pointer (some ⟨w.heap.size, 0, none⟩), w.alloc (.cells zv.cells t (0, 0)), ?_, _, .ptr W.nx 0, _, h2, by simp [AW.alloc], by simpa using h1, ⟨w.heap.size, by simp [G.addObj], rfl⟩, hk⟩
 simp [Instr.alloc, hrun, newVar, newRow]
theorem s_box {t : TypeId} {x : V} {u : Value} (hx : RelV γ x u) (hW : RelW E γ w W) (hk : K (.ptr W.nx 0) (W.alloc (.row x.cells))) :
  SOk E.P (Instr.box t u) w (Post E γ W K) := by
 obtain ⟨h1, h2⟩ := hW.newRow (cells := x.cells) (l := u.cells.toList) hx.cells t
 refine ⟨.pointer (some ⟨w.heap.size, 0, none⟩), w.alloc (.cells u.cells t (0, 0)), ?_, _, .ptr W.nx 0, _, h2, by simp [AW.alloc], by simpa using h1, ⟨w.heap.size, by simp [G.addObj], rfl⟩, hk⟩
 simp [Instr.box, newVar, newRow]
theorem s_mkmap {t : TypeId} (hW : RelW E γ w W) (hk : K (.map W.nx) (W.alloc (.map [] 0))) :
  SOk E.P (Instr.makeMap t none) w (Post E γ W K) := by
 obtain ⟨h1, h2⟩ := hW.newObj (.map #[] 0) (.map [] 0) ⟨w.heap.size, [], by simp [G.addObj], heap_alloc_new _ _, rfl⟩
 refine ⟨.map (some w.heap.size), w.alloc (.map #[] 0), ?_, _, .map W.nx, _, h2, by simp [AW.alloc], h1, ⟨w.heap.size, by simp [G.addObj], rfl⟩, hk⟩
 simp [Instr.makeMap]
theorem s_fld {t : TypeId} {fs : Array Field} {i z : Nat} {f : Field} {X Y : V} {v : Value} (hu : E.P.underlying t = some (.struct fs)) (hf : fs[i]? = some f) (hz : sizeT E.P f.type = some z) (hz0 : z ≠ 0)
  (hr : RelV γ X v) (hW : RelW E γ w W) (h : tsem (.fld f.offset) [X] = some Y) (hk : K Y W) : SOk E.P (Instr.fieldAt t v i) w (Post E γ W K) := by
 have run : ∀ b o, (Instr.fieldAt t (.pointer (some ⟨b, o, none⟩)) i).run E.P w = .ok (.pointer (some ⟨b, o + f.offset, none⟩)) w := fun b o => by
  simp [Instr.fieldAt, run_underlying hu, hf, Instr.sureAddr, fieldPlace, run_sizeT hz, hz0, addr_add]
 cases X
 case ptr r off =>
  simp only [tsem, Option.some.injEq] at h
  subst h
  obtain ⟨b, hb, rfl⟩ := hr
  exact ⟨_, w, run b off, Post.same' hk hW ⟨b, hb, rfl⟩⟩
 case vptr r off =>
  simp only [tsem, Option.some.injEq] at h
  subst h
  obtain ⟨b, hb, rfl⟩ := hr
  exact ⟨_, w, run b _, Post.same' hk hW ⟨b, hb, by rw [Nat.add_assoc]⟩⟩
 case cptr cells =>
  simp only [tsem] at h
  split at h
  ·rename_i hle
   cases h
   obtain ⟨b, pre, l, post, sz, hc, hl, rfl⟩ := hr
   have hll := hl.length
   exact ⟨_, w, run b pre.length, Post.same' hk hW ⟨b, pre ++ l.take f.offset, l.drop f.offset, post, sz, by simpa using hc, hl.drop _, by simp; omega⟩⟩
  ·cases h
 all_goals simp [tsem] at h
theorem asInt_int (k : IntKind) (i : Int) (P : Program) (w : World) : (asIntOf (.int k i)).run P w = .ok (k, i) w := rfl
theorem s_idxa {t e : TypeId} {n s : Nat} {X I Y : V} {v iv : Value} (hu : E.P.underlying t = some (.array n e)) (hs : sizeT E.P e = some s)
  (hr : RelV γ X v) (hi : RelV γ I iv) (hW : RelW E γ w W) (h : tsem (.idxa n s) [X, I] = some Y) (hk : K Y W) : SOk E.P (Instr.indexAt t v iv) w (Post E γ W K) := by
 have run : ∀ b o k (i : Int), 0 ≤ i → i < n → (Instr.indexAt t (.pointer (some ⟨b, o, none⟩)) (.int k i)).run E.P w = .ok (.pointer (some ⟨b, o + i.toNat * s, none⟩)) w := fun b o k i h0 h1 => by
  simp [Instr.indexAt, run_underlying hu, asInt_int, Instr.sureAddr, run_sizeT hs, h0, h1, addr_add]
 cases I <;> cases X <;> simp only [tsem, reduceCtorEq] at h
 case int.ptr k i r off =>
  split at h
  ·rename_i hc
   cases h
   obtain ⟨b, hb, rfl⟩ := hr
   cases hi
   exact ⟨_, w, run b off k i hc.1 hc.2, Post.same' hk hW ⟨b, hb, rfl⟩⟩
  ·cases h
 case int.cptr k i cells =>
  split at h
  ·rename_i hc
   cases h
   obtain ⟨b, pre, l, post, sz, hcon, hl, rfl⟩ := hr
   cases hi
   have hll := hl.length
   exact ⟨_, w, run b pre.length k i hc.1 hc.2.1, Post.same' hk hW ⟨b, pre ++ l.take (i.toNat * s), l.drop (i.toNat * s), post, sz, by simpa using hcon, hl.drop _, by simp; omega⟩⟩
  ·cases h
theorem s_idxp {t e : TypeId} {s : Nat} {X I Y : V} {v iv : Value} (hu : E.P.underlying t = some (.slice e)) (hs : sizeT E.P e = some s)
  (hr : RelV γ X v) (hi : RelV γ I iv) (hW : RelW E γ w W) (h : rsem (.idxp s) [X, I] W = some Y) (hk : K Y W) : SOk E.P (Instr.indexAt t v iv) w (Post E γ W K) := by
 have run : ∀ b o (len cap : Nat) k (i : Int), 0 ≤ i → i < len → (Instr.indexAt t (.slice (some ⟨b, o, none⟩) len cap) (.int k i)).run E.P w = .ok (.pointer (some ⟨b, o + i.toNat * s, none⟩)) w := fun b o len cap k i h0 h1 => by
  simp [Instr.indexAt, run_underlying hu, asInt_int, run_sizeT hs, h0, h1, addr_add]
 cases I <;> cases X <;> simp only [rsem, tsem, reduceCtorEq] at h
 case int.sl k i s' full xs =>
  split at h
  ·rename_i hc
   obtain ⟨rfl, h0⟩ := hc
   simp only [Option.map_eq_some_iff] at h
   obtain ⟨x, hx, rfl⟩ := h
   obtain ⟨b, pre, l, post, sz, cap, hcon, hl, rfl, hcap, _⟩ := hr
   cases hi
   have hlt : i.toNat < xs.length := (List.getElem?_eq_some_iff.1 hx).1
   obtain ⟨a, u, c, rfl, ha, hus, hru⟩ := hl.get hx
   refine ⟨_, w, run b pre.length xs.length cap k i h0 (by omega), Post.same' hk hW ⟨b, pre ++ a, u.cells.toList, c ++ post, sz, by simpa using hcon, hru.cells, by simp [ha]⟩⟩
  ·cases h
 case int.slr k i r q len s' =>
  split at h
  ·rename_i hc
   obtain ⟨rfl, h0, h1⟩ := hc
   cases h
   obtain ⟨b, a, hb, rfl, hcap, ha, _⟩ := hr
   obtain rfl := ha (by omega)
   cases hi
   exact ⟨_, w, run b _ len _ k i h0 h1, Post.same' hk hW ⟨b, hb, by rw [Nat.add_mul, Nat.add_assoc]⟩⟩
  ·cases h
 case int.buf k i np r s' m =>
  split at h
  ·rename_i np' s'' xs hobj
   split at h
   ·rename_i hc
    obtain ⟨rfl, rfl, h0, h1, h2⟩ := hc
    simp only [Option.map_eq_some_iff] at h
    obtain ⟨x, hx, rfl⟩ := h
    cases hi
    obtain ⟨hs0, cur, g1, _⟩ := hW.obj r _ hobj
    rcases hr with ⟨b, hown, c, sz, cap, hcon, hm, _, _, rfl, _⟩ | ⟨_, rfl, _⟩
    ·obtain ⟨c', sz', q, e1, e2, e3, e4, _⟩ := g1 b hown
     rw [hcon] at e1; cases e1
     have hmq : m ≤ q := Nat.le_of_mul_le_mul_right (by omega) hs0
     have hx' : (xs.take q)[i.toNat]? = some x := by rw [List.getElem?_take, if_pos (by omega)]; exact hx
     obtain ⟨a, u, d, rfl, ha, hus, hru⟩ := e4.get hx'
     exact ⟨_, w, run b 0 m cap k i h0 h1, Post.same' hk hW ⟨b, a, u.cells.toList, d, sz, by simpa using hcon, hru.cells, by simp [ha]⟩⟩
    ·omega
   ·cases h
  ·cases h
end Go.AL
namespace Go.AL
open RowKit
variable {γ : G} {E : Env} {w : World} {W : AW} {K : V → AW → Prop}
theorem foldl_set (off : Nat) : ∀ (cs : List Value) (i : Nat) (l : List Value), off + i + cs.length ≤ l.length →
  (cs.zipIdx i).foldl (fun (a : Array Value) (p : Value × Nat) => a.setIfInBounds (off + p.2) p.1) l.toArray = (l.take (off + i) ++ cs ++ l.drop (off + i + cs.length)).toArray
 | [], i, l, _ => by simp
 | c :: cs, i, l, h => by
  simp only [lcs] at h
  simp only [List.zipIdx_cons, List.foldl_cons, List.setIfInBounds_toArray]
  rw [foldl_set off cs (i + 1) _ (by simp; omega)]
  congr 1
  apply List.ext_getElem?
  intro j
  simp only [lcs]
  simp only [List.getElem?_append, lap, ltk, List.length_set, List.getElem?_take, List.getElem?_set, List.getElem?_drop, lcs]
  grind
theorem fill_rel (place : Nat → Option (Nat × Nat)) : ∀ {xs : List V} {ps : List (Nat × Nat)} {cells R : List V} {l vs : List Value} {is : List Nat}, fillV cells ps xs = some R → RelL γ cells l → RelL γ xs vs →
  is.map place = ps.map some → ∃ r, Instr.fill place l.toArray (is.zip vs) = some (List.toArray r) ∧ RelL γ R r
 | [], ps, cells, R, l, vs, is, h, hl, hv, hp => by
  simp only [RelL] at hv
  subst hv
  cases ps with
  | nil => simp only [fillV, Option.some.injEq] at h; subst h; exact ⟨l, by simp [Instr.fill], hl⟩
  | cons p ps => simp [fillV] at h
 | x :: xs, ps, cells, R, l, _, is, h, hl, ⟨v, vs, rfl, h1, h2⟩, hp => by
  cases ps with
  | nil => simp [fillV] at h
  | cons p ps =>
   obtain ⟨off, s⟩ := p
   cases is with
   | nil => simp at hp
   | cons i is =>
    simp only [mcs, List.cons.injEq] at hp
    simp only [fillV] at h
    split at h
    ·rename_i hc
     have hvc := h1.cells
     have hsz : v.cells.size = s := by have := hvc.length; simp at this; omega
     have hll := hl.length
     have hle : off + s ≤ l.length := by omega
     obtain ⟨r, hr, hrel⟩ := fill_rel place (l := l.take off ++ v.cells.toList ++ l.drop (off + s)) h (((hl.take off).append hvc).append (hl.drop _)) h2 hp.2
     refine ⟨r, ?_, hrel⟩
     rw [← hr]
     simp only [List.zip_cons_cons, Instr.fill, hp.1, hsz, List.size_toArray]
     have hb : ((s != s) || decide (off + s > l.length)) = false := by simp; omega
     rw [if_neg (by simp; omega)]
     congr 1
     have := foldl_set off v.cells.toList 0 l (by simp [hsz]; omega)
     simp only [Nat.add_zero, Array.length_toList, hsz] at this
     rw [← this, ← Array.foldl_toList]
     simp [Array.toList_zipIdx]
    ·cases h
theorem run_listMapM {α β : Type} {P : Program} {f : α → Sem β} {g : α → β} (w : World) : ∀ (l : List α), (∀ a ∈ l, (f a).run P w = .ok (g a) w) → (l.mapM f).run P w = .ok (l.map g) w
 | [], _ => by simp [List.mapM_nil]
 | a :: l, h => by
  rw [List.mapM_cons, Sem.run_bind, h a (by simp), Result.andThen_ok, Sem.run_bind, run_listMapM w l (fun b hb => h b (by simp [hb]))]
  simp
theorem run_arrayMapM {α β : Type} {P : Program} {f : α → Sem β} {g : α → β} (w : World) (l : Array α) (h : ∀ a ∈ l.toList, (f a).run P w = .ok (g a) w) : (l.mapM f).run P w = .ok (l.map g) w := by
 obtain ⟨l⟩ := l
 rw [List.mapM_toArray]
 simp [run_listMapM w l h]
theorem zip_parts (parts : List (Nat × Operand)) (ρ : Operand → Value) : parts.map (fun p => (p.1, ρ p.2)) = (parts.map (·.1)).zip ((parts.map (·.2)).map ρ) := by
 induction parts with
 | nil => rfl
 | cons p ps ih => simp [ih]
theorem places_spec {P : Program} {fs : Array Field} : ∀ {is : List Nat} {ps : List (Nat × Nat)}, placesT P fs is = some ps → (∀ f ∈ fs.toList, (P.info? f.type).isSome = true) →
  is.map (fun i => (fs.map fun f => (f.offset, P.cellsOf f.type))[i]?) = ps.map some
 | [], ps, h, _ => by simp only [placesT, Option.some.injEq] at h; subst h; rfl
 | i :: is, ps, h, ha => by
  unfold placesT at h
  split at h
  ·rename_i f r h1 h2
   simp only [Option.map_eq_some_iff] at h
   obtain ⟨s, hs, rfl⟩ := h
   obtain ⟨inf, hi, rfl⟩ := info_of_size hs
   simp only [mcs, places_spec h2 ha]
   simp [h1, Program.cellsOf, hi]
  ·cases h
theorem s_build_struct {t : TypeId} {fs : Array Field} {z : V} {ps : List (Nat × Nat)} {is : List Nat} {vs : List Value} {xs R : List V} (hu : E.P.underlying t = some (.struct fs)) (hz : zeroT E.P t = some z)
  (hps : placesT E.P fs is = some ps) (hall : (fs.toList.all fun f => (E.P.info? f.type).isSome) = true) (hf : fillV z.cells ps xs = some R) (hx : RelL γ xs vs) (hW : RelW E γ w W) (hk : K (.agg R) W) :
  SOk E.P (Instr.build t (List.toArray (is.zip vs))) w (Post E γ W K) := by
 obtain ⟨zv, hrun, hrel⟩ := run_zeroT hz γ w
 have hall' : ∀ f ∈ fs.toList, (E.P.info? f.type).isSome = true := fun f hf => List.all_eq_true.1 hall f hf
 obtain ⟨r, hr, hR⟩ := fill_rel (fun i => (fs.map fun f => (f.offset, E.P.cellsOf f.type))[i]?) hf hrel.cells hx (places_spec hps hall')
 have hm : (fs.mapM fun f => (do pure (f.offset, ← sizeOf f.type) : Sem (Nat × Nat))).run E.P w = .ok (fs.map fun f => (f.offset, E.P.cellsOf f.type)) w := by
  refine run_arrayMapM w fs (fun f hf => ?_)
  obtain ⟨i, hi⟩ := Option.isSome_iff_exists.1 (hall' f hf)
  have : sizeT E.P f.type = some (E.P.cellsOf f.type) := by simp [sizeT, Program.cellsOf, hi]
  simp [run_sizeT this]
 refine ⟨.agg r.toArray, w, ?_, Post.same' hk hW ⟨r, rfl, hR⟩⟩
 simp only [Array.toArray_toList] at hr
 simp only [Instr.build, Sem.run_bind, hrun, Result.andThen_ok, run_underlying hu, hm]
 rw [hr]
 rfl
theorem s_build_array {t e : TypeId} {n s : Nat} {z : V} {is : List Nat} {vs : List Value} {xs R : List V} (hu : E.P.underlying t = some (.array n e)) (hz : zeroT E.P t = some z)
  (hs : sizeT E.P e = some s) (hf : fillV z.cells (is.map fun i => (i * s, s)) xs = some R) (hx : RelL γ xs vs) (hW : RelW E γ w W) (hk : K (.agg R) W) :
  SOk E.P (Instr.build t (List.toArray (is.zip vs))) w (Post E γ W K) := by
 obtain ⟨zv, hrun, hrel⟩ := run_zeroT hz γ w
 obtain ⟨r, hr, hR⟩ := fill_rel (fun i => some (i * s, s)) (is := is) hf hrel.cells hx (by simp)
 refine ⟨.agg r.toArray, w, ?_, Post.same' hk hW ⟨r, rfl, hR⟩⟩
 simp only [Array.toArray_toList] at hr
 simp only [Instr.build, Sem.run_bind, hrun, Result.andThen_ok, run_underlying hu, run_sizeT hs]
 rw [hr]
 rfl
theorem RelV.lone {x : V} {v : Value} (h : RelV γ x v) (ho : x.isAgg = false) : v.cells = #[v] := by
 cases x
 case agg => simp [V.isAgg] at ho
 case buf => rcases h with ⟨b, _, c, sz, cap, _, _, _, _, rfl, _⟩ | ⟨_, _, rfl⟩ <;> rfl
 case slr => obtain ⟨_, _, _, rfl, _⟩ := h; rfl
 all_goals
  simp only [RelV] at h
  first
   | (subst h; rfl)
   | (obtain ⟨_, h⟩ := h; subst h; rfl)
   | (obtain ⟨_, _, h⟩ := h; subst h; rfl)
   | (obtain ⟨_, rfl, h⟩ := h; rfl)
   | (obtain ⟨_, _, rfl, h⟩ := h; rfl)
   | (obtain ⟨_, _, _, _, _, _, _, h⟩ := h; subst h; rfl)
   | (obtain ⟨_, _, _, _, _, _, _, _, h, _⟩ := h; subst h; rfl)
theorem V.cells_lone {x : V} (h : x.isAgg = false) : x.cells = [x] := by
 cases x <;> first | rfl | (simp [V.isAgg] at h)
theorem RelE.flat : ∀ {s : Nat} {xs : List V} {l : List Value}, RelL γ (xs.flatMap V.cells) l → (∀ x ∈ xs, x.cells.length = s ∧ (x.isAgg = false → s = 1)) → RelE γ s xs l
 | s, [], l, h, _ => by simpa [RelE, RelL] using h
 | s, x :: xs, l, h, ha => by
  simp only [List.flatMap_cons] at h
  obtain ⟨a, b, rfl, h1, h2⟩ := h.split
  have hx := ha x (by simp)
  have hal := h1.length
  have tl := RelE.flat h2 (fun y hy => ha y (by simp [hy]))
  by_cases hag : x.isAgg = true
  ·cases x <;> simp [V.isAgg] at hag
   rename_i cs
   have hca : (Value.agg a.toArray).cells = a.toArray := rfl
   exact ⟨.agg a.toArray, b, by rw [hca], by rw [hca, List.size_toArray, hal]; exact hx.1, ⟨a, rfl, h1⟩, tl⟩
  ·have hc : x.cells = [x] := V.cells_lone (by simpa using hag)
   rw [hc] at h1
   obtain ⟨v, l', rfl, hv, hl'⟩ := h1
   simp only [RelL] at hl'
   subst hl'
   have hv1 : v.cells = #[v] := hv.lone (by simpa using hag)
   have h1s := hx.2 (by simpa using hag)
   exact ⟨v, b, by simp [hv1], by rw [hv1]; simp [h1s], hv, tl⟩
end Go.AL
namespace Go.AL
open RowKit
variable {γ : G} {E : Env} {w : World} {W : AW} {K : V → AW → Prop}
theorem flat_length {s : Nat} : ∀ {l : List V}, (∀ y ∈ l, y.cells.length = s) → (l.flatMap V.cells).length = l.length * s
 | [], _ => by simp
 | x :: l, h => by
  rw [List.flatMap_cons, lap, flat_length (l := l) (fun y hy => h y (List.mem_cons_of_mem _ hy)), h x (by simp), lcs, Nat.add_mul]
  omega
theorem flat_set {s : Nat} {x : V} (hx : x.cells.length = s) : ∀ {l : List V} {i : Nat}, (∀ y ∈ l, y.cells.length = s) → i < l.length →
  (l.set i x).flatMap V.cells = (l.flatMap V.cells).take (i * s) ++ x.cells ++ (l.flatMap V.cells).drop (i * s + s)
 | [], _, _, hi => by simp at hi
 | y :: l, 0, h, _ => by
  have hy : y.cells.length = s := h y (by simp)
  simp [List.flatMap_cons, hy]
 | y :: l, i + 1, h, hi => by
  have ih := flat_set hx (l := l) (i := i) (fun z hz => h z (by simp [hz])) (by simpa using hi)
  have hy : y.cells.length = s := h y (by simp)
  have e1 : (i + 1) * s = s + i * s := by rw [Nat.add_mul]; omega
  simp only [List.set_cons_succ, List.flatMap_cons, ih, e1]
  simp [List.take_append, List.drop_append, hy]
  rw [List.take_of_length_le (l := y.cells) (by rw [hy]; omega), List.drop_eq_nil_of_le (as := y.cells) (by rw [hy]; omega), Nat.add_comm s (i * s)]
  simp
theorem fillE_flat {s : Nat} : ∀ {xs : List V} {is : List Nat} {l r : List V}, fillE s l is xs = some r → (∀ y ∈ l, y.cells.length = s) →
  fillV (l.flatMap V.cells) (is.map fun i => (i * s, s)) xs = some (r.flatMap V.cells) ∧ (∀ y ∈ r, y.cells.length = s) ∧ r.length = l.length
 | [], is, l, r, h, hl => by
  cases is with
  | nil => simp only [fillE, Option.some.injEq] at h; subst h; exact ⟨rfl, hl, rfl⟩
  | cons i is => simp [fillE] at h
 | x :: xs, is, l, r, h, hl => by
  cases is with
  | nil => simp [fillE] at h
  | cons i is =>
   simp only [fillE] at h
   split at h
   ·rename_i hc
    have hl' : ∀ y ∈ l.set i x, y.cells.length = s := fun y hy => by
     rcases List.mem_or_eq_of_mem_set hy with hy | rfl
     ·exact hl y hy
     ·exact hc.1
    obtain ⟨h1, h2, h3⟩ := fillE_flat h hl'
    refine ⟨?_, h2, by simpa using h3⟩
    have hle : i * s + s ≤ (l.flatMap V.cells).length := by
     rw [flat_length hl]
     have := Nat.mul_le_mul_right s (show i + 1 ≤ l.length from hc.2)
     rw [Nat.add_mul] at this
     omega
    simp only [mcs, fillV, hc.1, hle, and_self, if_true]
    rw [← flat_set hc.1 hl hc.2]
    exact h1
   ·cases h
theorem range_mod {α : Type} [Inhabited α] (z : Array α) (hz : 0 < z.size) : ∀ n, (List.range (n * z.size)).map (fun i => z[i % z.size]!) = (List.replicate n z.toList).flatten
 | 0 => by simp
 | n + 1 => by
  rw [Nat.add_mul, Nat.one_mul, List.range_add, mpp, range_mod z hz n, List.replicate_succ', List.flatten_append]
  congr 1
  simp only [List.map_map, List.flatten_cons, List.flatten_nil, apn]
  apply List.ext_getElem?
  intro j
  simp only [List.getElem?_map]
  by_cases hj : j < z.size
  ·simp [hj, Nat.mod_eq_of_lt hj]
  ·simp [hj]
theorem rel_replicate {x : V} {v : Value} (h : RelL γ x.cells v.cells.toList) : ∀ n, RelL γ ((List.replicate n x).flatMap V.cells) (List.replicate n v.cells.toList).flatten
 | 0 => rfl
 | n + 1 => by simpa [List.replicate_succ, List.flatMap_cons] using h.append (rel_replicate h n)
theorem s_bslice {t e : TypeId} {n s : Nat} {z : V} {is : List Nat} {vs : List Value} {xs R : List V} (hu : E.P.underlying t = some (.slice e)) (hz : zeroT E.P e = some z)
  (hs : sizeT E.P e = some s) (hs0 : 0 < s) (hzs : z.cells.length = s) (hroom : n * s ≤ 2 ^ 24) (hf : fillE s (List.replicate n z) is xs = some R) (hx : RelL γ xs vs) (hW : RelW E γ w W) (hk : K (.sl s true R) W) :
  SOk E.P (Instr.buildSlice t n (List.toArray (is.zip vs))) w (Post E γ W K) := by
 obtain ⟨zv, hrun, hrel⟩ := run_zeroT hz γ w
 have hzl : zv.cells.size = s := by have := hrel.cells.length; simp at this; omega
 obtain ⟨h1, h2, h3⟩ := fillE_flat hf (fun y hy => by rw [List.eq_of_mem_replicate hy]; exact hzs)
 obtain ⟨r, hr, hR⟩ := fill_rel (fun i => some (i * s, s)) (is := is) h1 (rel_replicate hrel.cells n) hx (by simp)
 have hzero : ((Array.range (n * s)).map (zv.cells[· % zv.cells.size]!)) = ((List.replicate n zv.cells.toList).flatten).toArray := by
  rw [← range_mod zv.cells (by omega) n, hzl]
  apply Array.ext'
  simp
 obtain ⟨g1, g2⟩ := hW.newCon r e
 have hRn : R.length = n := by simpa using h3
 have hE : RelE γ s R r := RelE.flat hR (fun x hx => ⟨h2 x hx, fun ha => by have := h2 x hx; rw [V.cells_lone ha] at this; simpa using this.symm⟩)
 have hn24 : n ≤ 2 ^ 24 := Nat.le_trans (Nat.le_mul_of_pos_right n hs0) hroom
 refine ⟨.slice (some ⟨w.heap.size, 0, none⟩) n n, w.alloc (.cells r.toArray e (0, 0)), ?_, _, .sl s true R, W, g2, lr _, g1, ?_, hk⟩
 ·have h0 : ¬ (n * s > 2 ^ 24) := by omega
  by_cases hn : n = 0
  ·subst hn
   simp only [List.replicate_zero, List.flatten_nil] at hr
   simp only [Instr.buildSlice, Sem.run_bind, run_underlying hu, Result.andThen_ok, run_sizeT hs, Nat.zero_mul, gt_iff_lt, Nat.not_lt_zero, if_false, if_true, Sem.run_pure]
   have he : ((Array.range 0).map fun x => (#[] : Array Value)[x % (#[] : Array Value).size]!) = #[] := by apply Array.ext'; simp
   rw [he, hr]
   simp [newRow]
  ·have h00 : ¬ (n * s = 0) := Nat.ne_of_gt (Nat.mul_pos (by omega) hs0)
   simp only [Instr.buildSlice, Sem.run_bind, run_underlying hu, Result.andThen_ok, run_sizeT hs, h0, h00, if_false, hrun, Sem.run_pure, hzero]
   rw [hr]
   simp [newRow]
 ·refine ⟨w.heap.size, [], r, [], r.length, n, by simp [G.addCon], RelE.mono hW.bd g2 _ _ _ hE, by simp [hRn], by omega, fun _ => hRn.symm, by omega⟩
theorem s_nilck {X Y : V} {v : Value} {a : Act} {o : Oper} {x : Operand} (ho : o.op = .nilCheck x) (hx : a.eval x = v) (hr : RelV γ X v) (hW : RelW E γ w W) (h : tsem .nilck [X] = some Y) (hk : K Y W) :
  ∃ u, (execOp a.eval o).run E.P w = .ok (.value u) w ∧ Post E γ W K u w := by
 cases X <;> simp only [tsem, reduceCtorEq] at h
 case ptr r off =>
  cases h
  have hr' := hr
  obtain ⟨b, hb, rfl⟩ := hr
  exact ⟨_, by simp [execOp, ho, hx], Post.same' hk hW hr'⟩
 case vptr r off =>
  cases h
  have hr' := hr
  obtain ⟨b, hb, rfl⟩ := hr
  exact ⟨_, by simp [execOp, ho, hx], Post.same' hk hW hr'⟩
 case cptr cells =>
  cases h
  have hr' := hr
  obtain ⟨b, pre, l, post, sz, hc, hl, rfl⟩ := hr
  exact ⟨_, by simp [execOp, ho, hx], Post.same' hk hW hr'⟩
 case fn f first cap =>
  cases f <;> simp only [reduceCtorEq, Option.some.injEq] at h
  subst h
  have hr' := hr
  obtain ⟨fs, cs, rfl, _, _⟩ := hr
  exact ⟨_, by simp [execOp, ho, hx], Post.same' hk hW hr'⟩
theorem s_shI {op : BinOp} {k k' : IntKind} {t : TypeId} {a b : Int} {Y : V} (hop : op = .shl ∨ op = .shr) (h : shI op k a b = some Y) (hW : RelW E γ w W) (hk : K Y W) :
  SOk E.P (binOp op t (.int k a) (.int k' b)) w (Post E γ W K) := by
 unfold shI at h
 split at h
 ·rename_i h0
  have h0' : ¬ b < 0 := by omega
  rcases hop with rfl | rfl
  ·cases h; exact ⟨_, w, by simp [binOp, Op.shift, h0'], Post.same' hk hW rfl⟩
  ·cases h; exact ⟨_, w, by simp [binOp, Op.shift, h0'], Post.same' hk hW rfl⟩
 ·cases h
theorem s_binI {op : BinOp} {k : IntKind} {t : TypeId} {a b : Int} {Y : V} (h : binI op k a b = some Y) (hW : RelW E γ w W) (hk : K Y W) :
  SOk E.P (binOp op t (.int k a) (.int k b)) w (Post E γ W K) := by
 cases op <;> simp only [binI, bitI, cmpI, Option.map_some, Option.some.injEq] at h
 case shl => exact s_shI (.inl rfl) h hW hk
 case shr => exact s_shI (.inr rfl) h hW hk
 case quo =>
  split at h
  ·cases h
  ·rename_i h0; cases h; exact ⟨_, w, by simp [binOp, Op.intDiv, h0], Post.same' hk hW rfl⟩
 case rem =>
  split at h
  ·cases h
  ·rename_i h0; cases h; exact ⟨_, w, by simp [binOp, Op.intDiv, h0], Post.same' hk hW rfl⟩
 all_goals
  subst h
  exact ⟨_, w, by simp [binOp, Op.intArith, Op.intBits, Op.intCmp], Post.same' hk hW rfl⟩
theorem s_binS {op : BinOp} {t : TypeId} {a b : ByteArray} {Y : V} (h : binS op a b = some Y) (hW : RelW E γ w W) (hk : K Y W) :
  SOk E.P (binOp op t (.string a) (.string b)) w (Post E γ W K) := by
 cases op <;> simp only [binS, Option.some.injEq, reduceCtorEq] at h
 all_goals
  subst h
  exact ⟨_, w, by simp [binOp, Op.stringOp], Post.same' hk hW rfl⟩
theorem run_eqGuard_cell {P : Program} {w : World} {op : BinOp} {t : TypeId} {x y : Operand} {a b : Value} (h : match a, b with | .nilIface, .nilIface => False | .agg _, .agg _ => False | _, _ => True) : (eqGuard op t x y a b).run P w = .ok () w := by
 unfold eqGuard
 cases op <;> first | rfl | (cases a <;> cases b <;> first | exact h.elim | rfl)
theorem eq_ok {op : BinOp} {t : TypeId} {v u : Value} {r : Bool} (hop : op = .eql ∨ op = .neq) (hg : (match v, u with | .nilIface, .nilIface => False | .agg _, .agg _ => False | _, _ => True))
  (he : ∀ d, (Op.equalIn (d + 1) t v u).run E.P w = .ok r w) (h1 : binOp .eql t v u = (do pure (.bool (← Op.equal t v u)))) (h2 : binOp .neq t v u = (do pure (.bool (!(← Op.equal t v u))))) (x y : Operand) :
  (do eqGuard op t x y v u; binOp op t v u : Sem Value).run E.P w = .ok (.bool (if (op == .neq) then !r else r)) w := by
 have he' : (Op.equal t v u).run E.P w = .ok r w := he 9999
 rw [Sem.run_bind, run_eqGuard_cell hg, Result.andThen_ok]
 rcases hop with rfl | rfl
 ·rw [h1, Sem.run_bind, he']; rfl
 ·rw [h2, Sem.run_bind, he']; rfl
section eqs
variable {P : Program} {t e k : TypeId} {w : World} (d : Nat)
theorem eqIn_p1 (hu : P.underlying t = some (.pointer e)) (b : Option Addr) : (Op.equalIn (d + 1) t (.pointer none) (.pointer b)).run P w = .ok b.isNone w := by
 unfold Op.equalIn; rw [Sem.run_bind, run_underlying hu]; rfl
theorem eqIn_p2 (hu : P.underlying t = some (.pointer e)) (a : Addr) : (Op.equalIn (d + 1) t (.pointer (some a)) (.pointer none)).run P w = .ok false w := by
 unfold Op.equalIn; rw [Sem.run_bind, run_underlying hu]; rfl
theorem eqIn_s1 (hu : P.underlying t = some (.slice e)) (b : Option Addr) (n c m q : Nat) : (Op.equalIn (d + 1) t (.slice none n c) (.slice b m q)).run P w = .ok b.isNone w := by
 unfold Op.equalIn; rw [Sem.run_bind, run_underlying hu]; rfl
theorem eqIn_s2 (hu : P.underlying t = some (.slice e)) (a : Addr) (n c m q : Nat) : (Op.equalIn (d + 1) t (.slice (some a) n c) (.slice none m q)).run P w = .ok false w := by
 unfold Op.equalIn; rw [Sem.run_bind, run_underlying hu]; rfl
theorem eqIn_m1 (hu : P.underlying t = some (.map k e)) (b : Option Nat) : (Op.equalIn (d + 1) t (.map none) (.map b)).run P w = .ok b.isNone w := by
 unfold Op.equalIn; rw [Sem.run_bind, run_underlying hu]; rfl
theorem eqIn_m2 (hu : P.underlying t = some (.map k e)) (a : Nat) : (Op.equalIn (d + 1) t (.map (some a)) (.map none)).run P w = .ok false w := by
 unfold Op.equalIn; rw [Sem.run_bind, run_underlying hu]; rfl
theorem eqIn_f0 {a b : Array TypeId} {c : Bool} (hu : P.underlying t = some (.func a b c)) : (Op.equalIn (d + 1) t .nilFunc .nilFunc).run P w = .ok true w := by
 unfold Op.equalIn; rw [Sem.run_bind, run_underlying hu]; rfl
theorem eqIn_f1 {a b : Array TypeId} {c : Bool} (hu : P.underlying t = some (.func a b c)) (f : Fn) (x y : Array Value) : (Op.equalIn (d + 1) t .nilFunc (.func f x y)).run P w = .ok false w := by
 unfold Op.equalIn; rw [Sem.run_bind, run_underlying hu]; rfl
theorem eqIn_f2 {a b : Array TypeId} {c : Bool} (hu : P.underlying t = some (.func a b c)) (f : Fn) (x y : Array Value) : (Op.equalIn (d + 1) t (.func f x y) .nilFunc).run P w = .ok false w := by
 unfold Op.equalIn; rw [Sem.run_bind, run_underlying hu]; rfl
end eqs
set_option maxHeartbeats 1000000 in
theorem s_eqn {op : BinOp} {t : TypeId} {cat : Nat} {X Z Y : V} {v u : Value} (hop : op = .eql ∨ op = .neq) (hn : nilT E.P t = some cat) (hX : RelV γ X v) (hZ : RelV γ Z u) (hW : RelW E γ w W)
  (h : tsem (.eqn (op == .neq) cat) [X, Z] = some Y) (hk : K Y W) (x y : Operand) :
  SOk E.P (do eqGuard op t x y v u; binOp op t v u) w (Post E γ W K) := by
 simp only [tsem, Option.map_eq_some_iff] at h
 obtain ⟨r, hr, rfl⟩ := h
 have fin : (do eqGuard op t x y v u; binOp op t v u : Sem Value).run E.P w = .ok (.bool (if (op == .neq) then !r else r)) w → SOk E.P (do eqGuard op t x y v u; binOp op t v u) w (Post E γ W K) :=
  fun e => ⟨_, w, e, Post.same' hk hW rfl⟩
 apply fin
 unfold nilT at hn
 split at hn <;> rename_i hu <;> simp only [Option.some.injEq, reduceCtorEq] at hn <;> subst hn
 all_goals cases X <;> simp only [eqNil, reduceCtorEq] at hr
 all_goals cases Z <;> simp only [reduceCtorEq, Option.some.injEq] at hr
 all_goals subst hr
 all_goals simp only [RelV] at hX hZ
 case nilptr.nilptr => subst hX; subst hZ; exact eq_ok hop trivial (fun d => eqIn_p1 d hu _) rfl rfl x y
 case nilptr.ptr => obtain ⟨b, _, rfl⟩ := hZ; subst hX; exact eq_ok hop trivial (fun d => eqIn_p1 d hu _) rfl rfl x y
 case nilptr.vptr => obtain ⟨b, _, rfl⟩ := hZ; subst hX; exact eq_ok hop trivial (fun d => eqIn_p1 d hu _) rfl rfl x y
 case vptr.nilptr => obtain ⟨b, _, rfl⟩ := hX; subst hZ; exact eq_ok hop trivial (fun d => eqIn_p2 d hu _) rfl rfl x y
 case nilptr.cptr => obtain ⟨_, _, _, _, _, _, _, rfl⟩ := hZ; subst hX; exact eq_ok hop trivial (fun d => eqIn_p1 d hu _) rfl rfl x y
 case ptr.nilptr => obtain ⟨b, _, rfl⟩ := hX; subst hZ; exact eq_ok hop trivial (fun d => eqIn_p2 d hu _) rfl rfl x y
 case cptr.nilptr => obtain ⟨_, _, _, _, _, _, _, rfl⟩ := hX; subst hZ; exact eq_ok hop trivial (fun d => eqIn_p2 d hu _) rfl rfl x y
 case nilsl.nilsl => subst hX; subst hZ; exact eq_ok hop trivial (fun d => eqIn_s1 d hu _ _ _ _ _) rfl rfl x y
 case nilsl.slr => obtain ⟨_, _, _, rfl, _⟩ := hZ; subst hX; exact eq_ok hop trivial (fun d => eqIn_s1 d hu _ _ _ _ _) rfl rfl x y
 case slr.nilsl => obtain ⟨_, _, _, rfl, _⟩ := hX; subst hZ; exact eq_ok hop trivial (fun d => eqIn_s2 d hu _ _ _ _ _) rfl rfl x y
 case nilsl.slz => obtain ⟨_, rfl⟩ := hZ; subst hX; exact eq_ok hop trivial (fun d => eqIn_s1 d hu _ _ _ _ _) rfl rfl x y
 case slz.nilsl => obtain ⟨_, rfl⟩ := hX; subst hZ; exact eq_ok hop trivial (fun d => eqIn_s2 d hu _ _ _ _ _) rfl rfl x y
 case nilsl.sl => obtain ⟨_, _, _, _, _, _, _, _, rfl, _⟩ := hZ; subst hX; exact eq_ok hop trivial (fun d => eqIn_s1 d hu _ _ _ _ _) rfl rfl x y
 case sl.nilsl => obtain ⟨_, _, _, _, _, _, _, _, rfl, _⟩ := hX; subst hZ; exact eq_ok hop trivial (fun d => eqIn_s2 d hu _ _ _ _ _) rfl rfl x y
 case nilmap.nilmap => subst hX; subst hZ; exact eq_ok hop trivial (fun d => eqIn_m1 d hu _) rfl rfl x y
 case nilmap.map => obtain ⟨b, _, rfl⟩ := hZ; subst hX; exact eq_ok hop trivial (fun d => eqIn_m1 d hu _) rfl rfl x y
 case map.nilmap => obtain ⟨b, _, rfl⟩ := hX; subst hZ; exact eq_ok hop trivial (fun d => eqIn_m2 d hu _) rfl rfl x y
 case nilfn.nilfn => subst hX; subst hZ; exact eq_ok hop trivial (fun d => eqIn_f0 d hu) rfl rfl x y
 case nilfn.fn => obtain ⟨_, _, rfl, _⟩ := hZ; subst hX; exact eq_ok hop trivial (fun d => eqIn_f1 d hu _ _ _) rfl rfl x y
 case fn.nilfn => obtain ⟨_, _, rfl, _⟩ := hX; subst hZ; exact eq_ok hop trivial (fun d => eqIn_f2 d hu _ _ _) rfl rfl x y
theorem run_part {P : Program} {t : TypeId} {g : Bool} {s off : Nat} {cs : List V} {l : List Value} {X : V} (hg : isAggT P t = some g) (hs : sizeT P t = some s) (hl : RelL γ cs l) (h : partV cs off s g = some X) (w : World) :
  ∃ v, (part t l.toArray off).run P w = .ok v w ∧ RelV γ X v := by
 have hlen := hl.length
 unfold part
 rw [Sem.run_bind, run_isAggT hg, Result.andThen_ok]
 cases g
 ·simp only [partV, Bool.false_eq_true, if_false] at h ⊢
  obtain ⟨v, hv, hr⟩ := hl.get h
  exact ⟨v, by simp [hv], hr⟩
 ·simp only [partV, if_true] at h ⊢
  split at h
  ·cases h
   exact ⟨.agg ((l.drop off).take s).toArray, by simp [run_sizeT hs, Nat.add_sub_cancel_left], ⟨_, rfl, (hl.drop off).take s⟩⟩
  ·cases h
theorem s_fldv {t : TypeId} {fs : Array Field} {i s : Nat} {f : Field} {g : Bool} {X Y : V} {v : Value} (hu : E.P.underlying t = some (.struct fs)) (hf : fs[i]? = some f) (hg : isAggT E.P f.type = some g) (hs : sizeT E.P f.type = some s)
  (hr : RelV γ X v) (hW : RelW E γ w W) (h : tsem (.fldv f.offset s g) [X] = some Y) (hk : K Y W) : SOk E.P (Instr.field t v i) w (Post E γ W K) := by
 cases X <;> simp only [tsem, reduceCtorEq] at h
 obtain ⟨l, rfl, hl⟩ := hr
 obtain ⟨u, h1, h2⟩ := run_part hg hs hl h w
 exact ⟨u, w, by simp [Instr.field, run_underlying hu, hf, asAgg, h1], Post.same' hk hW h2⟩
theorem s_idxv {t e : TypeId} {n s : Nat} {g : Bool} {X I Y : V} {v iv : Value} (hu : E.P.underlying t = some (.array n e)) (hg : isAggT E.P e = some g) (hs : sizeT E.P e = some s)
  (hr : RelV γ X v) (hi : RelV γ I iv) (hW : RelW E γ w W) (h : tsem (.idxv n s g) [X, I] = some Y) (hk : K Y W) : SOk E.P (Instr.index t v iv) w (Post E γ W K) := by
 cases X <;> cases I <;> simp only [tsem, reduceCtorEq] at h
 case agg.int cs k i =>
  split at h
  ·rename_i hc
   obtain ⟨l, rfl, hl⟩ := hr
   cases hi
   obtain ⟨u, h1, h2⟩ := run_part hg hs hl h w
   exact ⟨u, w, by simp [Instr.index, run_underlying hu, asInt_int, run_sizeT hs, hc.1, hc.2, h1], Post.same' hk hW h2⟩
  ·cases h
theorem s_idxs {t : TypeId} {X I Y : V} {v iv : Value} (hu : E.P.underlying t = some .string)
  (hr : RelV γ X v) (hi : RelV γ I iv) (hW : RelW E γ w W) (h : tsem .idxs [X, I] = some Y) (hk : K Y W) : SOk E.P (Instr.index t v iv) w (Post E γ W K) := by
 cases X <;> cases I <;> simp only [tsem, reduceCtorEq] at h
 case str.int s k i =>
  split at h
  ·rename_i hc
   simp only [Option.map_eq_some_iff] at h
   obtain ⟨b, hb, rfl⟩ := h
   cases hr
   cases hi
   exact ⟨_, w, by simp [Instr.index, run_underlying hu, asInt_int, hc, hb], Post.same' hk hW rfl⟩
  ·cases h
theorem s_ext {i : Nat} {X Y : V} {v : Value} (hr : RelV γ X v) (hW : RelW E γ w W) (h : tsem (.ext i) [X] = some Y) (hk : K Y W) : SOk E.P (Instr.extract v i) w (Post E γ W K) := by
 cases X <;> simp only [tsem, reduceCtorEq] at h
 obtain ⟨ws, rfl, hl⟩ := hr
 obtain ⟨u, h1, h2⟩ := hl.get h
 exact ⟨u, w, by simp [Instr.extract, h1], Post.same' hk hW h2⟩
theorem s_un {op : UnOp} {X Y : V} {v : Value} (hr : RelV γ X v) (hW : RelW E γ w W) (h : tsem (.un op) [X] = some Y) (hk : K Y W) : SOk E.P (Op.unary op v) w (Post E γ W K) := by
 cases op <;> cases X <;> simp only [tsem, reduceCtorEq] at h
 all_goals
  cases h
  cases hr
  exact ⟨_, w, by simp [Op.unary, Op.intArith], Post.same' hk hW rfl⟩
theorem s_conv {src dst : TypeId} {j k : IntKind} {X Y : V} {v : Value} (h1 : E.P.underlying src = some (.int j)) (h2 : E.P.underlying dst = some (.int k)) (hr : RelV γ X v) (hW : RelW E γ w W)
  (h : tsem (.conv k) [X] = some Y) (hk : K Y W) : SOk E.P (convert src dst v) w (Post E γ W K) := by
 cases X <;> simp only [tsem, reduceCtorEq] at h
 cases h
 cases hr
 exact ⟨_, w, by simp [convert, run_underlying h1, run_underlying h2, Conv.intToInt], Post.same' hk hW rfl⟩
end Go.AL
namespace Go.AL
open RowKit
variable {γ : G} {E : Env} {w : World} {W : AW} {K : V → AW → Prop} {P : Program}
def litV : V → Lit
 | .bool b => .bool b
 | .int k n => .int k n
 | .str s => .string s.data.toList
 | _ => .bool false
theorem hasKs_append : ∀ {a b : List SK} {cells : List V}, V.hasKs (a ++ b) cells = true → ∃ c d, cells = c ++ d ∧ V.hasKs a c = true ∧ V.hasKs b d = true ∧ c.length = a.length
 | [], b, cells, h => ⟨[], cells, rfl, rfl, h, rfl⟩
 | k :: a, b, [], h => by simp [V.hasKs] at h
 | k :: a, b, v :: vs, h => by
  simp only [List.cons_append, V.hasKs, Bool.and_eq_true] at h
  obtain ⟨c, d, rfl, h1, h2, h3⟩ := hasKs_append h.2
  exact ⟨v :: c, d, rfl, by simp [V.hasKs, h.1, h1], h2, by simp [h3]⟩
theorem hasKs_length : ∀ {a : List SK} {cells : List V}, V.hasKs a cells = true → cells.length = a.length
 | [], [], _ => rfl
 | [], _ :: _, h => by simp [V.hasKs] at h
 | _ :: _, [], h => by simp [V.hasKs] at h
 | _ :: _, _ :: _, h => by simp only [V.hasKs, Bool.and_eq_true] at h; simp [hasKs_length h.2]
theorem keyLits_items {d : Nat} {e : TypeId} {s : List SK} (hs : P.cellsOf e = s.length)
  (ih : ∀ cells l, V.hasKs s cells = true → RelL γ cells l → P.keyLits d e l = some (cells.map litV)) : ∀ (n : Nat) (cells : List V) (l : List Value), V.hasKs (List.replicate n s).flatten cells = true → RelL γ cells l →
  ∃ ls, (List.range n).mapM (fun i => P.keyLits d e ((l.drop (i * P.cellsOf e)).take (P.cellsOf e))) = some ls ∧ ls.flatten = cells.map litV
 | 0, cells, l, h, _ => by
  have := hasKs_length h
  simp at this
  subst this
  exact ⟨[], by simp, rfl⟩
 | n + 1, cells, l, h, hl => by
  rw [List.replicate_succ', List.flatten_append] at h
  obtain ⟨c, dd, rfl, h1, h2, h3⟩ := hasKs_append h
  obtain ⟨a, b, rfl, g1, g2⟩ := hl.split
  obtain ⟨ls, e1, e2⟩ := keyLits_items hs ih n c a h1 g1
  have hal : a.length = n * s.length := by rw [g1.length, h3]; simp
  have hbl : b.length = s.length := by rw [g2.length, hasKs_length h2]; simp
  refine ⟨ls ++ [dd.map litV], ?_, by simp [e2]⟩
  rw [List.range_succ, List.mapM_append]
  have hpre : (List.range n).mapM (fun i => P.keyLits d e (((a ++ b).drop (i * P.cellsOf e)).take (P.cellsOf e))) = (List.range n).mapM (fun i => P.keyLits d e ((a.drop (i * P.cellsOf e)).take (P.cellsOf e))) := by
   have congrM : ∀ (is : List Nat) (f g : Nat → Option (List Lit)), (∀ i ∈ is, f i = g i) → is.mapM f = is.mapM g := by
    intro is f g
    induction is with
    | nil => intro _; rfl
    | cons x xs ih2 => intro hfg; rw [List.mapM_cons, List.mapM_cons, hfg x (by simp), ih2 (fun y hy => hfg y (by simp [hy]))]
   refine congrM _ _ _ (fun i hi => ?_)
   have hi' : i < n := by simpa using hi
   have : i * s.length + s.length ≤ n * s.length := by
    have := Nat.mul_le_mul_right s.length (show i + 1 ≤ n from hi')
    rw [Nat.add_mul] at this; omega
   rw [hs, List.drop_append_of_le_length (by omega), List.take_append_of_le_length (by simp; omega)]
  rw [hpre, e1]
  have hlast : P.keyLits d e (((a ++ b).drop (n * P.cellsOf e)).take (P.cellsOf e)) = some (dd.map litV) := by
   rw [hs, ← hal, List.drop_left, List.take_of_length_le (by omega)]
   exact ih dd b (by simpa using h2) g2
  simp [hlast]
theorem keyLits_fields {d : Nat} {fl : TypeId → Option (List SK)} (ih : ∀ t s cells l, fl t = some s → V.hasKs s cells = true → RelL γ cells l → P.keyLits d t l = some (cells.map litV)) :
  ∀ (fs : List Field) (off : Nat) (sh : List SK) (cells : List V) (l pre : List Value), runsT P fl off fs = some sh → pre.length = off → V.hasKs sh cells = true → RelL γ cells l →
  ∃ ls, fs.mapM (fun f => P.keyLits d f.type (((pre ++ l).drop f.offset).take (P.cellsOf f.type))) = some ls ∧ ls.flatten = cells.map litV
 | [], off, sh, cells, l, pre, h, _, hk, _ => by
  simp only [runsT, Option.some.injEq] at h
  subst h
  cases cells with
  | nil => exact ⟨[], by simp, rfl⟩
  | cons => simp [V.hasKs] at hk
 | f :: fs, off, sh, cells, l, pre, h, hp, hk, hl => by
  simp only [runsT] at h
  cases hf : fl f.type with
  | none => simp [hf] at h
  | some s =>
   simp only [hf] at h
   split at h
   ·rename_i hc
    obtain ⟨h1, h2, h3⟩ := hc
    simp only [Option.map_eq_some_iff] at h
    obtain ⟨r, hr, rfl⟩ := h
    obtain ⟨c, dd, rfl, k1, k2, k3⟩ := hasKs_append hk
    obtain ⟨a, b, rfl, g1, g2⟩ := hl.split
    have hal : a.length = s.length := by rw [g1.length, k3]
    obtain ⟨ls, e1, e2⟩ := keyLits_fields ih fs (off + s.length) r dd b (pre ++ a) hr (by simp [hp, hal]) k2 g2
    refine ⟨c.map litV :: ls, ?_, by simp [e2]⟩
    have hfirst : P.keyLits d f.type (((pre ++ (a ++ b)).drop f.offset).take (P.cellsOf f.type)) = some (c.map litV) := by
     rw [h1, ← hp, List.drop_left, h2, ← hal, List.take_left]
     exact ih f.type s c a hf k1 g1
    rw [List.mapM_cons, hfirst]
    rw [← List.append_assoc, e1]
    rfl
   ·cases h
theorem flat_keyLits : ∀ (d : Nat) (t : TypeId) (sh : List SK) (cells : List V) (l : List Value), (P.keyTypeAt d t = true) → flatT P d t = some sh → V.hasKs sh cells = true → RelL γ cells l → P.keyLits d t l = some (cells.map litV)
 | 0, _, _, _, _, _, h, _, _ => by simp [flatT] at h
 | d + 1, t, sh, cells, l, hkt, h, hk, hl => by
  unfold flatT at h
  unfold Program.keyLits
  unfold Program.keyTypeAt at hkt
  cases hu : P.underlying t with
  | none => simp [hu] at h
  | some dd =>
   cases dd <;> simp only [hu, reduceCtorEq, Option.some.injEq] at h
   case bool =>
    subst h
    match cells, hk, hl with
    | [.bool b], _, hl => obtain ⟨v, l', rfl, hv, hl'⟩ := hl; simp only [RelL] at hl'; cases hv; subst hl'; rfl
   case int k =>
    subst h
    match cells, hk, hl with
    | .int k' n :: _ :: _, hk, _ => simp [V.hasKs] at hk
    | [.int k' n], hk, hl =>
     obtain ⟨v, l', rfl, hv, hl'⟩ := hl
     simp only [RelL] at hl'
     cases hv; subst hl'
     simp only [V.hasKs, V.hasK, Bool.and_eq_true, decide_eq_true_eq, and_true] at hk
     obtain ⟨rfl, hwf⟩ := hk
     simp [hwf, litV]
   case string =>
    subst h
    match cells, hk, hl with
    | .str s :: _ :: _, hk, _ => simp [V.hasKs] at hk
    | [.str s], hk, hl =>
     obtain ⟨v, l', rfl, hv, hl'⟩ := hl
     simp only [RelL] at hl'
     cases hv; subst hl'
     simp only [V.hasKs, V.hasK, Bool.and_eq_true, decide_eq_true_eq, and_true] at hk
     simp [hk, litV]
   case array n e =>
    simp only [hu] at hkt
    cases hf : flatT P d e with
    | none => simp [hf] at h
    | some s =>
     simp only [hf] at h
     split at h
     ·rename_i hc
      cases h
      obtain ⟨ls, e1, e2⟩ := keyLits_items hc.1 (fun c l hc' hl' => flat_keyLits d e s c l hkt hf hc' hl') n cells l hk hl
      have hlen : l.length = P.cellsOf t := by rw [hl.length, hasKs_length hk, hc.2]; simp
      simp only [hlen, if_true, e1, Option.map_some, e2]
     ·cases h
   case struct fs =>
    simp only [hu, Bool.and_eq_true] at hkt
    cases hf : runsT P (flatT P d) 0 fs.toList with
    | none => simp [hf] at h
    | some s =>
     simp only [hf] at h
     split at h
     ·rename_i hc
      cases h
      have hfs : ∀ f ∈ fs.toList, P.keyTypeAt d f.type = true := fun f hf => by
       have := Array.all_eq_true_iff_forall_mem.1 hkt.1.1 f (Array.mem_toList_iff.1 hf)
       simp only [Bool.and_eq_true] at this
       exact this.2
      have hnames : (fs.all (·.name != "_")) = true := Array.all_eq_true_iff_forall_mem.2 fun f hf => by
       have := Array.all_eq_true_iff_forall_mem.1 hkt.1.1 f hf
       simp only [Bool.and_eq_true] at this
       exact this.1
      have key : ∃ ls, fs.toList.mapM (fun f => P.keyLits d f.type ((l.drop f.offset).take (P.cellsOf f.type))) = some ls ∧ ls.flatten = cells.map litV := by
       have := keyLits_fields (γ := γ) (P := P) (d := d) (fl := fun t => if P.keyTypeAt d t then flatT P d t else none)
        (fun t s c l h1 h2 h3 => by
         split at h1
         ·rename_i hkt'; exact flat_keyLits d t s c l hkt' h1 h2 h3
         ·cases h1) fs.toList 0 sh cells l [] ?_ rfl hk hl
       ·simpa using this
       ·have cong : ∀ (gs : List Field) off, (∀ f ∈ gs, P.keyTypeAt d f.type = true) → runsT P (fun t => if P.keyTypeAt d t then flatT P d t else none) off gs = runsT P (flatT P d) off gs := by
         intro gs
         induction gs with
         | nil => intro off _; rfl
         | cons g gs ih =>
          intro off hg
          simp only [runsT, hg g (by simp), if_true]
          cases flatT P d g.type with
          | none => rfl
          | some s => simp only [ih _ (fun f hf => hg f (by simp [hf]))]
        rw [cong _ _ hfs]; exact hf
      obtain ⟨ls, e1, e2⟩ := key
      have hlen : l.length = P.cellsOf t := by rw [hl.length, hasKs_length hk, hc]
      simp only [hlen, hnames, and_self, if_true, e1, Option.map_some, e2]
     ·cases h
theorem eqs_lits : ∀ {sh : List SK} {a b : List V}, V.hasKs sh a = true → V.hasKs sh b = true → (V.eqs a b = true ↔ a.map litV = b.map litV)
 | [], [], [], _, _ => by simp [V.eqs]
 | [], _ :: _, _, h, _ => by simp [V.hasKs] at h
 | [], [], _ :: _, _, h => by simp [V.hasKs] at h
 | _ :: _, [], _, h, _ => by simp [V.hasKs] at h
 | _ :: _, _ :: _, [], _, h => by simp [V.hasKs] at h
 | k :: sh, x :: a, y :: b, h1, h2 => by
  simp only [V.hasKs, Bool.and_eq_true] at h1 h2
  have ih := eqs_lits h1.2 h2.2
  simp only [V.eqs, Bool.and_eq_true, ih, mcs, List.cons.injEq]
  refine and_congr_left (fun _ => ?_)
  have g1 := h1.1
  have g2 := h2.1
  cases k <;> cases x <;> simp [V.hasK] at g1 <;> cases y <;> simp [V.hasK] at g2
  ·simp [V.eq1, litV]
  ·obtain ⟨rfl, _⟩ := g1; obtain ⟨rfl, _⟩ := g2; simp [V.eq1, litV]
  ·rename_i a b
   show (a == b) = true ↔ Lit.string a.data.toList = Lit.string b.data.toList
   have hd : (a == b) = (a.data == b.data) := rfl
   rw [hd, beq_iff_eq, Lit.string.injEq, Array.toList_inj]
end Go.AL
namespace Go.AL
open RowKit
variable {γ : G} {E : Env} {w : World} {W : AW} {K : V → AW → Prop} {P : Program}
theorem shT_spec {t : TypeId} {sh : Bool × List SK} (h : shT P t = some sh) : P.keyTypeAt 20 t = true ∧ P.eqGuardType P.depth t = false ∧ isAggT P t = some sh.1 ∧ flatT P 20 t = some sh.2 := by
 unfold shT at h
 split at h
 ·rename_i hc
  simp only [Bool.and_eq_true, Bool.not_eq_true'] at hc
  split at h
  ·rename_i g l h1 h2; cases h; exact ⟨hc.1, hc.2, h1, h2⟩
  ·cases h
 ·cases h
theorem scalar_of {x : V} {l : List SK} (ha : x.isAgg = false) (h : V.hasKs l x.cells = true) : (∃ b, x = .bool b) ∨ (∃ k n, x = .int k n) ∨ (∃ s, x = .str s) := by
 rw [V.cells_lone ha] at h
 cases l with
 | nil => simp [V.hasKs] at h
 | cons k ks =>
  simp only [V.hasKs, Bool.and_eq_true] at h
  cases k <;> cases x <;> simp [V.hasK] at h
  ·exact .inl ⟨_, rfl⟩
  ·exact .inr (.inl ⟨_, _, rfl⟩)
  ·exact .inr (.inr ⟨_, rfl⟩)
theorem flat_formed {t : TypeId} {sh : Bool × List SK} (h : shT P t = some sh) {x : V} {v : Value} (hx : x.has sh = true) (hr : RelV γ x v) :
  v.formed P t = true ∧ P.keyLits 20 t v.cells.toList = some (x.cells.map litV) := by
 obtain ⟨h1, h2, h3, h4⟩ := shT_spec h
 simp only [V.has, Bool.and_eq_true, beq_iff_eq] at hx
 refine ⟨?_, flat_keyLits 20 t sh.2 x.cells _ h1 h4 hx.2 hr.cells⟩
 unfold isAggT at h3
 simp only [Option.map_eq_some_iff] at h3
 obtain ⟨d, hd, hg⟩ := h3
 have hlen := hasKs_length hx.2
 cases hag : sh.1
 ·rw [hag] at hg hx
  have hform : ∀ u : Value, (∀ cs, u ≠ .agg cs) → (∀ ws, u ≠ .tuple ws) → u.formed P t = true := by
   intro u h1 h2
   unfold Value.formed
   split
   ·exact absurd rfl (h1 _)
   ·exact absurd rfl (h2 _)
   ·simp only [hd]
    cases d <;> simp_all
  rcases scalar_of hx.1 hx.2 with ⟨b, rfl⟩ | ⟨k, n, rfl⟩ | ⟨s, rfl⟩ <;> cases hr <;> exact hform _ (by simp) (by simp)
 ·rw [hag] at hg hx
  cases x <;> simp [V.isAgg] at hx
  rename_i cs
  obtain ⟨vs, rfl, hl⟩ := hr
  have hl2 := hl.length
  have hcell : P.cellsOf t = sh.2.length := by
   unfold flatT at h4
   simp only [hd] at h4
   cases d <;> simp at hg <;> simp only [] at h4
   ·split at h4
    ·cases h4
    ·split at h4
     ·rename_i hc; rw [← Option.some.inj h4, hc.2]; simp
     ·cases h4
   ·split at h4
    ·cases h4
    ·split at h4
     ·rename_i hc; rw [← Option.some.inj h4]; exact hc
     ·cases h4
  simp only [Value.formed, hd]
  simp only [V.cells] at hlen
  cases d <;> simp at hg <;> simp [hl2, hlen, hcell]
theorem run_equal_flat {t : TypeId} {sh : Bool × List SK} (h : shT P t = some sh) {x y : V} {v u : Value} (hx : x.has sh = true) (hy : y.has sh = true) (hr : RelV γ x v) (hs : RelV γ y u) (w : World) :
  (Op.equal t v u).run P w = .ok (x.keq y) w := by
 obtain ⟨f1, k1⟩ := flat_formed h hx hr
 obtain ⟨f2, k2⟩ := flat_formed h hy hs
 obtain ⟨h1, _⟩ := shT_spec h
 obtain ⟨r, hr', hiff⟩ := run_equalIn_deep 9980 20 t h1 w 20 20 v u _ _ f1 f2 k1 k2
 have hx' := hx; have hy' := hy
 simp only [V.has, Bool.and_eq_true] at hx' hy'
 rw [← eqs_lits hx'.2 hy'.2] at hiff
 have : r = x.keq y := by
  unfold V.keq
  cases r <;> cases hq : V.eqs x.cells y.cells <;> simp_all
 rw [← this]
 exact hr'
theorem s_eqv {op : BinOp} {t : TypeId} {sh : Bool × List SK} {X Z Y : V} {v u : Value} (hop : op = .eql ∨ op = .neq) (hni : isIntT P t = false) (hns : isStrT P t = false) (hsh : shT P t = some sh) (hX : RelV γ X v) (hZ : RelV γ Z u)
  (h : tsem (.eqv (op == .neq) sh) [X, Z] = some Y) (x y : Operand) (w : World) :
  ∃ b, Y = .bool b ∧ (do eqGuard op t x y v u; binOp op t v u : Sem Value).run P w = .ok (.bool b) w := by
 simp only [tsem] at h
 split at h
 ·rename_i hc
  simp only [Bool.and_eq_true] at hc
  cases h
  refine ⟨_, rfl, ?_⟩
  have he := run_equal_flat hsh hc.1 hc.2 hX hZ w
  obtain ⟨h1, h2, h3, h4⟩ := shT_spec hsh
  have hx := hc.1; have hz := hc.2
  simp only [V.has, Bool.and_eq_true, beq_iff_eq] at hx hz
  have hg : (eqGuard op t x y v u).run P w = .ok () w := by
   by_cases hag : sh.1 = true
   ·cases X <;> simp [V.isAgg, hag] at hx
    cases Z <;> simp [V.isAgg, hag] at hz
    obtain ⟨vs, rfl, _⟩ := hX
    obtain ⟨us, rfl, _⟩ := hZ
    rcases hop with rfl | rfl <;> simp [eqGuard, h2]
   ·have ha : X.isAgg = false := by rw [hx.1]; simpa using hag
    have hsc := hx.2
    rw [V.cells_lone ha] at hsc
    refine run_eqGuard_cell ?_
    cases hs2 : sh.2 with
    | nil => rw [hs2] at hsc; simp [V.hasKs] at hsc
    | cons k ks =>
     rw [hs2] at hsc
     simp only [V.hasKs, Bool.and_eq_true] at hsc
     cases k <;> cases X <;> simp [V.hasK] at hsc <;> cases hX <;> trivial
  have hb : binOp op t v u = if op = .eql then (do pure (.bool (← Op.equal t v u))) else (do pure (.bool (!(← Op.equal t v u)))) := by
   have hshape : (∃ a b, v = .agg a ∧ u = .agg b) ∨ (∃ a b, v = .bool a ∧ u = .bool b) := by
    by_cases hag : sh.1 = true
    ·cases X <;> simp [V.isAgg, hag] at hx
     cases Z <;> simp [V.isAgg, hag] at hz
     obtain ⟨vs, rfl, _⟩ := hX
     obtain ⟨us, rfl, _⟩ := hZ
     exact .inl ⟨_, _, rfl, rfl⟩
    ·right
     have ha : X.isAgg = false := by rw [hx.1]; simpa using hag
     have hb : Z.isAgg = false := by rw [hz.1]; simpa using hag
     have h5 := hx.2
     have h6 := hz.2
     rw [V.cells_lone ha] at h5
     rw [V.cells_lone hb] at h6
     have hl : sh.2 = [.b] := by
      unfold isAggT at h3
      simp only [Option.map_eq_some_iff] at h3
      obtain ⟨d, hd, hgg⟩ := h3
      unfold flatT at h4
      simp only [hd] at h4
      simp only [isIntT, isStrT, hd] at hni hns
      cases d <;> simp [hag] at hgg hni hns h4
      exact h4.symm
     rw [hl] at h5 h6
     cases X <;> simp [V.hasKs, V.hasK] at h5
     cases Z <;> simp [V.hasKs, V.hasK] at h6
     cases hX; cases hZ
     exact ⟨_, _, rfl, rfl⟩
   rcases hshape with ⟨a, b, rfl, rfl⟩ | ⟨a, b, rfl, rfl⟩ <;> rcases hop with rfl | rfl <;> rfl
  rw [Sem.run_bind, hg, Result.andThen_ok, hb]
  rcases hop with rfl | rfl
  ·simp only [if_true, Sem.run_bind, he]; rfl
  ·simp only [reduceCtorEq, if_false, Sem.run_bind, he]; rfl
 ·cases h
theorem run_checkKey_flat {t : TypeId} {sh : Bool × List SK} (h : shT P t = some sh) {x : V} {v : Value} (hx : x.has sh = true) (hr : RelV γ x v) (em : Bool) (w : World) : (Instr.checkKey em 10000 t v).run P w = .ok () w := by
 obtain ⟨f1, k1⟩ := flat_formed h hx hr
 obtain ⟨h1, _⟩ := shT_spec h
 exact run_checkKey_deep em 9980 20 t h1 w 20 v _ f1 k1
theorem run_findAsking_flat {t : TypeId} {sh : Bool × List SK} (h : shT P t = some sh) {x : V} {v : Value} (hx : x.has sh = true) (hr : RelV γ x v) (w : World) :
  ∀ (es : List (V × V × Nat)) (mes : List MapEntry) (i : Nat), RelEs γ es mes → (∀ e ∈ es, e.1.has sh = true) →
   (findK x es = none ∧ (Instr.findAsking t v mes i).run P w = .ok none w) ∨
   (∃ e j me, findK x es = some e ∧ mes[j]? = some me ∧ RelV γ e.2.1 me.val ∧ x.keq e.1 = true ∧ RelV γ e.1 me.key ∧ me.born = e.2.2 ∧ es[j]? = some e ∧ (∀ j' e', j' < j → es[j']? = some e' → x.keq e'.1 = false) ∧ (Instr.findAsking t v mes i).run P w = .ok (some (i + j, me.val)) w)
 | [], mes, i, hr', _ => by simp only [RelEs] at hr'; subst hr'; exact .inl ⟨rfl, by simp [Instr.findAsking]⟩
 | (k, y, n) :: es, _, i, ⟨me, mes, rfl, r1, r2, r3, r4⟩, hall => by
  have he := run_equal_flat h hx (hall (k, y, n) (by simp)) hr r1 w
  cases hk : x.keq k
  ·rw [hk] at he
   rcases run_findAsking_flat h hx hr w es mes (i + 1) r4 (fun e he => hall e (by simp [he])) with ⟨h1, h2⟩ | ⟨e, j, me', g1, g2, g3, g4, g5, g6, g7, g8, g9⟩
   ·exact .inl ⟨by simp [findK, hk, h1], by simp [Instr.findAsking, he, h2]⟩
   ·refine .inr ⟨e, j + 1, me', by simp [findK, hk, g1], by simpa using g2, g3, g4, g5, g6, by simpa using g7, ?_, by simp [Instr.findAsking, he, g9, Nat.add_assoc, Nat.add_comm 1 j]⟩
    intro j' e' hj' he'
    cases j' with
    | zero => simp at he'; subst he'; exact hk
    | succ j' => simp at he'; exact g8 j' e' (by omega) he'
  ·rw [hk] at he
   exact .inr ⟨(k, y, n), 0, me, by simp [findK, hk], rfl, r2, hk, r1, r3, rfl, fun j' _ hj' _ => absurd hj' (by omega), by simp [Instr.findAsking, he]⟩
theorem sameNow_equal {t : TypeId} {d : TypeDesc} (hd : P.underlying t = some d) {v u : Value} {q : Bool} (hq : Instr.sameNow d v u = some q) : (Op.equal t v u).run P w = .ok q w := by
 unfold Op.equal Op.maxDepth
 show (Op.equalIn (9999 + 1) t v u).run P w = _
 unfold Op.equalIn
 rw [Sem.run_bind, run_underlying hd, Result.andThen_ok]
 unfold Instr.sameNow at hq
 split at hq
 ·split at hq
  ·rename_i k a k' b hkk
   cases hq
   subst hkk
   show Sem.run P (if k = k then pure (a == b) else stuck "==: kinds differ") w = _
   rw [if_pos rfl]
   rfl
  ·cases hq
 ·cases hq; rfl
 ·cases hq; rfl
 ·cases hq
theorem run_findKey_flat {t : TypeId} {sh : Bool × List SK} (h : shT P t = some sh) {x : V} {v : Value} (hx : x.has sh = true) (hr : RelV γ x v) (w : World)
  (es : List (V × V × Nat)) (mes : List MapEntry) (hes : RelEs γ es mes) (hall : ∀ e ∈ es, e.1.has sh = true) :
   (findK x es = none ∧ (Instr.findKey t v mes).run P w = .ok none w) ∨
   (∃ e j me, findK x es = some e ∧ mes[j]? = some me ∧ RelV γ e.2.1 me.val ∧ x.keq e.1 = true ∧ RelV γ e.1 me.key ∧ me.born = e.2.2 ∧ es[j]? = some e ∧ (∀ j' e', j' < j → es[j']? = some e' → x.keq e'.1 = false) ∧ (Instr.findKey t v mes).run P w = .ok (some (j, me.val)) w) := by
 obtain ⟨d, hd⟩ : ∃ d, P.underlying t = some d := by
  obtain ⟨_, _, h3, _⟩ := shT_spec h
  unfold isAggT at h3
  simp only [Option.map_eq_some_iff] at h3
  obtain ⟨d, hd, _⟩ := h3
  exact ⟨d, hd⟩
 have ask := run_findAsking_flat h hx hr w es mes 0 hes hall
 simp only [Nat.zero_add] at ask
 -- findNow, where it answers, answers as findAsking does
 have now : ∀ (es : List (V × V × Nat)) (mes : List MapEntry) (i : Nat) r, RelEs γ es mes → (∀ e ∈ es, e.1.has sh = true) → Instr.findNow d v mes i = some r → (Instr.findAsking t v mes i).run P w = .ok r w := by
  intro es
  induction es with
  | nil => intro mes i r hr' _ hn; simp only [RelEs] at hr'; subst hr'; simp only [Instr.findNow, Option.some.injEq] at hn; subst hn; simp [Instr.findAsking]
  | cons e es ih =>
   obtain ⟨k, y, n⟩ := e
   rintro _ i r ⟨me, mes, rfl, r1, r2, r3, r4⟩ hall hn
   have he := run_equal_flat h hx (hall (k, y, n) (by simp)) hr r1 w
   unfold Instr.findNow at hn
   have hsame : ∀ q, Instr.sameNow d v me.key = some q → (Op.equal t v me.key).run P w = .ok q w := fun q hq => sameNow_equal hd hq
   split at hn
   ·rename_i hq
    cases hn
    simp [Instr.findAsking, hsame _ hq]
   ·rename_i hq
    simp [Instr.findAsking, hsame _ hq, ih mes (i + 1) r r4 (fun e he => hall e (by simp [he])) hn]
   ·cases hn
 have same : (Instr.findKey t v mes).run P w = (Instr.findAsking t v mes 0).run P w := by
  unfold Instr.findKey
  rw [Sem.run_bind, run_underlying hd, Result.andThen_ok]
  cases hn : Instr.findNow d v mes 0 with
  | none => rfl
  | some r => simp [now es mes 0 r hes hall hn]
 rw [same]
 exact ask
end Go.AL
namespace Go.AL
open RowKit
variable {γ : G} {E : Env} {w : World} {W : AW} {K : V → AW → Prop}
theorem eqs_eq : ∀ {sh : List SK} {a b : List V}, V.hasKs sh a = true → V.hasKs sh b = true → V.eqs a b = true → a = b
 | [], [], [], _, _, _ => rfl
 | [], _ :: _, _, h, _, _ => by simp [V.hasKs] at h
 | [], [], _ :: _, _, h, _ => by simp [V.hasKs] at h
 | _ :: _, [], _, h, _, _ => by simp [V.hasKs] at h
 | _ :: _, _ :: _, [], _, h, _ => by simp [V.hasKs] at h
 | k :: sh, x :: a, y :: b, h1, h2, he => by
  simp only [V.hasKs, Bool.and_eq_true] at h1 h2
  simp only [V.eqs, Bool.and_eq_true] at he
  rw [eqs_eq h1.2 h2.2 he.2]
  congr 1
  have g1 := h1.1
  have g2 := h2.1
  have g3 := he.1
  cases k <;> cases x <;> simp [V.hasK] at g1 <;> cases y <;> simp [V.hasK] at g2
  ·simpa [V.eq1] using g3
  ·obtain ⟨rfl, _⟩ := g1; obtain ⟨rfl, _⟩ := g2; simpa [V.eq1] using g3
  ·rename_i a b
   have hd : (a.data == b.data) = true := g3
   rw [beq_iff_eq] at hd
   rw [ByteArray.ext hd]
theorem keq_eq {sh : Bool × List SK} {x y : V} (hx : x.has sh = true) (hy : y.has sh = true) (h : x.keq y = true) : x = y := by
 simp only [V.has, Bool.and_eq_true, beq_iff_eq] at hx hy
 have := eqs_eq hx.2 hy.2 h
 by_cases hg : sh.1 = true
 ·cases x <;> simp [V.isAgg, hg] at hx
  cases y <;> simp [V.isAgg, hg] at hy
  simp only [V.cells] at this
  rw [this]
 ·have h1 : x.isAgg = false := by rw [hx.1]; simpa using hg
  have h2 : y.isAgg = false := by rw [hy.1]; simpa using hg
  rw [V.cells_lone h1, V.cells_lone h2] at this
  simpa using this
theorem flat_same_L : ∀ {sh : List SK} {a : List V} {l m : List Value}, V.hasKs sh a = true → RelL γ a l → RelL γ a m → l = m ∧ ∀ v ∈ l, ∀ n, Instr.sameBits n v v = true
 | [], [], l, m, _, h1, h2 => by simp only [RelL] at h1 h2; subst h1; subst h2; simp
 | [], _ :: _, _, _, h, _, _ => by simp [V.hasKs] at h
 | _ :: _, [], _, _, h, _, _ => by simp [V.hasKs] at h
 | k :: sh, x :: a, _, _, h, ⟨v, l, rfl, r1, r2⟩, ⟨u, m, rfl, q1, q2⟩ => by
  simp only [V.hasKs, Bool.and_eq_true] at h
  obtain ⟨rfl, hs⟩ := flat_same_L h.2 r2 q2
  have g1 := h.1
  have : v = u ∧ ∀ n, Instr.sameBits n v v = true := by
   cases k <;> cases x <;> simp [V.hasK] at g1 <;> cases r1 <;> cases q1 <;> exact ⟨rfl, fun n => by
    cases n
    all_goals first
     | (simp [Instr.sameBits]; done)
     | (simp [Instr.sameBits]; show (ByteArray.data _ == ByteArray.data _) = true; simp)⟩
  obtain ⟨rfl, hb⟩ := this
  refine ⟨rfl, fun v' hv' => ?_⟩
  rcases List.mem_cons.1 hv' with rfl | hv'
  ·exact hb
  ·exact hs v' hv'
theorem flat_same {sh : Bool × List SK} {x : V} {v u : Value} (hx : x.has sh = true) (h1 : RelV γ x v) (h2 : RelV γ x u) : v = u ∧ Instr.sameBits 10000 v v = true := by
 simp only [V.has, Bool.and_eq_true, beq_iff_eq] at hx
 obtain ⟨e, hb⟩ := flat_same_L hx.2 h1.cells h2.cells
 by_cases hg : sh.1 = true
 ·cases x <;> simp [V.isAgg, hg] at hx
  obtain ⟨vs, rfl, _⟩ := h1
  obtain ⟨us, rfl, _⟩ := h2
  have e' : vs = us := e
  subst e'
  refine ⟨rfl, ?_⟩
  show (vs.toArray.size == vs.toArray.size && (vs.toArray.toList.zip vs.toArray.toList).all fun (x, y) => Instr.sameBits 9999 x y) = true
  simp only [beq_self_eq_true, Bool.true_and, List.all_eq_true]
  rintro ⟨a, b⟩ hab
  have hmem : a = b ∧ a ∈ vs := by
   have := List.of_mem_zip hab
   refine ⟨?_, by simpa using this.1⟩
   obtain ⟨i, hi⟩ := List.mem_iff_getElem?.1 hab
   simp only [List.getElem?_zip_eq_some] at hi
   rw [hi.1] at hi
   exact Option.some.inj hi.2
  obtain ⟨rfl, hm⟩ := hmem
  exact hb a (by simpa [Value.cells] using hm) 9999
 ·have ha : x.isAgg = false := by rw [hx.1]; simpa using hg
  rw [h1.lone ha, h2.lone ha] at e
  have e' : v = u := by simpa using e
  subst e'
  exact ⟨rfl, hb v (by rw [h1.lone ha]; simp) 10000⟩
theorem RelEs.length : ∀ {es : List (V × V × Nat)} {l : List MapEntry}, RelEs γ es l → l.length = es.length
 | [], _, h => by simp only [RelEs] at h; simp [h]
 | (_, _, _) :: _, _, ⟨e, l', h0, _, _, _, h⟩ => by subst h0; simp [RelEs.length h]
theorem RelEs.append : ∀ {es fs : List (V × V × Nat)} {l m : List MapEntry}, RelEs γ es l → RelEs γ fs m → RelEs γ (es ++ fs) (l ++ m)
 | [], _, _, _, h, h' => by simp only [RelEs] at h; subst h; simpa using h'
 | (_, _, _) :: _, _, _, _, ⟨e, l', h0, h1, h2, h3, h⟩, h' => by subst h0; exact ⟨e, _, rfl, h1, h2, h3, RelEs.append h h'⟩
theorem RelEs.upd {k x : V} {kv xv : Value} (hk : RelV γ k kv) (hx : RelV γ x xv) : ∀ {es : List (V × V × Nat)} {l : List MapEntry} {j : Nat} {e : V × V × Nat}, RelEs γ es l → es[j]? = some e → k.keq e.1 = true →
  (∀ j' e', j' < j → es[j']? = some e' → k.keq e'.1 = false) → RelEs γ (updK k x es) (l.modify j fun e => { e with key := kv, val := xv })
 | [], _, _, _, _, h, _, _ => by simp at h
 | (a, b, n) :: es, _, 0, e, ⟨me, l', rfl, h1, h2, h3, h4⟩, he, hq, _ => by
  simp only [List.getElem?_cons_zero, Option.some.injEq] at he
  subst he
  simp only [updK, hq, if_true]
  exact ⟨{ me with key := kv, val := xv }, l', by simp, hk, hx, h3, h4⟩
 | (a, b, n) :: es, _, j + 1, e, ⟨me, l', rfl, h1, h2, h3, h4⟩, he, hq, hlt => by
  have hn := hlt 0 (a, b, n) (by omega) rfl
  simp only [updK, hn, Bool.false_eq_true, if_false]
  exact ⟨me, l'.modify j _, by simp, h1, h2, h3, RelEs.upd hk hx h4 (by simpa using he) hq (fun j' e' hj he' => hlt (j' + 1) e' (by omega) (by simpa using he'))⟩
theorem RelV.tuple2 {x y : V} {v u : Value} (h1 : RelV γ x v) (h2 : RelV γ y u) : RelV γ (.tuple [x, y]) (.tuple #[v, u]) := ⟨[v, u], rfl, v, [u], rfl, h1, u, [], rfl, h2, rfl⟩
theorem underlying_of_sh {P : Program} {w : World} {t : TypeId} {sh : Bool × List SK} (h : shT P t = some sh) : ∃ d, (underlying t).run P w = .ok d w := by
 obtain ⟨_, _, h3, _⟩ := shT_spec h
 unfold isAggT at h3
 simp only [Option.map_eq_some_iff] at h3
 obtain ⟨d, hd, _⟩ := h3
 exact ⟨d, run_underlying hd w⟩
theorem s_lookup {t k e : TypeId} {sh : Bool × List SK} {z : V} {ok : Bool} {X Y : V} {v u : Value} (hu : E.P.underlying t = some (.map k e)) (hsh : shT E.P k = some sh) (hz : zeroT E.P e = some z)
  (hX : RelV γ X v) (hY : RelV γ Y u) (hW : RelW E γ w W) (h : sem E (.lookup sh z ok) [X, Y] W K) : SOk E.P (Instr.lookup t v u ok) w (Post E γ W K) := by
 obtain ⟨zv, hzr, hzrel⟩ := run_zeroT hz γ w
 obtain ⟨d, hd⟩ := underlying_of_sh (w := w) hsh
 cases X <;> simp only [sem, rsem, tsem] at h
 case nilmap =>
  cases hX
  have hck := run_checkKey_flat hsh h.1 hY true w
  cases ok
  ·exact ⟨zv, w, by simp [Instr.lookup, run_underlying hu, hck, Instr.findKey, Instr.findNow, hd, hzr], Post.same' h.2 hW hzrel⟩
  ·exact ⟨_, w, by simp [Instr.lookup, run_underlying hu, hck, Instr.findKey, Instr.findNow, hd, hzr], Post.same' h.2 hW (hzrel.tuple2 rfl)⟩
 case map r =>
  split at h
  ·rename_i es clock hobj
   obtain ⟨⟨hk1, hk2⟩, h⟩ := h
   obtain ⟨b, hb, rfl⟩ := hX
   obtain ⟨b', mes, hb', hheap, hes⟩ := hW.obj r _ hobj
   rw [hb] at hb'; cases hb'
   have hck := run_checkKey_flat hsh hk1 hY mes.isEmpty w
   have hget : (getObj b).run E.P w = .ok (.map mes.toArray clock) w := by simp [getObj, Sem.run, hheap]
   rcases run_findKey_flat hsh hk1 hY w es mes hes hk2 with ⟨h1, h2⟩ | ⟨e', j, me, h1, h2, h3, _, _, _, _, _, h9⟩
   ·rw [h1] at h
    cases ok
    ·exact ⟨zv, w, by simp [Instr.lookup, run_underlying hu, hget, hck, h2, hzr], Post.same' h hW hzrel⟩
    ·exact ⟨_, w, by simp [Instr.lookup, run_underlying hu, hget, hck, h2, hzr], Post.same' h hW (hzrel.tuple2 rfl)⟩
   ·rw [h1] at h
    cases ok
    ·exact ⟨me.val, w, by simp [Instr.lookup, run_underlying hu, hget, hck, h9], Post.same' h hW h3⟩
    ·exact ⟨_, w, by simp [Instr.lookup, run_underlying hu, hget, hck, h9], Post.same' h hW (h3.tuple2 rfl)⟩
  ·exact h.elim
 all_goals exact h.elim
theorem below_setObj {B b : Nat} (h : B ≤ b) (o : Obj) : Below B w { w with heap := w.heap.setIfInBounds b o } :=
 ⟨⟨rfl, rfl, rfl, by simp, fun k hk => by
  show (w.heap.setIfInBounds b o)[k]? = _
  rw [Array.getElem?_setIfInBounds_ne (by omega)]⟩, lr _⟩
theorem heap_setObj {b : Nat} {o o' : Obj} (h : w.heap[b]? = some o') : ({ w with heap := w.heap.setIfInBounds b o } : World).heap[b]? = some o := by
 show (w.heap.setIfInBounds b o)[b]? = _
 have := (Array.getElem?_eq_some_iff.1 h).1
 simp [this]
theorem s_mupd {t k e : TypeId} {sh : Bool × List SK} {X Y Z : V} {v u x : Value} (hu : E.P.underlying t = some (.map k e)) (hsh : shT E.P k = some sh)
  (hX : RelV γ X v) (hY : RelV γ Y u) (hZ : RelV γ Z x) (hW : RelW E γ w W) (h : sem E (.mupd sh) [X, Y, Z] W K) :
  ∃ w', (Instr.mapUpdate t v u x).run E.P w = .ok () w' ∧ Post E γ W K undef w' := by
 cases X <;> simp only [sem, rsem, tsem] at h
 case map r =>
  split at h
  ·rename_i es clock hobj
   obtain ⟨⟨hk1, hk2⟩, h⟩ := h
   obtain ⟨b, hb, rfl⟩ := hX
   obtain ⟨b', mes, hb', hheap, hes⟩ := hW.obj r _ hobj
   rw [hb] at hb'; cases hb'
   have hck := run_checkKey_flat hsh hk1 hY false w
   have hget : (getObj b).run E.P w = .ok (.map mes.toArray clock) w := by simp [getObj, Sem.run, hheap]
   have hset : ∀ m' c', (setObj b (.map m' c')).run E.P w = .ok () { w with heap := w.heap.setIfInBounds b (.map m' c') } := fun m' c' => by simp [setObj, Sem.run, hheap]
   obtain ⟨hB, _, _⟩ := hW.apart r _ b hobj hb
   rcases run_findKey_flat hsh hk1 hY w es mes hes hk2 with ⟨h1, h2⟩ | ⟨e', j, me, h1, h2, h3, h4, h5, h6, h7, h8, h9⟩
   ·rw [h1] at h
    refine ⟨_, by simp only [Instr.mapUpdate, Sem.run_bind, run_underlying hu, Result.andThen_ok, hget, hck, h2, hset]; rfl, γ, .undef, W.put r (.map (es ++ [(Y, Z, clock)]) (clock + 1)), G.le.refl _ _, lr _, ?_, ⟨[], rfl, rfl⟩, h⟩
    refine hW.setObj hobj hb (by rw [hheap]; simp) (below_setObj hB _) (by simp) (fun k' hk' => ?_) ⟨b, mes ++ [{ key := u, val := x, born := clock }], hb, ?_, hes.append ⟨_, [], rfl, hY, hZ, rfl, rfl⟩⟩
    ·show (w.heap.setIfInBounds b _)[k']? = _
     rw [Array.getElem?_setIfInBounds_ne (Ne.symm hk')]
    ·rw [heap_setObj hheap]; simp
   ·rw [h1] at h
    have hee : Y = e'.1 := keq_eq hk1 (hk2 e' (List.mem_of_getElem? h7)) h4
    obtain ⟨hsame, hbits⟩ := flat_same hk1 hY (hee ▸ h5)
    have hstay : (Instr.keyThatStays me.key u).run E.P w = .ok u w := by
     unfold Instr.keyThatStays
     rw [← hsame, if_pos hbits]
     rfl
    have hkey : (((mes.toArray[j]?).map (·.key)).getD u) = me.key := by simp [h2]
    refine ⟨_, by simp only [Instr.mapUpdate, Sem.run_bind, run_underlying hu, Result.andThen_ok, hget, hck, h9, hkey, hstay, hset]; rfl, γ, .undef, W.put r (.map (updK Y Z es) clock), G.le.refl _ _, lr _, ?_, ⟨[], rfl, rfl⟩, h⟩
    refine hW.setObj hobj hb (by rw [hheap]; simp) (below_setObj hB _) (by simp) (fun k' hk' => ?_) ⟨b, mes.modify j fun e => { e with key := u, val := x }, hb, ?_, hes.upd hY hZ h7 h4 h8⟩
    ·show (w.heap.setIfInBounds b _)[k']? = _
     rw [Array.getElem?_setIfInBounds_ne (Ne.symm hk')]
    ·rw [heap_setObj hheap]
     congr 2
     apply Array.ext'
     simp
  ·exact h.elim
 all_goals exact h.elim
end Go.AL
namespace Go.AL
open RowKit
variable {γ : G} {E : Env} {w : World} {W : AW} {K : V → AW → Prop}
def G.addGen (γ : G) (b r : Nat) (l : List Value) (z : Nat) : G :=
 ⟨γ.obj, fun x => if x = b then some r else γ.own x, fun x => if x = b then some (l, z) else γ.con x, γ.kn, γ.dfr, γ.vb, γ.tk⟩
theorem G.le_addGen {n b r : Nat} {l : List Value} {z : Nat} (h : γ.con b = none) (h' : γ.own b = none) : G.le n γ (γ.addGen b r l z) where
 obj _ _ := rfl
 own x q h1 _ := by
  have : x ≠ b := fun e => by rw [e, h'] at h1; cases h1
  simp [G.addGen, this, h1]
 con x c s hx := ⟨[], by
  have : x ≠ b := fun e => by rw [e, h] at hx; cases hx
  simp [G.addGen, this, hx]⟩
 kn _ h _ := h
 dfr _ h := h
 vb _ _ := rfl
 tk _ _ := rfl
theorem gen_con {b r : Nat} {l t : List Value} {e : TypeId} (h : RelW E γ w W) (hb : b = w.heap.size) : ∀ x c sz, (γ.addGen b r l (l ++ t).length).con x = some (c, sz) →
  ∃ t' e' fz, (w.alloc (.cells (l ++ t).toArray e (0, 0))).heap[x]? = some (.cells (c ++ t').toArray e' fz) ∧ (c ++ t').length = sz := by
 subst hb
 intro x c sz hx
 simp only [G.addGen] at hx
 split at hx
 ·rename_i hxb
  subst hxb
  cases hx
  exact ⟨t, e, (0, 0), heap_alloc_new _ _, rfl⟩
 ·rename_i hxb
  obtain ⟨t', e', fz, h1, h2⟩ := h.con x c sz hx
  exact ⟨t', e', fz, (Below.heap_alloc w _ x (con_lt h hx)).trans h1, h2⟩
theorem RelW.newBuf (h : RelW E γ w W) {np : Bool} {s : Nat} {xs : List V} {l t : List Value} (hs : 0 < s) (hl : RelE γ s xs l) (hne : xs ≠ []) (e : TypeId) :
  RelW E (γ.addGen w.heap.size W.nx l (l ++ t).length) (w.alloc (.cells (l ++ t).toArray e (0, 0))) (W.alloc (.buf np s xs)) ∧ G.le W.nx γ (γ.addGen w.heap.size W.nx l (l ++ t).length) := by
 have hle : G.le W.nx γ (γ.addGen w.heap.size W.nx l (l ++ t).length) := G.le_addGen (con_new h) (own_new h)
 refine ⟨?_, hle⟩
 have h' := h.junk (.cells (l ++ t).toArray e (0, 0))
 exact {
  below := h'.below
  base := h'.base
  con := gen_con h rfl
  own := fun b r ho => by
   simp only [G.addGen] at ho
   split at ho
   ·rename_i hb
    subst hb
    exact ⟨⟨l, _, by simp [G.addGen]; rfl⟩, h.base, _, e, heap_alloc_new _ _⟩
   ·rename_i hb
    obtain ⟨⟨c, sz, h1⟩, h2, h3⟩ := h'.own b r ho
    exact ⟨⟨c, sz, by simp [G.addGen, hb, h1]⟩, h2, h3⟩
  obj := fun r o ho => by
   by_cases hr : r = W.nx
   ·subst hr
    simp only [AW.alloc, if_true, Option.some.injEq] at ho
    subst ho
    refine ⟨hs, some w.heap.size, ?_, (fun b hb => by cases hb; simp [G.addGen]), (fun hc => by cases hc), fun _ hx => absurd hx hne⟩
    intro b hb
    simp only [G.addGen] at hb
    split at hb
    ·rename_i hbb
     subst hbb
     exact ⟨l, (l ++ t).length, xs.length, by simp [G.addGen], by rw [hl.length], lr _, by simpa using RelE.mono h.bd hle _ _ _ hl, fun hc => absurd rfl hc, fun _ => rfl⟩
    ·exact absurd (h.bd.own b _ hb) (by omega)
   ·simp only [AW.alloc, hr, if_false] at ho
    have hrl := h.lt r o ho
    refine (h'.obj r o ho).frame hle h.bd hrl (fun _ _ => rfl) (fun b hb => ?_) (fun b hb => ?_)
    ·simp only [G.addGen] at hb
     split at hb
     ·cases hb; omega
     ·exact hb
    ·have : b ≠ w.heap.size := fun e => by rw [e, own_new h] at hb; cases hb
     simp [G.addGen, this]
  bd := ⟨fun r b hb => by have := h.bd.obj r b hb; simp only [AW.alloc]; omega, fun b r hb => by
   simp only [G.addGen] at hb
   split at hb
   ·cases hb; simp [AW.alloc]
   ·have := h.bd.own b r hb; simp only [AW.alloc]; omega,
   fun r hr => by have := h.bd.kn r hr; simp only [AW.alloc]; omega⟩
  lt := fun r o ho => by
   by_cases hr : r = W.nx
   ·subst hr; simp [AW.alloc]
   ·simp only [AW.alloc, hr, if_false] at ho
    have := h.lt r o ho; simp only [AW.alloc]; omega
  inj := fun r r' o o' b ho ho' hb hb' => by
   have q : ∀ r o, (W.alloc (.buf np s xs)).get r = some o → γ.obj r = some b → W.get r = some o := fun r o ho hb => by
    by_cases hr : r = W.nx
    ·subst hr; exact absurd (h.bd.obj _ _ hb) (by omega)
    ·simpa [AW.alloc, hr] using ho
   exact h.inj r r' o o' b (q r o ho hb) (q r' o' ho' hb') hb hb'
  apart := fun r o b ho hb => by
   by_cases hr : r = W.nx
   ·subst hr; exact absurd (h.bd.obj _ _ hb) (by omega)
   ·simp only [AW.alloc, hr, if_false] at ho
    obtain ⟨h1, h2, h3⟩ := h.apart r o b ho hb
    have : b ≠ w.heap.size := by omega
    exact ⟨h1, by simp; omega, by simp [G.addGen, this, h3]⟩
  glob := fun g cells hg => RelV.mono h.bd hle _ _ (h.glob g cells hg)
  dfr := h'.dfr
  dfrB := h.dfrB
  ext := h.ext.trans hle h.n0
  n0 := by have := h.n0; simp only [AW.alloc]; omega }
theorem RelW.growBuf (h : RelW E γ w W) {np : Bool} {r s : Nat} {xs ys : List V} {l t : List Value} (hr : W.get r = some (.buf np s xs)) (hl : RelE γ s (xs ++ ys) l) (hne : ys ≠ []) (e : TypeId) :
  RelW E (γ.addGen w.heap.size r l (l ++ t).length) (w.alloc (.cells (l ++ t).toArray e (0, 0))) (W.put r (.buf np s (xs ++ ys))) ∧ G.le W.nx γ (γ.addGen w.heap.size r l (l ++ t).length) := by
 have hle : G.le W.nx γ (γ.addGen w.heap.size r l (l ++ t).length) := G.le_addGen (con_new h) (own_new h)
 refine ⟨?_, hle⟩
 have h' := h.junk (.cells (l ++ t).toArray e (0, 0))
 have hyl : 0 < ys.length := by cases ys with | nil => exact absurd rfl hne | cons => simp
 have hput : ∀ r' o, (W.put r (.buf np s (xs ++ ys))).get r' = some o → ∃ o', W.get r' = some o' ∧ (r' ≠ r → o' = o) := fun r' o ho => by
  by_cases hrr : r' = r
  ·subst hrr; exact ⟨_, hr, fun hc => absurd rfl hc⟩
  ·simp only [AW.put, hrr, if_false] at ho; exact ⟨o, ho, fun _ => rfl⟩
 exact {
  below := h'.below
  base := h'.base
  con := gen_con h rfl
  own := fun b r ho => by
   simp only [G.addGen] at ho
   split at ho
   ·rename_i hb
    subst hb
    exact ⟨⟨l, _, by simp [G.addGen]; rfl⟩, h.base, _, e, heap_alloc_new _ _⟩
   ·rename_i hb
    obtain ⟨⟨c, sz, h1⟩, h2, h3⟩ := h'.own b r ho
    exact ⟨⟨c, sz, by simp [G.addGen, hb, h1]⟩, h2, h3⟩
  obj := fun r' o ho => by
   by_cases hrr : r' = r
   ·subst hrr
    simp only [AW.put, if_true, Option.some.injEq] at ho
    subst ho
    obtain ⟨hs, cur, g1, g2, g3, g4⟩ := h.obj r' _ hr
    refine ⟨hs, some w.heap.size, ?_, (fun b hb => by cases hb; simp [G.addGen]), (fun hc => by cases hc), fun _ hx => absurd hx (by simp [hne])⟩
    intro b hb
    simp only [G.addGen] at hb
    split at hb
    ·rename_i hbb
     subst hbb
     exact ⟨l, (l ++ t).length, (xs ++ ys).length, by simp [G.addGen], by rw [hl.length], lr _, by rw [List.take_of_length_le (lr _)]; exact RelE.mono h.bd hle _ _ _ hl, fun hc => absurd rfl hc, fun _ => rfl⟩
    ·rename_i hbb
     obtain ⟨c, sz, k, e1, e2, e3, e4, _⟩ := g1 b hb
     refine ⟨c, sz, k, by simp [G.addGen, hbb, e1], e2, by simp; omega, ?_, fun _ => by simp; omega, fun hc => ?_⟩
     ·rw [List.take_append_of_le_length e3]; exact RelE.mono h.bd hle _ _ _ e4
     ·cases hc; exact absurd rfl hbb
   ·simp only [AW.put, hrr, if_false] at ho
    refine (h'.obj r' o ho).frame hle h.bd (h.lt r' o ho) (fun _ _ => rfl) (fun b hb => ?_) (fun b hb => ?_)
    ·simp only [G.addGen] at hb
     split at hb
     ·cases hb; exact absurd rfl hrr
     ·exact hb
    ·have : b ≠ w.heap.size := fun e => by rw [e, own_new h] at hb; cases hb
     simp [G.addGen, this]
  bd := ⟨h.bd.obj, fun b r' hb => by
   simp only [G.addGen] at hb
   split at hb
   ·cases hb; exact h.lt r _ hr
   ·exact h.bd.own b r' hb, h.bd.kn⟩
  lt := fun r' o ho => by obtain ⟨o', h1, _⟩ := hput r' o ho; exact h.lt r' o' h1
  inj := fun r1 r2 o1 o2 b h1 h2 hb hb' => by
   obtain ⟨q1, e1, _⟩ := hput r1 o1 h1
   obtain ⟨q2, e2, _⟩ := hput r2 o2 h2
   exact h.inj r1 r2 q1 q2 b e1 e2 hb hb'
  apart := fun r' o b ho hb => by
   obtain ⟨o', e1, _⟩ := hput r' o ho
   obtain ⟨h1, h2, h3⟩ := h.apart r' o' b e1 hb
   have : b ≠ w.heap.size := by omega
   exact ⟨h1, by simp; omega, by simp [G.addGen, this, h3]⟩
  glob := fun g cells hg => RelV.mono h.bd hle _ _ (h.glob g cells hg)
  dfr := h'.dfr
  dfrB := h.dfrB
  ext := h.ext.trans hle h.n0
  n0 := h.n0 }
def G.setCon (γ : G) (b : Nat) (l : List Value) (z : Nat) : G := ⟨γ.obj, γ.own, fun x => if x = b then some (l, z) else γ.con x, γ.kn, γ.dfr, γ.vb, γ.tk⟩
theorem RelW.extendBuf {w' : World} (h : RelW E γ w W) {np : Bool} {r s b z : Nat} {xs ys : List V} {c l t : List Value} {e : TypeId} (hr : W.get r = some (.buf np s xs)) (hown : γ.own b = some r)
  (hcon : γ.con b = some (c, z)) (hz : (c ++ l ++ t).length = z) (hcx : c.length = xs.length * s) (hl : RelE γ s ys l) (hw' : w'.heap[b]? = some (.cells (c ++ l ++ t).toArray e (0, 0)))
  (hoth : ∀ k, k ≠ b → w'.heap[k]? = w.heap[k]?) (hsz : w'.heap.size = w.heap.size) (hbelow : Below E.B w w') :
  RelW E (γ.setCon b (c ++ l) z) w' (W.put r (.buf np s (xs ++ ys))) ∧ G.le W.nx γ (γ.setCon b (c ++ l) z) := by
 have hle : G.le W.nx γ (γ.setCon b (c ++ l) z) := ⟨fun _ _ => rfl, fun _ _ h1 _ => h1, fun x d q hx => by
  by_cases hxb : x = b
  ·subst hxb
   rw [hcon] at hx; cases hx
   exact ⟨l, by simp [G.setCon]⟩
  ·exact ⟨[], by simp [G.setCon, hxb, hx]⟩, fun _ h1 _ => h1, fun _ h1 => h1, fun _ _ => rfl, fun _ _ => rfl⟩
 refine ⟨?_, hle⟩
 obtain ⟨_, hB, a0, e0, hh0⟩ := h.own b r hown
 have hput : ∀ r' o, (W.put r (.buf np s (xs ++ ys))).get r' = some o → ∃ o', W.get r' = some o' := fun r' o ho => by
  by_cases hrr : r' = r
  ·subst hrr; exact ⟨_, hr⟩
  ·simp only [AW.put, hrr, if_false] at ho; exact ⟨o, ho⟩
 exact {
  below := h.below.trans hbelow
  base := by rw [hsz]; exact h.base
  con := fun x d q hx => by
   simp only [G.setCon] at hx
   split at hx
   ·rename_i hxb
    subst hxb
    cases hx
    exact ⟨t, e, (0, 0), hw', hz⟩
   ·rename_i hxb
    rw [hoth x hxb]; exact h.con x d q hx
  own := fun x r' hx => by
   obtain ⟨⟨d, q, h1⟩, h2, a, e', h3⟩ := h.own x r' hx
   by_cases hxb : x = b
   ·subst hxb
    exact ⟨⟨c ++ l, z, by simp [G.setCon]⟩, h2, _, e, hw'⟩
   ·exact ⟨⟨d, q, by simp [G.setCon, hxb, h1]⟩, h2, a, e', by rw [hoth x hxb]; exact h3⟩
  obj := fun r' o ho => by
   by_cases hrr : r' = r
   ·subst hrr
    simp only [AW.put, if_true, Option.some.injEq] at ho
    subst ho
    obtain ⟨hs, cur, g1, g2, g3, g4⟩ := h.obj r' _ hr
    obtain ⟨c', sz', k, e1, e2, e3, e4, e5, e6⟩ := g1 b hown
    rw [hcon] at e1
    cases e1
    have hk : k = xs.length := Nat.eq_of_mul_eq_mul_right hs (by omega)
    have hcur : cur = some b := by
     by_cases hc : cur = some b
     ·exact hc
     ·have := e5 hc; omega
    subst hcur
    refine ⟨hs, some b, ?_, g2, (fun hc => by cases hc), fun h1 h2 => ?_⟩
    ·intro x hx
     by_cases hxb : x = b
     ·subst hxb
      refine ⟨c ++ l, z, (xs ++ ys).length, by simp [G.setCon], by rw [lap, hcx, hl.length, lap, Nat.add_mul], lr _, ?_, fun hc => absurd rfl hc, fun _ => rfl⟩
      rw [List.take_of_length_le (lr _)]
      subst hk
      rw [List.take_of_length_le (lr _)] at e4
      exact (RelE.mono h.bd hle _ _ _ e4).append (RelE.mono h.bd hle _ _ _ hl)
     ·obtain ⟨d, q, k', f1, f2, f3, f4, f5, f6⟩ := g1 x hx
      have hk' : k' < xs.length := f5 (fun hc => hxb (Option.some.inj hc).symm)
      refine ⟨d, q, k', by simp [G.setCon, hxb, f1], f2, by simp; omega, ?_, fun _ => by simp; omega, fun hc => absurd (Option.some.inj hc).symm hxb⟩
      rw [List.take_append_of_le_length f3]; exact RelE.mono h.bd hle _ _ _ f4
    ·have hx0 : xs = [] := (List.append_eq_nil_iff.1 h2).1
     exact absurd hown (g4 h1 hx0 b)
   ·simp only [AW.put, hrr, if_false] at ho
    refine (h.obj r' o ho).frame hle h.bd (h.lt r' o ho) (fun x hx => ?_) (fun _ hx => hx) (fun x hx => ?_)
    ·have := (h.apart r' o x ho hx).2.2
     have hxb : x ≠ b := fun e => by rw [e, hcon] at this; cases this
     exact hoth x hxb
    ·have hxb : x ≠ b := fun e => by rw [e, hown] at hx; cases hx; exact hrr rfl
     simp [G.setCon, hxb]
  bd := ⟨h.bd.obj, h.bd.own, h.bd.kn⟩
  lt := fun r' o ho => by obtain ⟨o', h1⟩ := hput r' o ho; exact h.lt r' o' h1
  inj := fun r1 r2 o1 o2 x h1 h2 hb hb' => by
   obtain ⟨q1, e1⟩ := hput r1 o1 h1
   obtain ⟨q2, e2⟩ := hput r2 o2 h2
   exact h.inj r1 r2 q1 q2 x e1 e2 hb hb'
  apart := fun r' o x ho hx => by
   obtain ⟨o', e1⟩ := hput r' o ho
   obtain ⟨h1, h2, h3⟩ := h.apart r' o' x e1 hx
   have hxb : x ≠ b := fun e => by rw [e, hcon] at h3; cases h3
   exact ⟨h1, by rw [hsz]; exact h2, by simp [G.setCon, hxb, h3]⟩
  glob := fun g cells hg => RelV.mono h.bd hle _ _ (h.glob g cells hg)
  dfr := fun k hk => by
   have : k ≠ b := fun e => by have q := h.dfr k hk; rw [e, hh0] at q; cases q
   rw [hoth k this]; exact h.dfr k hk
  dfrB := h.dfrB
  ext := h.ext.trans hle h.n0
  n0 := h.n0 }
theorem growBy_le (n : Nat) : ∀ (k c : Nat), c ≤ 2 * n + 512 → Builtin.growBy n k c ≤ 2 * n + 512
 | 0, c, h => h
 | k + 1, c, h => by
  unfold Builtin.growBy
  split
  ·exact h
  ·exact growBy_le n k _ (by omega)
theorem nextslicecap_le (n o : Nat) (h : o < n) : Builtin.nextslicecap n o ≤ 2 * n + 512 := by
 unfold Builtin.nextslicecap
 split
 ·omega
 ·split
  ·omega
  ·exact growBy_le n 4 o (by omega)
theorem run_loadCells_con {P : Program} {b : Nat} {c t : List Value} {e : TypeId} {fz : Nat × Nat} (hh : w.heap[b]? = some (.cells (c ++ t).toArray e fz)) {pre l post : List Value} (hc : c = pre ++ l ++ post) :
  (loadCells ⟨b, pre.length, none⟩ l.length).run P w = .ok l.toArray w := by
 refine run_loadCells_list w _ l (fun j v hv => ?_)
 have hj : j < l.length := (List.getElem?_eq_some_iff.1 hv).1
 rw [addr_add, cell_of_heap hh, hc]
 simp only [List.getElem?_toArray, List.append_assoc]
 rw [List.getElem?_append_right (by omega), Nat.add_sub_cancel_left, List.getElem?_append_left hj]
 exact hv
theorem run_loadCells_zero {P : Program} {w : World} (a : Addr) : (loadCells a 0).run P w = .ok #[] w :=
 run_loadCells_list (P := P) w a [] (fun j v hv => by simp at hv)
theorem relE_one : ∀ {xs : List V} {l : List Value}, RelL γ xs l → xs.all V.one = true → RelE γ 1 xs l
 | [], _, h, _ => h
 | x :: xs, _, ⟨v, l', e, h1, h2⟩, ho => by
  simp only [List.all_cons, Bool.and_eq_true] at ho
  have hv := h1.cells
  have hx : x.cells = [x] := by cases x <;> first | rfl | simp [V.one] at ho
  rw [hx] at hv
  obtain ⟨v', l2, e2, h3, h4⟩ := hv
  simp only [RelL] at h4
  subst h4
  have hvc : v.cells.toList = [v] := by
   cases x <;> first
    | (exfalso; simp [V.one] at ho; done)
    | (cases v <;> first | rfl | (exfalso; simp [RelV] at h1; done))
  refine ⟨v, l', by rw [e, hvc]; rfl, ?_, h1, relE_one h2 ho.2⟩
  have : v.cells.toList.length = 1 := by rw [hvc]; rfl
  simpa using this
theorem chunks_len (s : Nat) : ∀ (n : Nat) (l : List V), (chunks s n l).length = n
 | 0, _ => rfl
 | n + 1, l => by simp [chunks, chunks_len s n]
theorem chunks_rel {s : Nat} (hs : 0 < s) : ∀ (n : Nat) {l : List V} {m : List Value}, RelL γ l m → n * s ≤ l.length → (l.take (n * s)).all V.one = true → RelE γ s (chunks s n l) (m.take (n * s))
 | 0, l, m, _, _, _ => by simp [chunks, RelE]
 | n + 1, l, m, h, hn, ho => by
  have e : (n + 1) * s = s + n * s := by rw [Nat.add_mul, Nat.one_mul, Nat.add_comm]
  rw [e] at hn ho ⊢
  have hml := h.length
  have tl := chunks_rel hs n (h.drop s) (by simp; omega) (by
   rw [List.take_add, List.all_append, Bool.and_eq_true] at ho
   exact ho.2)
  rw [List.take_add]
  by_cases h1 : s = 1
  ·subst h1
   match l, m, h with
   | x :: l', _, ⟨v, m', rfl, hv, h'⟩ =>
    have hx : x.one = true := by
     rw [List.take_add, List.all_append, Bool.and_eq_true] at ho
     simpa using ho.1
    have h0 := (relE_one (xs := [x]) (l := [v]) ⟨v, [], rfl, hv, rfl⟩ (by simp [hx]))
    obtain ⟨u, l2, e2, e3, e4, e5⟩ := h0
    simp only [RelE] at e5
    subst e5
    refine ⟨u, m'.take (n * 1), ?_, e3, ?_, ?_⟩
    ·rw [← apn u.cells.toList, ← e2]; simp
    ·simpa [chunks] using e4
    ·simpa [chunks] using tl
   | [], _, _ => simp at hn
  ·refine ⟨.agg (m.take s).toArray, (m.drop s).take (n * s), by simp [Value.cells], by simp [Value.cells]; omega, ?_, tl⟩
   simp only [h1, if_false]
   exact ⟨m.take s, rfl, h.take s⟩
theorem elems_sound {s : Nat} {Y : V} {yv : Value} {ys : List V} (he : elemsV s W Y = some ys) (hs : 0 < s) (hY : RelV γ Y yv) (hW : RelW E γ w W) :
  ∃ l, (Builtin.lenOf yv).run E.P w = .ok ys.length w ∧ (Builtin.firstCells s ys.length yv).run E.P w = .ok (List.toArray l) w ∧ RelE γ s ys l := by
 cases Y <;> simp only [elemsV, reduceCtorEq] at he
 case nilsl =>
  cases he
  cases hY
  exact ⟨[], rfl, rfl, rfl⟩
 case sl s' full xs =>
  split at he
  ·rename_i h1
   subst h1
   cases he
   obtain ⟨b, pre, l, post, sz, cap, hc, hl, rfl, _⟩ := hY
   obtain ⟨t, e, fz, hh, _⟩ := hW.con b _ sz hc
   refine ⟨l, rfl, ?_, hl⟩
   have := run_loadCells_con (P := E.P) hh rfl
   simpa [Builtin.firstCells, hl.length] using this
  ·cases he
 case buf np r s' m =>
  split at he
  ·rename_i np' s'' xs hobj
   split at he
   ·rename_i hc
    obtain ⟨rfl, rfl, rfl, hm⟩ := hc
    cases he
    obtain ⟨_, cur, g1, g2, g3, g4⟩ := hW.obj r _ hobj
    rcases hY with ⟨b, hown, c, sz, cap, hcon, h1, h2, h3, rfl, h4⟩ | ⟨⟨_, rfl⟩, rfl, rfl⟩
    ·obtain ⟨c', sz', k, e1, e2, e3, e4, _⟩ := g1 b hown
     rw [hcon] at e1; cases e1
     obtain ⟨t, e, fz, hh, _⟩ := hW.con b _ sz hcon
     have hmk : m ≤ k := Nat.le_of_mul_le_mul_right (by omega) hs
     have : xs.take k = xs.take m ++ (xs.take k).drop m := by
      rw [show xs.take m = (xs.take k).take m by rw [List.take_take, Nat.min_eq_left hmk], List.take_append_drop]
     rw [this] at e4
     obtain ⟨l, l2, rfl, r1, r2⟩ := e4.split
     refine ⟨l, by simp [Builtin.lenOf, hm], ?_, r1⟩
     have := run_loadCells_con (P := E.P) (pre := []) (l := l) (post := l2) hh rfl
     have hln : l.length = m * s := by rw [r1.length]; simp [hm]
     simpa [Builtin.firstCells, hm, hln] using this
    ·refine ⟨[], by simp [Builtin.lenOf], by simp [Builtin.firstCells], by simp [RelE]⟩
   ·cases he
  ·cases he
 case slz =>
  cases he
  obtain ⟨a, rfl⟩ := hY
  exact ⟨[], rfl, by simp [Builtin.firstCells, run_loadCells_zero], rfl⟩
 case slr r k len s' =>
  split at he
  ·rename_i s'' cells hobj
   split at he
   ·rename_i hc
    obtain ⟨rfl, rfl, hm, hone⟩ := hc
    cases he
    obtain ⟨b, a, hb, rfl, hcap, ha, _⟩ := hY
    obtain ⟨b', pre, c, t, e, hb', hheap, hp, hl, hz⟩ := hW.obj r _ hobj
    rw [hb] at hb'; cases hb'
    have hcl := hl.length
    rw [Nat.add_mul] at hm
    have hch := chunks_rel hs len (hl.drop (k * s)) (by simp; omega) hone
    refine ⟨(c.drop (k * s)).take (len * s), by simp [Builtin.lenOf, chunks_len], ?_, hch⟩
    rw [chunks_len]
    by_cases h0 : len = 0
    ·subst h0; simp [Builtin.firstCells, run_loadCells_zero]
    ·obtain rfl := ha (by omega)
     have := run_loadCells_con (P := E.P) (pre := pre ++ c.take (k * s)) (l := (c.drop (k * s)).take (len * s)) (post := (c.drop (k * s)).drop (len * s) ++ t) (c := pre ++ c ++ t) (t := []) (fz := (0, 0)) (by rw [apn]; exact hheap) (by
      simp only [List.append_assoc]
      rw [← List.append_assoc (List.take (len * s) _), List.take_append_drop, ← List.append_assoc (List.take (k * s) c), List.take_append_drop])
     have h2 : (pre ++ c.take (k * s)).length = (γ.vb r).1 + k * s := by simp; omega
     have h3 : ((c.drop (k * s)).take (len * s)).length = len * s := by simp; omega
     rw [h2, h3] at this
     simpa [Builtin.firstCells] using this
   ·cases he
  ·cases he
theorem RelE.one : ∀ {s : Nat} {xs : List V} {l : List Value}, RelE γ s xs l → (xs.all fun y => y.cells.all V.one) = true → ∀ v ∈ l, v.oneCell' = true
 | _, [], _, h, _ => by simp only [RelE] at h; subst h; simp
 | s, x :: xs, _, ⟨v, l', e, _, h1, h2⟩, ho => by
  subst e
  simp only [List.all_cons, Bool.and_eq_true] at ho
  intro u hu
  rcases List.mem_append.1 hu with hu | hu
  ·exact h1.cells.one ho.1 u hu
  ·exact RelE.one h2 ho.2 u hu
theorem run_append_grow' {P : Program} {t u ty e e2 : TypeId} {i : TypeInfo} {zv : Value} {n sLen sCap : Nat} {base : Option Addr} {yv : Value} {old new : List Value} (hu : P.underlying t = some (.slice e)) (hu2 : P.underlying u = some (.slice e2))
  (hi : P.info? e = some i) (hz : i.zero = some zv) (hb0 : 0 < i.bytes) (hb1 : i.bytes ≤ 2 ^ 30)
  (hlen : (Builtin.lenOf yv).run P w = .ok n w) (hnew : (Builtin.firstCells i.size n yv).run P w.drew = .ok new.toArray w.drew) (hold : (Builtin.firstCells i.size sLen (.slice base sLen sCap)).run P w.drew = .ok old.toArray w.drew)
  (hgrow : sCap < sLen + n) (hroom : (sLen + n) * i.bytes ≤ 2 ^ 46) :
   (Builtin.append_ #[t, u] ty #[.slice base sLen sCap, yv]).run P w = .ok (.slice (some ⟨w.heap.size, 0, none⟩) (sLen + n) (grownCap w (sLen + n) sCap e))
    (w.drew.alloc (.cells (old ++ new ++ (Builtin.zeroCells zv.cells (grownCap w (sLen + n) sCap e - (sLen + n))).toList).toArray e (0, 0))) := by
 have hnc : ¬ (sLen + n ≤ sCap) := by omega
 have h48 : ¬ (281474976710656 < Builtin.nextslicecap (sLen + n) sCap * i.bytes) := by
  have h3 := nextslicecap_le (sLen + n) sCap hgrow
  have h4 := Nat.mul_le_mul_right i.bytes h3
  rw [Nat.add_mul, Nat.mul_assoc] at h4
  have h5 : 512 * i.bytes ≤ 2 ^ 39 := by omega
  omega
 have hbn : ¬ (i.bytes = 0) := by omega
 simp [Builtin.append_, run_underlying hu, run_underlying hu2, sizeOf, typeInfo, zeroValue, hi, hz, hlen, hnc, hbn, h48, Question.forced, hnew, hold, newRow, grownCap]
 congr 2
 apply Array.ext'
 simp
theorem grownCap_le (w : World) (n o : Nat) (e : TypeId) : n ≤ grownCap w n o e := by
 show n ≤ n + _
 omega
theorem run_append_fits' {P : Program} {t u ty e e2 e0 : TypeId} {i : TypeInfo} {n sLen sCap b : Nat} {yv : Value} {cur new : List Value} (hu : P.underlying t = some (.slice e)) (hu2 : P.underlying u = some (.slice e2))
  (hi : P.info? e = some i) (hlen : (Builtin.lenOf yv).run P w = .ok n w) (hnew : (Builtin.firstCells i.size n yv).run P w = .ok new.toArray w) (h1 : ∀ v ∈ new, v.oneCell' = true)
  (hg : w.heap[b]? = some (.cells cur.toArray e0 (0, 0))) (hfit : sLen + n ≤ sCap) (hroom : sLen * i.size + new.length ≤ cur.length) :
  (Builtin.append_ #[t, u] ty #[.slice (some ⟨b, 0, none⟩) sLen sCap, yv]).run P w = .ok (.slice (some ⟨b, 0, none⟩) (sLen + n) sCap)
   (w.setRow b (cur.take (sLen * i.size) ++ new ++ cur.drop (sLen * i.size + new.length)).toArray) := by
 have hst := run_storeCells_at P b (sLen * i.size) e0 new 0 cur.toArray w hg (by simpa using hroom) h1
 simp only [Nat.add_zero] at hst
 simp [Builtin.append_, run_underlying hu, run_underlying hu2, sizeOf, typeInfo, hi, hlen, hfit, hnew, addr_add, hst]
theorem run_append_fits_at {P : Program} {t u ty e e2 e0 : TypeId} {i : TypeInfo} {n sLen sCap b o : Nat} {yv : Value} {cur new : List Value} (hu : P.underlying t = some (.slice e)) (hu2 : P.underlying u = some (.slice e2))
  (hi : P.info? e = some i) (hlen : (Builtin.lenOf yv).run P w = .ok n w) (hnew : (Builtin.firstCells i.size n yv).run P w = .ok new.toArray w) (h1 : ∀ v ∈ new, v.oneCell' = true)
  (hg : w.heap[b]? = some (.cells cur.toArray e0 (0, 0))) (hfit : sLen + n ≤ sCap) (hroom : o + sLen * i.size + new.length ≤ cur.length) :
  (Builtin.append_ #[t, u] ty #[.slice (some ⟨b, o, none⟩) sLen sCap, yv]).run P w = .ok (.slice (some ⟨b, o, none⟩) (sLen + n) sCap)
   (w.setRow b (cur.take (o + sLen * i.size) ++ new ++ cur.drop (o + sLen * i.size + new.length)).toArray) := by
 have hst := run_storeCells_at P b (o + sLen * i.size) e0 new 0 cur.toArray w hg (by simpa using hroom) h1
 simp only [Nat.add_zero] at hst
 simp [Builtin.append_, run_underlying hu, run_underlying hu2, sizeOf, typeInfo, hi, hlen, hfit, hnew, addr_add, hst]
theorem run_append_none {P : Program} {t u ty e e2 : TypeId} {i : TypeInfo} {sLen sCap : Nat} {base : Option Addr} {yv : Value} (hu : P.underlying t = some (.slice e)) (hu2 : P.underlying u = some (.slice e2))
  (hi : P.info? e = some i) (hlen : (Builtin.lenOf yv).run P w = .ok 0 w) (hnew : (Builtin.firstCells i.size 0 yv).run P w = .ok #[] w) (hfit : sLen ≤ sCap) :
  (Builtin.append_ #[t, u] ty #[.slice base sLen sCap, yv]).run P w = .ok (.slice base sLen sCap) w := by
 cases base <;> simp [Builtin.append_, run_underlying hu, run_underlying hu2, sizeOf, typeInfo, hi, hlen, hfit, hnew, storeCells]
theorem elems_any {s : Nat} {Y : V} {yv : Value} {ys : List V} (he : elemsV s W Y = some ys) (hs : 0 < s) (hY : RelV γ Y yv) (hW : RelW E γ w W) :
  ∃ l, (Builtin.lenOf yv).run E.P w = .ok ys.length w ∧ (∀ w', (∀ k, k < w.heap.size → w'.heap[k]? = w.heap[k]?) → (Builtin.firstCells s ys.length yv).run E.P w' = .ok (List.toArray l) w') ∧ RelE γ s ys l := by
 obtain ⟨l, h1, h2, h3⟩ := elems_sound he hs hY hW
 refine ⟨l, h1, fun w' hw' => ?_, h3⟩
 -- the cells are there in every later world
 cases Y <;> simp only [elemsV, reduceCtorEq] at he
 case nilsl =>
  cases he
  cases hY
  simp only [RelE] at h3
  subst h3
  rfl
 case sl s' full xs =>
  split at he
  ·rename_i h1
   subst h1
   cases he
   obtain ⟨b, pre, l', post, sz, cap, hc, hl, rfl, _⟩ := hY
   obtain ⟨t, e, fz, hh, _⟩ := hW.con b _ sz hc
   have ha := run_loadCells_con (P := E.P) hh rfl
   have hb := run_loadCells_con (P := E.P) (w := w') (by rw [hw' b (con_lt hW hc)]; exact hh) rfl
   simp only [Builtin.firstCells, ← hl.length] at h2 ⊢
   rw [ha] at h2
   rw [hb]
   cases h2
   rfl
  ·cases he
 case buf np r s' m =>
  split at he
  ·rename_i np' s'' xs hobj
   split at he
   ·rename_i hc
    obtain ⟨rfl, rfl, rfl, hm⟩ := hc
    cases he
    obtain ⟨_, cur, g1, g2, g3, g4⟩ := hW.obj r _ hobj
    rcases hY with ⟨b, hown, c, sz, cap, hcon, q1, q2, q3, rfl, q4⟩ | ⟨⟨_, rfl⟩, rfl, rfl⟩
    ·obtain ⟨t, e, fz, hh, _⟩ := hW.con b _ sz hcon
     have hcl : (xs.take m).length * s = (c.take (m * s)).length := by rw [ltk, Nat.min_eq_left hm, ltk, Nat.min_eq_left q1]
     have ha := run_loadCells_con (P := E.P) (pre := []) (l := c.take (m * s)) (post := c.drop (m * s)) hh (by simp)
     have hb := run_loadCells_con (P := E.P) (w := w') (pre := []) (l := c.take (m * s)) (post := c.drop (m * s)) (by rw [hw' b (con_lt hW hcon)]; exact hh) (by simp)
     simp only [Builtin.firstCells, hcl] at h2 ⊢
     simp only [List.length_nil] at ha hb
     rw [ha] at h2
     rw [hb]
     cases h2
     rfl
    ·simp only [List.take_zero, RelE] at h3
     subst h3
     rfl
   ·cases he
  ·cases he
 case slz =>
  cases he
  obtain ⟨a, rfl⟩ := hY
  simp only [RelE] at h3
  subst h3
  simp [Builtin.firstCells, run_loadCells_zero]
 case slr r k len s' =>
  split at he
  ·rename_i s'' cells hobj
   split at he
   ·rename_i hc
    obtain ⟨rfl, rfl, hm, hone⟩ := hc
    cases he
    obtain ⟨b, a, hb, rfl, hcap, ha, _⟩ := hY
    obtain ⟨b', pre, c, t, e, hb', hheap, hp, hl, hz⟩ := hW.obj r _ hobj
    rw [hb] at hb'; cases hb'
    have hcl := hl.length
    rw [Nat.add_mul] at hm
    rw [chunks_len] at h2 ⊢
    by_cases h0 : len = 0
    ·subst h0
     simp [Builtin.firstCells, run_loadCells_zero] at h2 ⊢
     exact h2
    ·obtain rfl := ha (by omega)
     have hsp : pre ++ c ++ t = (pre ++ c.take (k * s)) ++ (c.drop (k * s)).take (len * s) ++ ((c.drop (k * s)).drop (len * s) ++ t) := by
      simp only [List.append_assoc]
      rw [← List.append_assoc (List.take (len * s) _), List.take_append_drop, ← List.append_assoc (List.take (k * s) c), List.take_append_drop]
     have ha := run_loadCells_con (P := E.P) (c := pre ++ c ++ t) (t := []) (fz := (0, 0)) (by rw [apn]; exact hheap) hsp
     have hb2 := run_loadCells_con (P := E.P) (w := w') (c := pre ++ c ++ t) (t := []) (fz := (0, 0)) (by rw [apn, hw' b (hW.apart r _ b hobj hb).2.1]; exact hheap) hsp
     have q2 : (pre ++ c.take (k * s)).length = (γ.vb r).1 + k * s := by simp; omega
     have q3 : ((c.drop (k * s)).take (len * s)).length = len * s := by simp; omega
     rw [q2, q3] at ha hb2
     simp only [Builtin.firstCells] at h2 ⊢
     rw [ha] at h2
     rw [hb2]
     cases h2
     rfl
   ·cases he
  ·cases he
theorem drew_heap (w : World) : w.drew.heap = w.heap := rfl
theorem put_same {r : Nat} {o : AObj} (h : W.get r = some o) : W.put r o = W := by
 obtain ⟨g, n⟩ := W
 unfold AW.put
 congr 1
 funext x
 by_cases hx : x = r
 ·subst hx; simpa using h.symm
 ·simp [hx]
set_option maxHeartbeats 1000000 in
theorem s_append {t u ty e e2 : TypeId} {s bytes : Nat} {z : V} {X Y : V} {xv yv : Value} (hu : E.P.underlying t = some (.slice e)) (hu2 : E.P.underlying u = some (.slice e2)) (hs : sizeT E.P e = some s) (hs0 : 0 < s)
  (hb : bytesT E.P e = some bytes) (hb0 : 0 < bytes) (hb1 : bytes ≤ 2 ^ 30) (hz : zeroT E.P e = some z) (hzs : z.cells.length = s) (hX : RelV γ X xv) (hY : RelV γ Y yv) (hW : RelW E γ w W) (h : sem E (.append s bytes) [X, Y] W K) :
  SOk E.P (Builtin.append_ #[t, u] ty #[xv, yv]) w (Post E γ W K) := by
 obtain ⟨i, hi, his⟩ := info_of_size hs
 have hib : i.bytes = bytes := by simpa [bytesT, hi] using hb
 obtain ⟨zv, hzv, hzl⟩ : ∃ zv, i.zero = some zv ∧ zv.cells.size = s := by
  unfold zeroT at hz
  simp only [hi, Option.bind_some, Option.bind_eq_some_iff] at hz
  obtain ⟨zv, h1, h2⟩ := hz
  have := (ofValue_rel (γ := γ) h2).cells.length
  exact ⟨zv, h1, by simpa [hzs] using this⟩
 subst his
 subst hib
 obtain ⟨hpos, h⟩ : 0 < i.size ∧ _ := h
 cases hel : elemsV i.size W Y with
 | none => rw [hel] at h; exact h.elim
 | some ys =>
  rw [hel] at h
  simp only [] at h
  obtain ⟨l, g1, g2, g3⟩ := elems_any hel hs0 hY hW
  have gw := g2 w (fun _ _ => rfl)
  have gd := g2 w.drew (fun _ _ => rfl)
  have m48 : ∀ m, m * i.bytes ≤ 2 ^ 46 → m < 2 ^ 48 := fun m hm => by
   have := Nat.le_mul_of_pos_right m hb0
   omega
  have capfit : ∀ (a b : List Value) (m cap : Nat), m ≤ cap → a.length + b.length = m * i.size → cap * i.size ≤ (a ++ b ++ (Builtin.zeroCells zv.cells (cap - m)).toList).length := fun a b m cap hm hab => by
   have : (Builtin.zeroCells zv.cells (cap - m)).toList.length = (cap - m) * i.size := by simp [Builtin.zeroCells, hzl]
   rw [lap, lap, this, hab, ← Nat.add_mul]
   exact Nat.mul_le_mul_right _ (by omega)
  -- a growing slice that is new: X's elements, then Y's
  have fresh : ∀ (np : Bool) (base : Option Addr) (sLen sCap : Nat) (xs : List V) (old : List Value), xv = .slice base sLen sCap → sLen = xs.length → sCap < sLen + ys.length → (Builtin.firstCells i.size sLen (.slice base sLen sCap)).run E.P w.drew = .ok old.toArray w.drew →
    RelE γ i.size xs old → ys ≠ [] → (sLen + ys.length) * i.bytes ≤ 2 ^ 46 → K (.buf np W.nx i.size (sLen + ys.length)) (W.alloc (.buf np i.size (xs ++ ys))) → SOk E.P (Builtin.append_ #[t, u] ty #[xv, yv]) w (Post E γ W K) := by
   intro np base sLen sCap xs old hxv hsl hg hold hxs hne hroom hk
   subst hxv
   have hrun := run_append_grow' (ty := ty) hu hu2 hi hzv hb0 hb1 g1 gd hold hg hroom
   have hel2 : RelE γ i.size (xs ++ ys) (old ++ l) := hxs.append g3
   obtain ⟨q1, q2⟩ := hW.drew.newBuf (np := np) (t := (Builtin.zeroCells zv.cells (grownCap w (sLen + ys.length) sCap e - (sLen + ys.length))).toList) hs0 hel2 (by simp [hne]) e
   have hab : old.length + l.length = (sLen + ys.length) * i.size := by rw [hxs.length, g3.length, hsl, Nat.add_mul]
   refine ⟨_, _, hrun, _, .buf np W.nx i.size (sLen + ys.length), _, q2, by simp [AW.alloc], q1, ?_, hk⟩
   exact .inl ⟨w.heap.size, by simp [G.addGen, drew_heap], old ++ l, _, grownCap w (sLen + ys.length) sCap e, by simp only [G.addGen, drew_heap, if_true], by simp [hab], capfit old l _ _ (grownCap_le _ _ _ _) hab, grownCap_le _ _ _ _, rfl, m48 _ hroom⟩
  cases X <;> try (simp only [] at h)
  case nilsl =>
   obtain ⟨hroom, h⟩ := h
   cases hX
   by_cases hne : ys = []
   ·subst hne
    simp only [List.isEmpty_nil, if_true] at h
    have hl0 : l = [] := by simpa [RelE] using g3
    subst hl0
    exact ⟨_, w, run_append_none hu hu2 hi g1 gw (lr _), Post.same' h hW rfl⟩
   ·have hemp : ys.isEmpty = false := by cases ys <;> simp_all
    have hpos2 : 0 < ys.length := List.length_pos_iff.2 hne
    simp only [hemp, Bool.false_eq_true, if_false] at h
    exact fresh true none 0 0 [] [] rfl rfl (by omega) rfl rfl hne (by simpa using hroom) (by simpa using h)
  case sl s' full xs =>
   cases full
   ·exact h.elim
   obtain ⟨rfl, hroom, h⟩ := h
   have hX' := hX
   obtain ⟨b, pre, lx, post, sz, cap, hc, hl, rfl, hcap, hfull, h48⟩ := hX
   obtain rfl : cap = xs.length := hfull rfl
   by_cases hne : ys = []
   ·subst hne
    simp only [List.isEmpty_nil, if_true] at h
    have hl0 : l = [] := by simpa [RelE] using g3
    subst hl0
    exact ⟨_, w, run_append_none hu hu2 hi g1 gw (lr _), Post.same' h hW hX'⟩
   ·have hemp : ys.isEmpty = false := by cases ys <;> simp_all
    have hpos2 : 0 < ys.length := List.length_pos_iff.2 hne
    simp only [hemp, Bool.false_eq_true, if_false] at h
    have hsame : elemsV i.size W (.sl i.size true xs) = some xs := by simp [elemsV]
    obtain ⟨old, _, q2, q3⟩ := elems_any hsame hs0 hX' hW
    exact fresh false _ xs.length xs.length xs old rfl rfl (by omega) (q2 w.drew (fun _ _ => rfl)) q3 hne hroom h
  case buf np r s' m =>
   obtain ⟨rfl, h⟩ := h
   split at h
   ·rename_i np' s'' xs hobj
    obtain ⟨rfl, rfl, rfl, hroom, hone, h⟩ := h
    obtain ⟨hs1, cur, c1, c2, c3, c4⟩ := hW.obj r _ hobj
    have hX' := hX
    by_cases hys : ys = []
    ·subst hys
     have hl0 : l = [] := by simpa [RelE] using g3
     subst hl0
     simp only [apn, List.length_nil, Nat.add_zero] at h
     rw [put_same hobj] at h
     rcases hX with ⟨b, hown, c, sz, cap, hcon, q1, q2, q3, rfl, q4⟩ | ⟨_, hm0, rfl⟩
     ·exact ⟨_, w, run_append_none hu hu2 hi g1 gw q3, Post.same' h hW hX'⟩
     ·exact ⟨_, w, run_append_none hu hu2 hi g1 gw (lr _), Post.same' h hW hX'⟩
    ·rcases hX with ⟨b, hown, c, sz, cap, hcon, q1, q2, q3, rfl, q4⟩ | ⟨⟨_, rfl⟩, hm0, rfl⟩
     ·obtain ⟨c', sz', k, e1, e2, e3, e4, e5, e6⟩ := c1 b hown
      rw [hcon] at e1; cases e1
      have hk : k = xs.length := by
       have : xs.length ≤ k := Nat.le_of_mul_le_mul_right (by omega) hs1
       omega
      subst hk
      rw [List.take_of_length_le (lr _)] at e4
      obtain ⟨t', e', fz, hh, hzz⟩ := hW.con b _ sz hcon
      obtain ⟨_, hB, a0, e0, hh0⟩ := hW.own b r hown
      rw [hh] at hh0
      cases hh0
      by_cases hfit : xs.length + ys.length ≤ cap
      ·
       have hlen : l.length = ys.length * i.size := g3.length
       have hcs : (xs.length + ys.length) * i.size ≤ (c ++ t').length := by
        rw [hzz]; exact Nat.le_trans (Nat.mul_le_mul_right _ hfit) q2
       rw [Nat.add_mul] at hcs
       have hroom2 : xs.length * i.size + l.length ≤ (c ++ t').length := by rw [hlen]; exact hcs
       have hrun := run_append_fits' (ty := ty) hu hu2 hi g1 gw (g3.one hone) hh hfit hroom2
       have hcell : (c ++ t').take (xs.length * i.size) ++ l ++ (c ++ t').drop (xs.length * i.size + l.length) = c ++ l ++ t'.drop l.length := by
        rw [← e2, List.take_left, ← List.drop_drop, List.drop_left]
       rw [hcell] at hrun
       obtain ⟨r1, r2⟩ := hW.extendBuf (w' := w.setRow b (c ++ l ++ t'.drop l.length).toArray) (t := t'.drop l.length) hobj hown hcon
        (by rw [← hzz]; simp only [lap, List.length_drop]; simp only [lap] at hroom2; omega) e2 g3 (heap_setRow hh _) (fun k hk => setRow_other w b k _ hk) (by simp [World.setRow]) (below_setRow hB _)
       refine ⟨_, _, hrun, _, .buf np' r i.size (xs.length + ys.length), W.put r (.buf np' i.size (xs ++ ys)), r2, lr _, r1, ?_, h⟩
       exact .inl ⟨b, hown, c ++ l, sz, cap, by simp [G.setCon], by rw [lap, e2, hlen, Nat.add_mul]; exact lr _, q2, hfit, rfl, m48 _ hroom⟩
      ·
       have hsame : elemsV i.size W (.buf np' r i.size xs.length) = some xs := by simp [elemsV, hobj]
       obtain ⟨old, _, o2, o3⟩ := elems_any hsame hs0 hX' hW
       have hrun := run_append_grow' (ty := ty) hu hu2 hi hzv hb0 hb1 g1 gd (o2 w.drew (fun _ _ => rfl)) (by omega) hroom
       obtain ⟨r1, r2⟩ := hW.drew.growBuf (t := (Builtin.zeroCells zv.cells (grownCap w (xs.length + ys.length) cap e - (xs.length + ys.length))).toList) hobj (o3.append g3) hys e
       have hab : old.length + l.length = (xs.length + ys.length) * i.size := by rw [o3.length, g3.length, Nat.add_mul]
       refine ⟨_, _, hrun, _, .buf np' r i.size (xs.length + ys.length), W.put r (.buf np' i.size (xs ++ ys)), r2, lr _, r1, ?_, h⟩
       exact .inl ⟨w.heap.size, by simp [G.addGen, drew_heap], old ++ l, _, grownCap w (xs.length + ys.length) cap e, by simp only [G.addGen, drew_heap, if_true], by simp [hab], capfit old l _ _ (grownCap_le _ _ _ _) hab, grownCap_le _ _ _ _, rfl, m48 _ hroom⟩
     ·
      have hx0 : xs = [] := List.length_eq_zero_iff.1 hm0
      subst hx0
      have hpos2 : 0 < ys.length := List.length_pos_iff.2 hys
      have hrun := run_append_grow' (ty := ty) (base := none) (sLen := 0) (sCap := 0) (old := []) hu hu2 hi hzv hb0 hb1 g1 gd rfl (by omega) hroom
      obtain ⟨r1, r2⟩ := hW.drew.growBuf (l := [] ++ l) (t := (Builtin.zeroCells zv.cells (grownCap w (0 + ys.length) 0 e - (0 + ys.length))).toList) hobj (by simpa using g3) hys e
      have hab : ([] : List Value).length + l.length = (0 + ys.length) * i.size := by rw [g3.length]; simp
      refine ⟨_, _, hrun, _, .buf true r i.size (0 + ys.length), W.put r (.buf true i.size ([] ++ ys)), r2, lr _, r1, ?_, h⟩
      exact .inl ⟨w.heap.size, by simp [G.addGen, drew_heap], [] ++ l, _, grownCap w (0 + ys.length) 0 e, by simp only [G.addGen, drew_heap, if_true], by simp [g3.length], capfit [] l _ _ (grownCap_le _ _ _ _) hab, grownCap_le _ _ _ _, rfl, m48 _ hroom⟩
   ·exact h.elim
  all_goals exact h.elim
theorem RelE.flatL : ∀ {s : Nat} {xs : List V} {l : List Value}, RelE γ s xs l → RelL γ (xs.flatMap V.cells) l
 | _, [], _, h => h
 | s, x :: xs, _, ⟨v, l', e, _, h1, h2⟩ => by
  subst e
  exact h1.cells.append h2.flatL
theorem zeroCells_list (z : Array Value) : ∀ (n : Nat), (Builtin.zeroCells z n).toList = (List.replicate n z.toList).flatten := by
 have key : ∀ n, ((List.range (n * z.size)).map fun i => z[i % z.size]!) = (List.replicate n z.toList).flatten := by
  intro n
  induction n with
  | zero => simp
  | succ n ih =>
   rw [Nat.succ_mul, Nat.add_comm, List.range_add, mpp, List.replicate_succ, List.flatten_cons, List.map_map]
   congr 1
   ·apply List.ext_getElem (by simp)
    intro j h1 h2
    have : j < z.size := by simpa using h1
    simp [Nat.mod_eq_of_lt this, this]
   ·rw [← ih]
    congr 1
    funext j
    simp [Nat.add_mod_left]
 intro n
 rw [← key n]
 simp [Builtin.zeroCells]
theorem zerosV_rel {zc : List V} {l : List Value} (h : RelL γ zc l) : ∀ (k : Nat), RelL γ (zerosV zc k) (List.replicate k l).flatten
 | 0 => rfl
 | k + 1 => by
  simp only [zerosV, List.replicate_succ, List.flatten_cons]
  exact h.append (zerosV_rel h k)
theorem RelW.cutVec (h : RelW E γ w W) {r b s : Nat} {cells : List V} (hr : W.get r = some (.vec s cells)) (hb : γ.obj r = some b) (n : Nat) : RelW E γ w (W.put r (.vec s (cells.take n))) := by
 obtain ⟨b', pre, c, t, e, hb', hheap, hp, hcl, hz⟩ := h.obj r _ hr
 rw [hb] at hb'; cases hb'
 refine h.setObj hr hb (by rw [hheap]; simp) (Below.refl _ _) rfl (fun _ _ => rfl) ⟨b, pre, c.take n, c.drop n ++ t, e, hb, ?_, hp, hcl.take n, ?_⟩
 ·rw [hheap]; simp only [List.append_assoc]; rw [← List.append_assoc (List.take n c), List.take_append_drop]
 ·rw [← hz, ← List.append_assoc, List.take_append_drop]
set_option maxHeartbeats 1000000 in
theorem s_appendx {t u ty e e2 : TypeId} {s bytes : Nat} {z : V} {X Y : V} {xv yv : Value} (hu : E.P.underlying t = some (.slice e)) (hu2 : E.P.underlying u = some (.slice e2)) (hs : sizeT E.P e = some s) (hs0 : 0 < s)
  (hb : bytesT E.P e = some bytes) (hb0 : 0 < bytes) (hb1 : bytes ≤ 2 ^ 30) (hz : zeroT E.P e = some z) (hzs : z.cells.length = s) (hX : RelV γ X xv) (hY : RelV γ Y yv) (hW : RelW E γ w W) (h : sem E (.appendx s bytes z.cells) [X, Y] W K) :
  SOk E.P (Builtin.append_ #[t, u] ty #[xv, yv]) w (Post E γ W K) := by
 obtain ⟨i, hi, his⟩ := info_of_size hs
 have hib : i.bytes = bytes := by simpa [bytesT, hi] using hb
 obtain ⟨zv, hzv, hzr⟩ : ∃ zv, i.zero = some zv ∧ RelV γ z zv := by
  unfold zeroT at hz
  simp only [hi, Option.bind_some, Option.bind_eq_some_iff] at hz
  obtain ⟨zv, h1, h2⟩ := hz
  exact ⟨zv, h1, ofValue_rel h2⟩
 subst his
 subst hib
 have hzl : ∀ k, RelL γ (zerosV z.cells k) (Builtin.zeroCells zv.cells k).toList := fun k => by
  rw [zeroCells_list]
  exact zerosV_rel hzr.cells k
 obtain ⟨hpos, h⟩ : 0 < i.size ∧ _ := h
 cases hel : elemsV i.size W Y with
 | none => rw [hel] at h; exact h.elim
 | some ys =>
  rw [hel] at h
  simp only [] at h
  obtain ⟨l, g1, g2, g3⟩ := elems_any hel hs0 hY hW
  have gw := g2 w (fun _ _ => rfl)
  have gd := g2 w.drew (fun _ _ => rfl)
  have m48 : ∀ m, m * i.bytes ≤ 2 ^ 46 → m < 2 ^ 48 := fun m hm => by
   have := Nat.le_mul_of_pos_right m hb0
   omega
  have hzn : ∀ k, (Builtin.zeroCells zv.cells k).toList.length = k * i.size := fun k => by
   have := hzr.cells.length
   simp only [Array.length_toList] at this
   rw [zeroCells_list]; simp [this, hzs]
  have fresh : ∀ (base : Option Addr) (sLen sCap : Nat) (oldV : List V) (old : List Value), xv = .slice base sLen sCap → sCap < sLen + ys.length → (Builtin.firstCells i.size sLen (.slice base sLen sCap)).run E.P w.drew = .ok old.toArray w.drew →
    RelL γ oldV old → old.length = sLen * i.size → (sLen + ys.length) * i.bytes ≤ 2 ^ 46 → K (.slr W.nx 0 (sLen + ys.length) i.size) (W.alloc (.vec i.size (oldV ++ ys.flatMap V.cells))) → SOk E.P (Builtin.append_ #[t, u] ty #[xv, yv]) w (Post E γ W K) := by
   intro base sLen sCap oldV old hxv hg hold holdr hol hroom hk
   subst hxv
   have hrun := run_append_grow' (ty := ty) hu hu2 hi hzv hb0 hb1 g1 gd hold hg hroom
   have hrel := holdr.append g3.flatL
   have hgc := grownCap_le w (sLen + ys.length) sCap e
   obtain ⟨q1, q2⟩ := hW.drew.newVec (s := i.size) (cap := grownCap w (sLen + ys.length) sCap e) (t := (Builtin.zeroCells zv.cells (grownCap w (sLen + ys.length) sCap e - (sLen + ys.length))).toList) hrel (by
    rw [lap, lap, hol, g3.length, hzn, ← Nat.add_mul, ← Nat.add_mul]
    congr 1; omega) e
   refine ⟨_, _, hrun, _, .slr W.nx 0 (sLen + ys.length) i.size, _, q2, by simp [AW.alloc], q1, ?_, hk⟩
   exact ⟨w.heap.size, ⟨w.heap.size, 0, none⟩, by simp [G.addObj, drew_heap], by simp [G.addObj], by simpa [G.addObj] using hgc, fun _ => by simp [G.addObj], m48 _ hroom⟩
  cases X <;> try (simp only [] at h)
  case nilsl =>
   obtain ⟨hroom, h⟩ := h
   cases hX
   by_cases hne : ys = []
   ·subst hne
    simp only [List.isEmpty_nil, if_true] at h
    have hl0 : l = [] := by simpa [RelE] using g3
    subst hl0
    exact ⟨_, w, run_append_none hu hu2 hi g1 gw (lr _), Post.same' h hW rfl⟩
   ·have hemp : ys.isEmpty = false := by cases ys <;> simp_all
    have hpos2 : 0 < ys.length := List.length_pos_iff.2 hne
    simp only [hemp, Bool.false_eq_true, if_false] at h
    exact fresh none 0 0 [] [] rfl (by omega) rfl rfl (by simp) (by simpa using hroom) (by simpa using h)
  case slz =>
   obtain ⟨hroom, h⟩ := h
   have hX' := hX
   obtain ⟨a, rfl⟩ := hX
   by_cases hne : ys = []
   ·subst hne
    simp only [List.isEmpty_nil, if_true] at h
    have hl0 : l = [] := by simpa [RelE] using g3
    subst hl0
    exact ⟨_, w, run_append_none hu hu2 hi g1 gw (lr _), Post.same' h hW hX'⟩
   ·have hemp : ys.isEmpty = false := by cases ys <;> simp_all
    have hpos2 : 0 < ys.length := List.length_pos_iff.2 hne
    simp only [hemp, Bool.false_eq_true, if_false] at h
    exact fresh (some a) 0 0 [] [] rfl (by omega) (by simp [Builtin.firstCells, run_loadCells_zero]) rfl (by simp) (by simpa using hroom) (by simpa using h)
  case sl s' full xs =>
   cases full
   ·exact h.elim
   obtain ⟨rfl, hroom, h⟩ := h
   have hX' := hX
   obtain ⟨b, pre, lx, post, sz, cap, hc, hl, rfl, hcap, hfull, h48⟩ := hX
   obtain rfl : cap = xs.length := hfull rfl
   by_cases hne : ys = []
   ·subst hne
    simp only [List.isEmpty_nil, if_true] at h
    have hl0 : l = [] := by simpa [RelE] using g3
    subst hl0
    exact ⟨_, w, run_append_none hu hu2 hi g1 gw (lr _), Post.same' h hW hX'⟩
   ·have hemp : ys.isEmpty = false := by cases ys <;> simp_all
    have hpos2 : 0 < ys.length := List.length_pos_iff.2 hne
    simp only [hemp, Bool.false_eq_true, if_false] at h
    have hsame : elemsV i.size W (.sl i.size true xs) = some xs := by simp [elemsV]
    obtain ⟨old, _, q2, q3⟩ := elems_any hsame hs0 hX' hW
    exact fresh _ xs.length xs.length (xs.flatMap V.cells) old rfl (by omega) (q2 w.drew (fun _ _ => rfl)) q3.flatL q3.length hroom (by simpa [List.flatMap_append] using h)
  case slr r k len s' =>
   obtain ⟨rfl, h⟩ := h
   split at h
   ·rename_i s'' cells hobj
    obtain ⟨rfl, hcn0, hroom, hone, h⟩ := h
    have hX' := hX
    obtain ⟨b, a, hbo, rfl, hcap, ha, _⟩ := hX
    have hW0 := hW
    obtain ⟨cells', hce⟩ : ∃ c', c' = cells.take ((k + len) * i.size) := ⟨_, rfl⟩
    rw [← hce] at h
    have hcn : cells'.length = (k + len) * i.size := by rw [hce, ltk]; omega
    replace hW := hW.cutVec hobj hbo ((k + len) * i.size)
    rw [← hce] at hW
    replace hobj : (W.put r (.vec i.size cells')).get r = some (.vec i.size cells') := if_pos rfl
    have hmv : ∀ o, (W.put r (.vec i.size cells')).move r o = W.move r o := fun o => by
     simp only [AW.move, AW.put, AW.mk.injEq, and_true]
     funext x
     by_cases h1 : x = W.nx <;> by_cases h2 : x = r <;> simp [h1, h2]
    have hnx : (W.put r (.vec i.size cells')).nx = W.nx := rfl
    rw [← hmv] at h
    obtain ⟨b', pre, c, t', e0, hb', hheap, hp, hcl, hz⟩ := hW.obj r _ hobj
    rw [hbo] at hb'; cases hb'
    have hcc := hcl.length
    by_cases hne : ys = []
    ·subst hne
     simp only [List.isEmpty_nil, if_true] at h
     have hl0 : l = [] := by simpa [RelE] using g3
     subst hl0
     exact ⟨_, w, run_append_none hu hu2 hi g1 gw (by omega), Post.same' h hW0 hX'⟩
    ·have hemp : ys.isEmpty = false := by cases ys <;> simp_all
     have hpos2 : 0 < ys.length := List.length_pos_iff.2 hne
     simp only [hemp, Bool.false_eq_true, if_false] at h
     have hll : l.length = ys.length * i.size := g3.length
     have hkl : (k + len) * i.size = k * i.size + len * i.size := Nat.add_mul _ _ _
     by_cases hfit : len + ys.length ≤ (γ.vb r).2 - k
     ·obtain rfl := ha (by omega)
      -- where it lies
      have hsz2 : (k + len + ys.length) * i.size ≤ (c ++ t').length := by
       rw [hz]; exact Nat.mul_le_mul_right _ (by omega)
      rw [Nat.add_mul, lap] at hsz2
      have hrun := run_append_fits_at (ty := ty) hu hu2 hi g1 gw (g3.one hone) hheap hfit (o := (γ.vb r).1 + k * i.size) (by rw [hll]; simp only [lap]; omega)
      have hcell : (pre ++ c ++ t').take ((γ.vb r).1 + k * i.size + len * i.size) ++ l ++ (pre ++ c ++ t').drop ((γ.vb r).1 + k * i.size + len * i.size + l.length) = (pre ++ c.take (k * i.size)) ++ (c.drop (k * i.size) ++ l) ++ t'.drop l.length := by
       have e1 : (γ.vb r).1 + k * i.size + len * i.size = (pre ++ c).length := by simp; omega
       rw [e1, List.take_left, ← List.drop_drop, List.drop_left]
       simp only [List.append_assoc]
       rw [← List.append_assoc (List.take (k * i.size) c), List.take_append_drop]
      rw [hcell] at hrun
      obtain ⟨q1, q2⟩ := hW.moveObj (w' := w.setRow b ((pre ++ c.take (k * i.size)) ++ (c.drop (k * i.size) ++ l) ++ t'.drop l.length).toArray) (ao := .vec i.size (cells'.drop (k * i.size) ++ ys.flatMap V.cells)) (p := ((γ.vb r).1 + k * i.size, (γ.vb r).2 - k)) hobj hbo (by rw [hheap]; simp) (below_setRow (hW.apart r _ b hobj hbo).1 _) (by simp [World.setRow]) (fun k hk => setRow_other w b k _ hk) (by
       refine ⟨b, pre ++ c.take (k * i.size), c.drop (k * i.size) ++ l, t'.drop l.length, e0, by simp [G.addObj, hnx], heap_setRow hheap _, by simp [G.addObj, hnx]; omega, RelL.mono hW.bd G.le_addObj _ _ ((hcl.drop _).append g3.flatL), ?_⟩
       have : ((γ.vb r).2 - k) * i.size = (γ.vb r).2 * i.size - k * i.size := Nat.sub_mul _ _ _
       simp only [G.addObj, hnx, if_true, this, lap, List.length_drop] at hz ⊢
       omega)
      rw [hnx] at q1 q2
      refine ⟨_, _, hrun, _, .slr W.nx 0 (len + ys.length) i.size, _, q2, by simp [AW.move, AW.put], q1, ?_, h⟩
      exact ⟨b, ⟨b, (γ.vb r).1 + k * i.size, none⟩, by simp [G.addObj], by simp [G.addObj], by simpa [G.addObj] using hfit, fun _ => by simp [G.addObj], m48 _ hroom⟩
     ·have hold : (Builtin.firstCells i.size len (.slice (some a) len ((γ.vb r).2 - k))).run E.P w.drew = .ok (c.drop (k * i.size)).toArray w.drew := by
       by_cases h0 : len = 0
       ·subst h0
        rw [List.drop_eq_nil_of_le (by omega)]
        simp [Builtin.firstCells, run_loadCells_zero]
       ·obtain rfl := ha (by omega)
        have := run_loadCells_con (P := E.P) (w := w.drew) (pre := pre ++ c.take (k * i.size)) (l := c.drop (k * i.size)) (post := t') (c := pre ++ c ++ t') (t := []) (fz := (0, 0)) (b := b) (e := e0) (by rw [apn, drew_heap]; exact hheap) (by simp only [List.append_assoc]; rw [← List.append_assoc (List.take _ c), List.take_append_drop])
        have h2 : (pre ++ c.take (k * i.size)).length = (γ.vb r).1 + k * i.size := by simp; omega
        have h3 : (c.drop (k * i.size)).length = len * i.size := by simp; omega
        rw [h2, h3] at this
        simpa [Builtin.firstCells] using this
      have hrun := run_append_grow' (ty := ty) hu hu2 hi hzv hb0 hb1 g1 gd hold (by omega) hroom
      have hgc := grownCap_le w (len + ys.length) ((γ.vb r).2 - k) e
      have hdl : (c.drop (k * i.size)).length = len * i.size := by simp; omega
      obtain ⟨q1, q2⟩ := hW.drew.newVec (s := i.size) (cells := cells'.drop (k * i.size) ++ ys.flatMap V.cells) (cap := grownCap w (len + ys.length) ((γ.vb r).2 - k) e) (t := (Builtin.zeroCells zv.cells (grownCap w (len + ys.length) ((γ.vb r).2 - k) e - (len + ys.length))).toList) ((hcl.drop (k * i.size)).append g3.flatL) (by
       rw [lap, lap, hdl, hll, hzn, ← Nat.add_mul, ← Nat.add_mul]
       congr 1; omega) e
      have hforget := q1.forget r (by have := hW.lt r _ hobj; exact this)
      refine ⟨_, _, hrun, _, .slr W.nx 0 (len + ys.length) i.size, _, q2, by simp [AW.move, AW.put], hforget, ?_, h⟩
      exact ⟨w.heap.size, ⟨w.heap.size, 0, none⟩, by simp [G.addObj, AW.put, drew_heap], by simp [G.addObj, hnx], by simpa [G.addObj, hnx] using hgc, fun _ => by simp [G.addObj, hnx], m48 _ hroom⟩
   ·exact h.elim
  all_goals exact h.elim
end Go.AL
namespace Go.AL
open RowKit
variable {γ : G} {E : Env} {w : World} {W : AW} {K : V → AW → Prop}
theorem s_len_arr {t ty e : TypeId} {n : Nat} {x : Value} (hu : E.P.underlying t = some (.array n e)) (hW : RelW E γ w W) (hk : K (.int .i64 n) W) :
  SOk E.P (Builtin.len_ #[t] ty #[x]) w (Post E γ W K) :=
 ⟨.int .i64 n, w, by simp [Builtin.len_, run_underlying hu, goInt], Post.same' hk hW rfl⟩
theorem s_len0 {t ty : TypeId} {X : V} {x : Value} (hu : E.P.underlying t = some .string) (hX : RelV γ X x) (hW : RelW E γ w W) (h : sem E (.len 0 0) [X] W K) :
  SOk E.P (Builtin.len_ #[t] ty #[x]) w (Post E γ W K) := by
 cases X <;> simp only [sem, rsem, tsem] at h
 case str s => cases hX; exact ⟨_, w, by simp [Builtin.len_, run_underlying hu, goInt], Post.same' h hW rfl⟩
theorem s_len1 {t ty e : TypeId} {X : V} {x : Value} (hu : E.P.underlying t = some (.slice e)) (hX : RelV γ X x) (hW : RelW E γ w W) (h : sem E (.len 1 0) [X] W K) :
  SOk E.P (Builtin.len_ #[t] ty #[x]) w (Post E γ W K) := by
 cases X <;> simp only [sem, rsem, tsem] at h
 case nilsl => cases hX; exact ⟨_, w, by simp [Builtin.len_, run_underlying hu, goInt], Post.same' h hW rfl⟩
 case sl =>
  obtain ⟨b, pre, l, post, sz, cap, hc, hl, rfl, hcap, _, h48⟩ := hX
  exact ⟨_, w, by simp [Builtin.len_, run_underlying hu, goInt], Post.same' h hW rfl⟩
 case buf np r s m =>
  rcases hX with ⟨b, _, c, sz, cap, _, _, _, _, rfl, h48⟩ | ⟨_, rfl, rfl⟩
  ·exact ⟨_, w, by simp [Builtin.len_, run_underlying hu, goInt], Post.same' h hW rfl⟩
  ·exact ⟨_, w, by simp [Builtin.len_, run_underlying hu, goInt], Post.same' h hW rfl⟩
 case slz =>
  obtain ⟨b, rfl⟩ := hX
  exact ⟨_, w, by simp [Builtin.len_, run_underlying hu, goInt], Post.same' h hW rfl⟩
 case slr =>
  obtain ⟨b, a, _, rfl, _⟩ := hX
  exact ⟨_, w, by simp [Builtin.len_, run_underlying hu, goInt], Post.same' h hW rfl⟩
theorem s_len2 {t ty k e : TypeId} {X : V} {x : Value} (hu : E.P.underlying t = some (.map k e)) (hX : RelV γ X x) (hW : RelW E γ w W) (h : sem E (.len 2 0) [X] W K) :
  SOk E.P (Builtin.len_ #[t] ty #[x]) w (Post E γ W K) := by
 cases X <;> simp only [sem, rsem, tsem] at h
 case nilmap => cases hX; exact ⟨_, w, by simp [Builtin.len_, run_underlying hu, goInt], Post.same' h hW rfl⟩
 case map r =>
  split at h
  ·rename_i es clock hobj
   obtain ⟨b, hb, rfl⟩ := hX
   obtain ⟨b', mes, hb', hheap, hes⟩ := hW.obj r _ hobj
   rw [hb] at hb'; cases hb'
   have hget : (getObj b).run E.P w = .ok (.map mes.toArray clock) w := by simp [getObj, Sem.run, hheap]
   exact ⟨.int .i64 mes.length, w, by simp [Builtin.len_, run_underlying hu, hget, goInt], Post.same' h hW (by rw [hes.length]; rfl)⟩
  ·exact h.elim
theorem s_range {t k e : TypeId} {X : V} {x : Value} (hu : E.P.underlying t = some (.map k e)) (hX : RelV γ X x) (hW : RelW E γ w W) (h : sem E .rangem [X] W K) :
  SOk E.P (Instr.range t x) w (Post E γ W K) := by
 cases X <;> simp only [sem, rsem, tsem] at h
 case nilmap =>
  cases hX
  obtain ⟨h1, h2⟩ := hW.newObj (.mapIter none 0 #[] 0) (.iter none 0 [] 0) ⟨w.heap.size, none, by simp [G.addObj], heap_alloc_new _ _, .inl ⟨rfl, rfl⟩⟩
  refine ⟨.pointer (some ⟨w.heap.size, 0, none⟩), _, ?_, _, .ptr W.nx 0, _, h2, by simp [AW.alloc], h1, ⟨w.heap.size, by simp [G.addObj], rfl⟩, h⟩
  simp [Instr.range, run_underlying hu]
 case map r =>
  split at h
  ·rename_i es clock hobj
   obtain ⟨b, hb, rfl⟩ := hX
   obtain ⟨b', mes, hb', hheap, hes⟩ := hW.obj r _ hobj
   rw [hb] at hb'; cases hb'
   have hget : (getObj b).run E.P w = .ok (.map mes.toArray clock) w := by simp [getObj, Sem.run, hheap]
   have hlt := hW.lt r _ hobj
   obtain ⟨h1, h2⟩ := hW.newObj (.mapIter (some b) clock #[] clock) (.iter (some r) clock [] clock) ⟨w.heap.size, some b, by simp [G.addObj], heap_alloc_new _ _, .inr ⟨r, b, rfl, rfl, by simp only [G.addObj]; rw [if_neg (by omega)]; exact hb⟩⟩
   refine ⟨.pointer (some ⟨w.heap.size, 0, none⟩), _, ?_, _, .ptr W.nx 0, _, h2, by simp [AW.alloc], h1, ⟨w.heap.size, by simp [G.addObj], rfl⟩, h⟩
   simp [Instr.range, run_underlying hu, hget]
  ·exact h.elim
 all_goals exact h.elim
theorem RelEs.mem {es : List (V × V × Nat)} : ∀ {mes : List MapEntry}, RelEs γ es mes → ∀ me ∈ mes, ∃ e ∈ es, RelV γ e.1 me.key ∧ RelV γ e.2.1 me.val ∧ me.born = e.2.2 := by
 induction es with
 | nil => intro mes h me hm; simp only [RelEs] at h; subst h; simp at hm
 | cons e es ih =>
  obtain ⟨k, v, n⟩ := e
  rintro mes ⟨me', l', rfl, h1, h2, h3, h4⟩ me hm
  rcases List.mem_cons.1 hm with rfl | hm
  ·exact ⟨(k, v, n), by simp, h1, h2, h3⟩
  ·obtain ⟨e, he, h⟩ := ih h4 me hm
   exact ⟨e, by simp [he], h⟩
theorem RelEs.mem' {es : List (V × V × Nat)} : ∀ {mes : List MapEntry}, RelEs γ es mes → ∀ e ∈ es, ∃ me ∈ mes, RelV γ e.1 me.key ∧ RelV γ e.2.1 me.val ∧ me.born = e.2.2 := by
 induction es with
 | nil => intro mes h e hm; simp at hm
 | cons e es ih =>
  obtain ⟨k, v, n⟩ := e
  rintro mes ⟨me', l', rfl, h1, h2, h3, h4⟩ e' hm
  rcases List.mem_cons.1 hm with rfl | hm
  ·exact ⟨me', by simp, h1, h2, h3⟩
  ·obtain ⟨me, he, h⟩ := ih h4 e' hm
   exact ⟨me, by simp [he], h⟩
theorem s_next {ty : TypeId} {X : V} {x : Value} (hX : RelV γ X x) (hW : RelW E γ w W) (h : sem E .nextm [X] W K) :
  SOk E.P (Instr.next x false ty) w (Post E γ W K) := by
 cases X
 case ptr i off =>
  cases off with
  | succ n => exact h.elim
  | zero =>
   change (match W.get i with | some (.iter none _ _ _) => _ | some (.iter (some m) since seen last) => _ | _ => False) at h
   split at h
   ·
    rename_i since seen last hobj
    obtain ⟨b, hb, rfl⟩ := hX
    obtain ⟨b', mb, hb', hheap, hm⟩ := hW.obj i _ hobj
    rw [hb] at hb'; cases hb'
    rcases hm with ⟨_, rfl⟩ | ⟨_, _, hm, _⟩
    ·have hget : (getObj b).run E.P w = .ok (.mapIter none since seen.toArray last) w := by simp [getObj, Sem.run, hheap]
     exact ⟨.tuple #[.bool false], w, by simp [Instr.next, hget], Post.same' h hW ⟨[.bool false], rfl, _, [], rfl, rfl, rfl⟩⟩
    ·cases hm
   ·rename_i m since seen last hobj
    split at h
    ·rename_i es clock hmap
     obtain ⟨hst, hend, hstep⟩ := h
     obtain ⟨b, hb, rfl⟩ := hX
     obtain ⟨b', mb, hb', hheap, hm⟩ := hW.obj i _ hobj
     rw [hb] at hb'; cases hb'
     rcases hm with ⟨hm, _⟩ | ⟨r', mb', hm, rfl, hmb⟩
     ·cases hm
     ·cases hm
      obtain ⟨b2, mes, hb2, hheap2, hes⟩ := hW.obj m _ hmap
      rw [hmb] at hb2; cases hb2
      have hget : (getObj b).run E.P w = .ok (.mapIter (some mb') since seen.toArray last) w := by simp [getObj, Sem.run, hheap]
      have hget2 : (getObj mb').run E.P w = .ok (.map mes.toArray clock) w := by simp [getObj, Sem.run, hheap2]
      have hguard : (!seen.toArray.isEmpty && !mes.toArray.isEmpty && mes.toArray.all (·.born ≥ last)) = false := by
       rcases hst with rfl | rfl | ⟨e, he, hlt⟩
       ·rfl
       ·simp only [RelEs] at hes; subst hes; simp
       ·obtain ⟨me, hme, _, _, hborn⟩ := hes.mem' e he
        rw [Bool.and_eq_false_iff]
        right
        rw [← Bool.not_eq_true, Array.all_eq_true_iff_forall_mem]
        intro hall
        have := hall me (by simpa using hme)
        simp only [ge_iff_le, decide_eq_true_eq] at this
        omega
      generalize hleft : mes.toArray.filter (fun e => !seen.toArray.contains e.born) = left
      generalize hold : left.filter (fun e => decide (e.born < since)) = old
      generalize hnew : left.filter (fun e => decide (e.born ≥ since)) = new
      generalize hcand : ((if old.isEmpty then #[none] else #[]) ++ (old ++ new).map some) = cand
      have hsub : ∀ me, some me ∈ cand.toList → me ∈ mes ∧ me.born ∉ seen := by
       intro me hm
       rw [← hcand] at hm
       have hm' : me ∈ old.toList ∨ me ∈ new.toList := by
        split at hm <;> simpa using hm
       rcases hm' with hm' | hm'
       ·rw [← hold, ← hleft] at hm'; simp at hm'; first | exact ⟨hm'.1, hm'.2.1⟩ | exact ⟨hm'.1, hm'.2.2⟩
       ·rw [← hnew, ← hleft] at hm'; simp at hm'; first | exact ⟨hm'.1, hm'.2.1⟩ | exact ⟨hm'.1, hm'.2.2⟩
      have hnone : none ∈ cand.toList → ∀ e ∈ es, e.2.2 ∉ seen → since ≤ e.2.2 := by
       intro hm e he hse
       rw [← hcand] at hm
       have hemp : old.isEmpty = true := by
        split at hm
        ·assumption
        ·simp at hm
       obtain ⟨me, hme, _, _, hborn⟩ := hes.mem' e he
       rcases Nat.lt_or_ge e.2.2 since with hlt | hge
       ·have : me ∈ old.toList := by rw [← hold, ← hleft]; simp; refine ⟨hme, ?_⟩; rw [hborn]; first | exact ⟨hse, hlt⟩ | exact ⟨hlt, hse⟩
        simp at hemp
        rw [hemp] at this
        simp at this
       ·exact hge
      have hpos : 0 < cand.size := by
       rw [← hcand]
       split
       ·simp; omega
       ·rename_i hne
        have : 0 < old.size := by
         rcases Nat.eq_zero_or_pos old.size with h0 | h0
         ·exact absurd (by simpa using Array.eq_empty_of_size_eq_zero h0) hne
         ·exact h0
        simp; omega
      obtain ⟨idx, w1, hch, hidx, hw1⟩ : ∃ idx w1, (choose (.mapNext cand.size)).run E.P w = .ok idx w1 ∧ idx < cand.size ∧ (w1 = w ∨ w1 = w.drew) := by
       by_cases hf : cand.size ≤ 1
       ·exact ⟨0, w, by simp [Question.forced, hf], hpos, .inl rfl⟩
       ·exact ⟨w.tape w.drawn (.mapNext cand.size) % cand.size, w.drew, by simp [Question.forced, hf, Question.cut], Nat.mod_lt _ hpos, .inr rfl⟩
      have hW1 : RelW E γ w1 W := by rcases hw1 with rfl | rfl; exact hW; exact hW.drew
      have hheap1 : w1.heap = w.heap := by rcases hw1 with rfl | rfl <;> rfl
      have hbel1 : Below E.B w w1 := by rcases hw1 with rfl | rfl; exact Below.refl _ _; exact (Below.refl _ _).drew
      have hrun : (Instr.next (.pointer (some ⟨b, 0, none⟩)) false ty).run E.P w = (match cand[idx]? with
        | some (some e) => do setObj b (.mapIter (some mb') since (seen.toArray.push e.born) clock); pure (.tuple #[.bool true, e.key, e.val])
        | some none => pure (.tuple #[.bool false])
        | none => stuck "Next: no such candidate" : Sem Value).run E.P w1 := by
       simp only [Instr.next, Sem.run_bind, hget, Result.andThen_ok, hget2, hguard, hleft, hold, hnew, hcand]
       rw [if_neg (by simp), Sem.run_bind, hch]
       rfl
      have hget? : cand[idx]? = some cand[idx] := by simp [hidx]
      have hmem : cand[idx] ∈ cand.toList := by simp
      rw [hget?] at hrun
      cases hc : cand[idx] with
      | none =>
       rw [hc] at hrun hmem
       exact ⟨_, w1, hrun, Post.same' (hend (hnone hmem)) hW1 ⟨[.bool false], rfl, _, [], rfl, rfl, rfl⟩⟩
      | some me =>
       rw [hc] at hrun hmem
       obtain ⟨hm1, hm2⟩ := hsub me hmem
       obtain ⟨e, he, r1, r2, r3⟩ := hes.mem me hm1
       have hst2 := hstep e he (by rw [← r3]; exact hm2)
       obtain ⟨hB, _, _⟩ := hW1.apart i _ b hobj hb
       have hset : (setObj b (.mapIter (some mb') since (seen.toArray.push me.born) clock)).run E.P w1 = .ok () { w1 with heap := w1.heap.setIfInBounds b (.mapIter (some mb') since (seen.toArray.push me.born) clock) } := by
        simp [setObj, Sem.run, hheap1, hheap]
       refine ⟨_, _, by rw [hrun]; simp only [Sem.run_bind, hset, Result.andThen_ok]; rfl, γ, .tuple [.bool true, e.1, e.2.1], W.put i (.iter (some m) since (seen ++ [e.2.2]) clock), G.le.refl _ _, lr _, ?_, ?_, hst2⟩
       ·refine hW1.setObj hobj hb (by rw [hheap1, hheap]; simp) (below_setObj hB _) (by simp) (fun k hk => ?_) ⟨b, some mb', hb, ?_, .inr ⟨m, mb', rfl, rfl, hmb⟩⟩
        ·show (w1.heap.setIfInBounds b _)[k]? = _
         rw [Array.getElem?_setIfInBounds_ne (Ne.symm hk)]
        ·rw [heap_setObj (by rw [hheap1]; exact hheap)]; simp [r3]
       ·exact ⟨_, rfl, _, _, rfl, rfl, _, _, rfl, r1, _, _, rfl, r2, rfl⟩
    ·exact h.elim
   ·exact h.elim
 all_goals exact h.elim
theorem RelEs.find {es : List (V × V × Nat)} {stamp : Nat} {e : V × V × Nat} : ∀ {mes : List MapEntry}, RelEs γ es mes → es.find? (fun e => e.2.2 == stamp) = some e →
  ∃ me, mes.find? (fun e => e.born == stamp) = some me ∧ RelV γ e.1 me.key ∧ RelV γ e.2.1 me.val := by
 induction es with
 | nil => intro mes h he; simp at he
 | cons x es ih =>
  obtain ⟨k, v, n⟩ := x
  rintro mes ⟨me, l', rfl, h1, h2, h3, h4⟩ he
  rw [List.find?_cons] at he ⊢
  rw [h3]
  cases hn : (n == stamp)
  ·rw [hn] at he; simp only [] at he ⊢; exact ih h4 he
  ·rw [hn] at he; simp only [Option.some.injEq] at he ⊢; subst he; exact ⟨me, rfl, h1, h2⟩
theorem s_entry {X : V} {x : Value} (hX : RelV γ X x) (hW : RelW E γ w W) (h : sem E .entry [X] W K) :
  SOk E.P (Instr.entry x) w (Post E γ W K) := by
 cases X
 case ptr i off =>
  cases off with
  | succ n => exact h.elim
  | zero =>
   change (match W.get i with | some (.iter (some m) _ seen last) => _ | _ => False) at h
   split at h
   ·rename_i m since seen last hobj
    split at h
    ·rename_i es clock stamp hmap hlast
     obtain ⟨rfl, h⟩ := h
     split at h
     ·rename_i e hfind
      obtain ⟨b, hb, rfl⟩ := hX
      obtain ⟨b', mb, hb', hheap, hm⟩ := hW.obj i _ hobj
      rw [hb] at hb'; cases hb'
      rcases hm with ⟨hm, _⟩ | ⟨r', mb', hm, rfl, hmb⟩
      ·cases hm
      ·cases hm
       obtain ⟨b2, mes, hb2, hheap2, hes⟩ := hW.obj m _ hmap
       rw [hmb] at hb2; cases hb2
       have hget : (getObj b).run E.P w = .ok (.mapIter (some mb') since seen.toArray clock) w := by simp [getObj, Sem.run, hheap]
       have hget2 : (getObj mb').run E.P w = .ok (.map mes.toArray clock) w := by simp [getObj, Sem.run, hheap2]
       have hback : seen.toArray.back? = some stamp := by simpa using hlast
       obtain ⟨me, f1, f2, f3⟩ := hes.find hfind
       have hf : mes.toArray.find? (fun x => x.born == stamp) = some me := by simpa using f1
       exact ⟨_, w, by simp [Instr.entry, hget, hget2, hback, hf], Post.same' h hW (f2.tuple2 f3)⟩
     ·exact h.elim
    ·exact h.elim
   ·exact h.elim
 all_goals exact h.elim
end Go.AL
namespace Go.AL
open RowKit Instr
variable {γ : G} {E : Env} {w : World} {W : AW} {K : V → AW → Prop}
theorem natV_rel {X : V} {n : Nat} {v : Value} (h : natV X = some n) (hr : RelV γ X v) : ∃ k, v = .int k n := by
 cases X <;> simp [natV] at h
 obtain ⟨h0, h⟩ := h
 cases hr
 exact ⟨_, by rw [← h, Int.toNat_of_nonneg h0]⟩
theorem run_bound {P : Program} {k : IntKind} {n y : Nat} {code : BoundsCode} (h : n ≤ y) : (sliceBound (.int k n) y code).run P w = .ok n w := by
 have : ((n : Int) ≤ y) := by omega
 simp [sliceBound, asInt_int, this]
theorem run_slice {t e : TypeId} {s len cap lo : Nat} {hi mx : Option Nat} {a : Option Addr} {lov hiv mxv : Option Value} (hu : E.P.underlying t = some (.slice e)) (hs : sizeT E.P e = some s)
  (h1 : lov = none ∧ lo = 0 ∨ ∃ k, lov = some (.int k lo)) (h2 : hi = none ∧ hiv = none ∨ ∃ k h, hi = some h ∧ hiv = some (.int k h)) (h3 : mx = none ∧ mxv = none ∨ ∃ k h, mx = some h ∧ mxv = some (.int k h))
  (hm : mx ≠ none → hi ≠ none) (hlo : lo ≤ hi.getD len) (hhi : hi.getD len ≤ mx.getD cap) (hcap : mx.getD cap ≤ cap) (_ : len ≤ cap) :
  (slice t (.slice a len cap) lov hiv mxv).run E.P w = .ok (.slice (if mx.getD cap = lo then a else a.map (·.add (lo * s))) (hi.getD len - lo) (mx.getD cap - lo)) w := by
 rcases h3 with ⟨rfl, rfl⟩ | ⟨k3, m, rfl, rfl⟩ <;> rcases h2 with ⟨rfl, rfl⟩ | ⟨k2, h, rfl, rfl⟩ <;> rcases h1 with ⟨rfl, rfl⟩ | ⟨k1, rfl⟩ <;>
  simp only [Option.getD_none, Option.getD_some] at hlo hhi hcap ⊢ <;>
  first
   | (exact absurd rfl (hm (Option.some_ne_none _)))
   | (simp [slice, run_underlying hu, sliceBounds, run_bound, run_sizeT hs, hlo, hhi, hcap]; done)
   | (simp [slice, run_underlying hu, sliceBounds, run_bound, run_sizeT hs, hlo, hhi, hcap, hlen])
theorem s_slcV {t e : TypeId} {s lo : Nat} {hi mx : Option Nat} {X Y : V} {v : Value} {lov hiv mxv : Option Value} (hu : E.P.underlying t = some (.slice e)) (hs : sizeT E.P e = some s) (_ : 0 < s)
  (h1 : lov = none ∧ lo = 0 ∨ ∃ k, lov = some (.int k lo)) (h2 : hi = none ∧ hiv = none ∨ ∃ k h, hi = some h ∧ hiv = some (.int k h)) (h3 : mx = none ∧ mxv = none ∨ ∃ k h, mx = some h ∧ mxv = some (.int k h))
  (hm : mx ≠ none → hi ≠ none) (hX : RelV γ X v) (hW : RelW E γ w W) (h : slcV s X lo hi mx = some Y) (hk : K Y W) : SOk E.P (slice t v lov hiv mxv) w (Post E γ W K) := by
 cases X <;> simp only [slcV, reduceCtorEq] at h
 case nilsl =>
  split at h
  ·rename_i hc
   cases h
   cases hX
   obtain ⟨rfl, c2, c3⟩ := hc
   have hr := run_slice (w := w) (len := 0) (cap := 0) (a := none) hu hs h1 h2 h3 hm (by omega) (by simp [c2, c3]) (by simp [c3]) (lr _)
   rw [c2, c3] at hr
   exact ⟨_, w, hr, Post.same' hk hW rfl⟩
  ·cases h
 case slz =>
  split at h
  ·rename_i hc
   cases h
   have hX' := hX
   obtain ⟨a, rfl⟩ := hX
   obtain ⟨rfl, c2, c3⟩ := hc
   have hr := run_slice (w := w) (len := 0) (cap := 0) (a := some a) hu hs h1 h2 h3 hm (by omega) (by simp [c2, c3]) (by simp [c3]) (lr _)
   rw [c2, c3] at hr
   exact ⟨_, w, hr, Post.same' hk hW hX'⟩
  ·cases h
 case sl s' full xs =>
  split at h
  ·rename_i hc
   obtain ⟨rfl, c1, c2⟩ := hc
   obtain ⟨b, pre, l, post, sz, cap, hcon, hl, rfl, hcap, hfull, h48⟩ := hX
   have hll := hl.length
   -- the part
   have key : ∀ (m : Nat) (f : Bool) (H : Nat), lo ≤ H → H ≤ xs.length → H ≤ m → m ≤ cap → (f = true → m = H) → ∀ a', (m ≠ lo → a' = some ⟨b, pre.length + lo * s, none⟩) → (m = lo → a' = some ⟨b, pre.length, none⟩) → RelV γ (.sl s f ((xs.take H).drop lo)) (.slice a' (H - lo) (m - lo)) := by
    intro m f H q1 q2 q3 q4 q5 a' q6 q7
    have hxl : ((xs.take H).drop lo).length = H - lo := by simp; omega
    by_cases hml : m = lo
    ·have : H = lo := by omega
     subst this
     rw [q7 hml]
     have hn : (xs.take H).drop H = [] := List.drop_eq_nil_of_le (by simp; omega)
     rw [hn]
     exact ⟨b, pre, [], l ++ post, sz, m - H, by simpa using hcon, rfl, by simp, by simp, fun _ => by simp; omega, by simp⟩
    ·rw [q6 hml]
     have e0 : xs = xs.take lo ++ ((xs.take H).drop lo ++ xs.drop H) := by
      have : xs.take lo ++ (xs.take H).drop lo = xs.take H := by
       rw [show xs.take lo = (xs.take H).take lo by rw [List.take_take, Nat.min_eq_left q1], List.take_append_drop]
      rw [← List.append_assoc, this, List.take_append_drop]
     rw [e0] at hl
     obtain ⟨l1, l2, rfl, r1, r2⟩ := hl.split
     obtain ⟨l3, l4, rfl, r3, r4⟩ := r2.split
     have hl1 := r1.length
     refine ⟨b, pre ++ l1, l3, l4 ++ post, sz, m - lo, by simpa using hcon, r3, ?_, by rw [hxl]; omega, fun hf => by rw [hxl, q5 hf], by rw [hxl]; omega⟩
     rw [hxl]
     congr 3
     rw [lap, hl1, ltk, Nat.min_eq_left (by omega)]
   cases mx with
   | none =>
    simp only [] at h
    cases h
    have hr := run_slice (w := w) (len := xs.length) (cap := cap) (a := some ⟨b, pre.length, none⟩) hu hs h1 h2 h3 hm c1 (by simp only [Option.getD_none]; omega) (by simp) hcap
    refine ⟨_, w, hr, Post.same' hk hW (key cap _ _ c1 c2 (by omega) (lr _) ?_ _ ?_ ?_)⟩
    ·intro hf
     simp only [Bool.and_eq_true, beq_iff_eq] at hf
     rw [hfull hf.1, hf.2]
    ·intro hne; simp [hne, addr_add]
    ·intro he; simp [he]
   | some m =>
    simp only [] at h
    split at h
    ·rename_i hhi
     cases h
     subst hhi
     simp only [Option.getD_some] at c1 c2
     have hr := run_slice (w := w) (len := xs.length) (cap := cap) (a := some ⟨b, pre.length, none⟩) hu hs h1 h2 h3 hm c1 (by simp) (by simp only [Option.getD_some]; omega) hcap
     refine ⟨_, w, hr, Post.same' hk hW (key m true m c1 c2 (lr _) (by omega) (fun _ => rfl) _ ?_ ?_)⟩
     ·intro hne; simp [hne, addr_add]
     ·intro he; simp [he]
    ·cases h
  ·cases h
 case slr r k len s' =>
  split at h
  ·rename_i hc
   obtain ⟨rfl, c1, c2⟩ := hc
   obtain ⟨b, a, hb, rfl, hcap, ha, h48⟩ := hX
   cases mx with
   | none =>
    simp only [] at h
    cases h
    have hr := run_slice (w := w) (len := len) (cap := (γ.vb r).2 - k) (a := some a) hu hs h1 h2 h3 hm c1 (by simp only [Option.getD_none]; omega) (by simp) (by omega)
    refine ⟨_, w, hr, Post.same' hk hW ⟨b, if (γ.vb r).2 - k = lo then a else a.add (lo * s), hb, ?_, by omega, ?_, by omega⟩⟩
    ·simp only [Option.getD_none, Nat.sub_sub]
     congr 1
     split <;> rfl
    ·intro hlt
     rw [if_neg (by omega), ha (by omega), addr_add, Nat.add_assoc, Nat.add_mul]
   | some m =>
    simp only [] at h
    split at h
    ·rename_i hhi
     cases h
     obtain ⟨rfl, rfl⟩ := hhi
     simp only [Option.getD_some] at c1 c2
     have hr := run_slice (w := w) (len := len) (cap := (γ.vb r).2 - k) (a := some a) hu hs h1 h2 h3 hm (by simp) (by simp) (by simp only [Option.getD_some]; omega) (by omega)
     simp only [Option.getD_some, if_true, Nat.sub_self] at hr
     exact ⟨_, w, hr, Post.same' hk hW ⟨a, rfl⟩⟩
    ·cases h
  ·cases h
theorem s_sliceAt {t e : TypeId} {v : Value} {lov hiv mxv : Option Value} {R : Value → World → Prop} (hu : E.P.underlying t = some (.slice e)) (h : SOk E.P (slice t v lov hiv mxv) w R) : SOk E.P (sliceAt t v lov hiv mxv) w R := by
 obtain ⟨u, w', h1, h2⟩ := h
 exact ⟨u, w', by simp [sliceAt, run_underlying hu, h1], h2⟩
theorem s_makesl {t e : TypeId} {s bytes : Nat} {z : V} {X Y : V} {v u : Value} (hu : E.P.underlying t = some (.slice e)) (hs : sizeT E.P e = some s) (hb : bytesT E.P e = some bytes) (hbp : 0 < bytes) (hz : zeroT E.P e = some z) (hzs : z.cells.length = s)
  (hX : RelV γ X v) (hY : RelV γ Y u) (hW : RelW E γ w W) (h : sem E (.makesl s bytes z.cells) [X, Y] W K) : SOk E.P (makeSlice t v u) w (Post E γ W K) := by
 cases X <;> cases Y <;> try exact h.elim
 case int.int k n k' n' =>
 obtain ⟨hs0, rfl, hn, hroom, hk⟩ := h
 cases hX
 cases hY
 obtain ⟨i, hi, his⟩ := info_of_size hs
 have hib : i.bytes = bytes := by simpa [bytesT, hi] using hb
 obtain ⟨zv, hzv, hzr⟩ : ∃ zv, i.zero = some zv ∧ RelV γ z zv := by
  unfold zeroT at hz
  simp only [hi, Option.bind_some, Option.bind_eq_some_iff] at hz
  obtain ⟨zv, h1, h2⟩ := hz
  exact ⟨zv, h1, ofValue_rel h2⟩
 have hzl : zv.cells.size = s := by
  have := hzr.cells.length
  simp only [Array.length_toList] at this
  omega
 have hz0 := run_zeroT hz γ w
 obtain ⟨m, rfl⟩ : ∃ m : Nat, n = m := ⟨n.toNat, (Int.toNat_of_nonneg hn).symm⟩
 simp only [Int.toNat_natCast] at hroom hk
 have hb0 : 0 < bytes := hbp
 have hm46 : m ≤ 2 ^ 46 := Nat.le_trans (Nat.le_mul_of_pos_right m hb0) hroom
 have hwr : IntKind.i64.wrap (m : Int) = m := IntWalk.i64_in _ (by omega)
 have hlarge : ¬ ((bytes : Int) * (m : Int) > 2 ^ 48) := by
  have : ((m * bytes : Nat) : Int) ≤ ((2 ^ 46 : Nat) : Int) := Int.ofNat_le.2 hroom
  rw [Int.natCast_mul, Int.mul_comm] at this
  omega
 have hcells : ((Array.range (m * s)).map (zv.cells[· % zv.cells.size]!)) = ((List.replicate m zv.cells.toList).flatten).toArray := by
  rw [← range_mod zv.cells (by omega) m, hzl]
  apply Array.ext'
  simp
 have hlenr : ((List.replicate m zv.cells.toList).flatten).length = m * s := by simp [hzl]
 obtain ⟨q1, q2⟩ := hW.newVec (s := s) (cap := m) (t := []) (zerosV_rel hzr.cells m) (by rw [apn, hlenr]) e
 refine ⟨.slice (some ⟨w.heap.size, 0, none⟩) m m, _, ?_, _, .slr W.nx 0 m s, _, q2, by simp [AW.alloc], q1, ?_, hk⟩
 ·rw [apn]
  have hms : m * s = 0 ∨ m * s ≠ 0 := Decidable.em _
  rcases hms with hms | hms
  ·have hm0 : m = 0 := by rcases Nat.mul_eq_zero.1 hms with h | h <;> omega
   subst hm0
   have hw0 : IntKind.i64.wrap ((0 : Nat) : Int) = 0 := rfl
   simp [makeSlice, run_underlying hu, asInt, asIntOf, typeInfo, hi, hib, sizeOf, his, newRow]
   have hw0 : IntKind.i64.wrap (0 : Int) = 0 := rfl
   simp [hw0]
   congr 2
   apply Array.ext'
   simp
  ·have hcond : ¬ (((m : Int) < 0 ∨ 281474976710656 < (bytes : Int) * (m : Int)) ∨ (m : Int) < 0) := by omega
   simp [makeSlice, run_underlying hu, asInt, asIntOf, typeInfo, hi, hib, hwr, sizeOf, his, hms, newRow, zeroValue, hzv]
   rw [if_neg hcond]
   congr 3
 ·exact ⟨w.heap.size, ⟨w.heap.size, 0, none⟩, by simp [G.addObj], by simp [G.addObj], by simp [G.addObj], fun _ => by simp [G.addObj], by omega⟩
theorem RelEs.set {x : V} {xv : Value} (hx : RelV γ x xv) {n : Nat} : ∀ {es es' : List (V × V × Nat)} {l : List MapEntry}, RelEs γ es l → setS n x es = some es' →
  ∃ j, l.findIdx? (fun e => (e.born : Int) == (n : Int)) = some j ∧ RelEs γ es' (l.modify j fun e => { e with val := xv })
 | [], _, _, _, h => by simp [setS] at h
 | (a, b, q) :: es, es', _, ⟨me, l', rfl, h1, h2, h3, h4⟩, h => by
  simp only [setS] at h
  by_cases hq : q = n
  ·simp only [hq, if_true, Option.some.injEq] at h
   subst h
   refine ⟨0, by simp [List.findIdx?_cons, h3, hq], ?_⟩
   exact ⟨{ me with val := xv }, l', by simp, h1, hx, by simp [h3, hq], h4⟩
  ·simp only [hq, if_false, Option.map_eq_some_iff] at h
   obtain ⟨es2, he, rfl⟩ := h
   obtain ⟨j, g1, g2⟩ := RelEs.set hx h4 he
   have hne : ((me.born : Int) == (n : Int)) = false := by rw [h3]; simp; omega
   refine ⟨j + 1, by simp [List.findIdx?_cons, hne, g1], ?_⟩
   exact ⟨me, l'.modify j _, by simp, h1, h2, h3, g2⟩
theorem s_ment {t k e : TypeId} {sh : Bool × List SK} {z : V} {X Y : V} {v u : Value} (hu : E.P.underlying t = some (.map k e)) (hsh : shT E.P k = some sh) (hz : zeroT E.P e = some z)
  (hX : RelV γ X v) (hY : RelV γ Y u) (hW : RelW E γ w W) (h : sem E (.ment sh z) [X, Y] W K) : SOk E.P (mapEntry t v u) w (Post E γ W K) := by
 obtain ⟨zv, hzr, hzrel⟩ := run_zeroT hz γ w
 cases X <;> simp only [sem, rsem, tsem] at h
 case map r =>
  split at h
  ·rename_i es clock hobj
   obtain ⟨⟨hk1, hk2⟩, h⟩ := h
   obtain ⟨b, hb, rfl⟩ := hX
   obtain ⟨b', mes, hb', hheap, hes⟩ := hW.obj r _ hobj
   rw [hb] at hb'; cases hb'
   have hck := run_checkKey_flat hsh hk1 hY false w
   have hget : (getObj b).run E.P w = .ok (.map mes.toArray clock) w := by simp [getObj, Sem.run, hheap]
   have hset : ∀ m' c', (setObj b (.map m' c')).run E.P w = .ok () { w with heap := w.heap.setIfInBounds b (.map m' c') } := fun m' c' => by simp [setObj, Sem.run, hheap]
   obtain ⟨hB, _, _⟩ := hW.apart r _ b hobj hb
   rcases run_findKey_flat hsh hk1 hY w es mes hes hk2 with ⟨h1, h2⟩ | ⟨e', j, me, h1, h2, h3, h4, h5, h6, h7, h8, h9⟩
   ·rw [h1] at h
    refine ⟨.tuple #[zv, goInt clock], _, by simp only [mapEntry, Sem.run_bind, run_underlying hu, Result.andThen_ok, hget, hck, h2, hzr, hset]; rfl, γ, _, W.put r (.map (es ++ [(Y, z, clock)]) (clock + 1)), G.le.refl _ _, lr _, ?_, hzrel.tuple2 (y := .int .i64 clock) (u := goInt clock) rfl, h⟩
    refine hW.setObj hobj hb (by rw [hheap]; simp) (below_setObj hB _) (by simp) (fun k' hk' => ?_) ⟨b, mes ++ [{ key := u, val := zv, born := clock }], hb, ?_, hes.append ⟨_, [], rfl, hY, hzrel, rfl, rfl⟩⟩
    ·show (w.heap.setIfInBounds b _)[k']? = _
     rw [Array.getElem?_setIfInBounds_ne (Ne.symm hk')]
    ·rw [heap_setObj hheap]; simp
   ·rw [h1] at h
    have hee : Y = e'.1 := keq_eq hk1 (hk2 e' (List.mem_of_getElem? h7)) h4
    obtain ⟨hsame, hbits⟩ := flat_same hk1 hY (hee ▸ h5)
    have hstay : (Instr.keyThatStays me.key u).run E.P w = .ok u w := by
     unfold Instr.keyThatStays
     rw [← hsame, if_pos hbits]
     rfl
    have hkey : (((mes.toArray[j]?).map (·.key)).getD u) = me.key := by simp [h2]
    have hborn : (((mes.toArray[j]?).map (fun x => (x.born : Int))).getD 0) = (me.born : Int) := by simp [h2]
    refine ⟨.tuple #[me.val, goInt me.born], _, by simp only [mapEntry, Sem.run_bind, run_underlying hu, Result.andThen_ok, hget, hck, h9, hkey, hborn, hstay, hset]; rfl, γ, _, W, G.le.refl _ _, lr _, ?_, h3.tuple2 (y := .int .i64 e'.2.2) (u := goInt me.born) (by rw [h6]; rfl), h⟩
    rw [← put_same hobj]
    refine hW.setObj hobj hb (by rw [hheap]; simp) (below_setObj hB _) (by simp) (fun k' hk' => ?_) ⟨b, mes, hb, ?_, hes⟩
    ·show (w.heap.setIfInBounds b _)[k']? = _
     rw [Array.getElem?_setIfInBounds_ne (Ne.symm hk')]
    ·rw [heap_setObj hheap]
     congr 2
     apply Array.ext'
     rw [Array.toList_modify]
     have hme : ({ me with key := u } : MapEntry) = me := by rw [hsame]
     apply List.ext_getElem?
     intro q
     rw [List.getElem?_modify]
     by_cases hq : j = q
     ·subst hq
      have : mes[j]? = some me := h2
      simp [this, hme]
     ·simp [hq]
  ·exact h.elim
 all_goals exact h.elim
theorem s_mest {t : TypeId} {X Y Z : V} {v u x : Value} (hX : RelV γ X v) (hY : RelV γ Y u) (hZ : RelV γ Z x) (hW : RelW E γ w W) (h : sem E .mest [X, Y, Z] W K) :
  ∃ w', (entryStore t v u x).run E.P w = .ok () w' ∧ Post E γ W K undef w' := by
 cases X <;> try exact h.elim
 case map r =>
 cases Y <;> try exact h.elim
 case int k n =>
 change (match W.get r with | some (.map es clock) => _ | _ => False) at h
 split at h
 ·rename_i es clock hobj
  obtain ⟨hn, h⟩ := h
  split at h
  ·rename_i es' hes'
   obtain ⟨b, hb, rfl⟩ := hX
   cases hY
   obtain ⟨b', mes, hb', hheap, hes⟩ := hW.obj r _ hobj
   rw [hb] at hb'; cases hb'
   have hget : (getObj b).run E.P w = .ok (.map mes.toArray clock) w := by simp [getObj, Sem.run, hheap]
   have hset : ∀ m' c', (setObj b (.map m' c')).run E.P w = .ok () { w with heap := w.heap.setIfInBounds b (.map m' c') } := fun m' c' => by simp [setObj, Sem.run, hheap]
   obtain ⟨hB, _, _⟩ := hW.apart r _ b hobj hb
   obtain ⟨j, g1, g2⟩ := hes.set hZ hes'
   rw [Int.toNat_of_nonneg hn] at g1
   refine ⟨_, by simp only [entryStore, Sem.run_bind, Result.andThen_ok, hget, asInt, asIntOf, Sem.run_pure, List.findIdx?_toArray, g1, hset]; rfl, γ, .undef, W.put r (.map es' clock), G.le.refl _ _, lr _, ?_, ⟨[], rfl, rfl⟩, h⟩
   refine hW.setObj hobj hb (by rw [hheap]; simp) (below_setObj hB _) (by simp) (fun k' hk' => ?_) ⟨b, _, hb, ?_, g2⟩
   ·show (w.heap.setIfInBounds b _)[k']? = _
    rw [Array.getElem?_setIfInBounds_ne (Ne.symm hk')]
   ·rw [heap_setObj hheap]
    congr 2
    apply Array.ext'
    simp
  ·exact h.elim
 ·exact h.elim
end Go.AL
