/- The abstract logic, part 3: code and functions: contracts out of the abstract rules. Conditions: none. -/
import Derived.Test.YtfncnpcoekinjaaGreatDoorAb
open Nat renaming reduceEqDiff → nE, reduceLeDiff → nL, reduceAdd → nA, reduceLT → nT, le_refl → lr
open List renaming getElem?_eq_getElem → gEg, length_map → lmp, getElem_mem → gmm, length_append → lap, length_cons → lcs, mem_singleton → msg, append_nil → apn, mem_append → map', take_length → tkl, map_cons → mcs, map_append → mpp, mem_map → mmp, any_eq_true → aet, length_replicate → lrp, take_add_one → tao, length_take → ltk, mem_filter → mfl
namespace Go.AL
open RowKit
variable {γ : G} {E : Env} {w : World} {W : AW} {K : V → AW → Prop} {h0 : Nat → Bool} {n : Nat} {a : Act} {A : AFr}
def OpOk (P : Program) (a : Act) (o : Oper) (w : World) (R : Value → World → Prop) : Prop :=
 (∃ v w', (execOp a.eval o).run P w = .ok (.value v) w' ∧ R v w') ∨
 (∃ w', (execOp a.eval o).run P w = .ok .skip w' ∧ R undef w') ∨
 (∃ f args w1, (execOp a.eval o).run P w = .ok (.enter f args) w1 ∧ Calls P f args w1 fun e w' => ∃ v, e = .returned v ∧ R v w') ∨
 (∃ l f tmps assign body, (execOp a.eval o).run P w = .ok (.round l f tmps assign body) w ∧ RoundIn Fence.wide 0 P l f tmps assign body w fun e w' => ∃ v, e = .returned v ∧ R v w')
abbrev Fr (ρ : Option Nat) : Fence := { Fence.wide with round := ρ }
theorem calls_fr {ρ : Option Nat} {m : Nat} {P : Program} {f : FuncId} {args : Array Value} {R : Ending → World → Prop} (h : Calls P f args w R) : CallsIn (Fr ρ) m P f args w R :=
 (callsIn_wide (n := m)).2 h
theorem round_fr {ρ : Option Nat} {m : Nat} {P : Program} {l : Nat} {f : FuncId} {tmps : Array Value} {assign body : Code} {R : Ending → World → Prop} (h : RoundIn Fence.wide 0 P l f tmps assign body w R) : RoundIn (Fr ρ) m P l f tmps assign body w R :=
 ⟨h.1, fun c cs _ => h.2 c cs (room_wide _)⟩
theorem OpOk.wp {P : Program} {o : Oper} {ρ : Option Nat} {R : Value → World → Prop} {next : Act → World → Prop} {Q : Exit → Act → World → Prop} (h : OpOk P a o w R) (hd : ∀ c, o.op ≠ .defer c) (hn : ∀ v w', R v w' → next (a.put o.dst v) w') : o.wpIn (Fr ρ) 0 P a w next Q := by
 refine ⟨fun _ _ => trivial, ?_⟩
 rw [Oper.semAt_eq _ _ _ hd]
 rcases h with ⟨v, w', h1, h2⟩ | ⟨w', h1, h2⟩ | ⟨f, args, w1, h1, h2⟩ | ⟨l, f, tmps, assign, body, h1, h2⟩
 ·rw [h1]; exact hn _ _ h2
 ·rw [h1]; exact hn _ _ h2
 ·rw [h1]
  refine ⟨fun h => (by cases h), CallsIn.mono (calls_fr h2) (fun e w' h3 => ?_)⟩
  obtain ⟨v, rfl, h4⟩ := h3
  exact hn _ _ h4
 ·rw [h1]
  refine ⟨fun h => (by cases h), RoundIn.mono (round_fr h2) (fun e w' h3 => ?_)⟩
  obtain ⟨v, rfl, h4⟩ := h3
  exact hn _ _ h4
theorem comp_nodefer {P : Program} {o : Oper} {pu : PM} {r : AK × List AX} (h : compOp P o pu = some r) : ∀ c, o.op ≠ .defer c := by
 intro c hc
 simp [compOp, hc] at h
theorem OpOk.val {P : Program} {o : Oper} {m : Sem Value} {R : Value → World → Prop} (h : SOk P m w R) (he : execOp a.eval o = (do pure (.value (← m)))) : OpOk P a o w R := by
 obtain ⟨v, w', h1, h2⟩ := h
 exact .inl ⟨v, w', by rw [he, Sem.run_bind, h1]; rfl, h2⟩
theorem OpOk.unit {P : Program} {o : Oper} {m : Sem Unit} {R : Value → World → Prop} (h : ∃ w', m.run P w = .ok () w' ∧ R undef w') (he : execOp a.eval o = (do m; pure .skip)) : OpOk P a o w R := by
 obtain ⟨w', h1, h2⟩ := h
 exact .inr (.inl ⟨w', by rw [he, Sem.run_bind, h1]; rfl, h2⟩)
theorem rel1 {vs : List V} {v : Value} (h : RelL γ vs [v]) : ∃ X, vs = [X] ∧ RelV γ X v := by
 match vs, h with
 | [X], ⟨_, _, e, h1, _⟩ => cases e; exact ⟨X, rfl, h1⟩
 | X :: Y :: r, ⟨_, _, e, _, h2⟩ => cases e; obtain ⟨_, _, e, _⟩ := h2; cases e
theorem rel2 {vs : List V} {v u : Value} (h : RelL γ vs [v, u]) : ∃ X Y, vs = [X, Y] ∧ RelV γ X v ∧ RelV γ Y u := by
 match vs, h with
 | X :: r, ⟨_, _, e, h1, h2⟩ =>
  cases e
  obtain ⟨Y, rfl, h3⟩ := rel1 h2
  exact ⟨X, Y, rfl, h1, h3⟩
theorem rel3 {vs : List V} {v u x : Value} (h : RelL γ vs [v, u, x]) : ∃ X Y Z, vs = [X, Y, Z] ∧ RelV γ X v ∧ RelV γ Y u ∧ RelV γ Z x := by
 match vs, h with
 | X :: r, ⟨_, _, e, h1, h2⟩ =>
  cases e
  obtain ⟨Y, Z, rfl, h3, h4⟩ := rel2 h2
  exact ⟨X, Y, Z, rfl, h1, h3, h4⟩
theorem rel4 {vs : List V} {v u x y : Value} (h : RelL γ vs [v, u, x, y]) : ∃ X Y Z U, vs = [X, Y, Z, U] ∧ RelV γ X v ∧ RelV γ Y u ∧ RelV γ Z x ∧ RelV γ U y := by
 match vs, h with
 | X :: r, ⟨_, _, e, h1, h2⟩ =>
  cases e
  obtain ⟨Y, Z, U, rfl, h3, h4, h5⟩ := rel3 h2
  exact ⟨X, Y, Z, U, rfl, h1, h3, h4, h5⟩
theorem frz_rel (hW : RelW E γ w W) : ∀ {x : V} {v : Value}, RelV γ x v → RelV γ (W.frz x) v := by
 intro x v h
 cases x
 case buf np r s m =>
  unfold AW.frz
  split
  ·rename_i np' r' s' m' heq
   cases heq
   split
   ·rename_i np2 s2 xs hobj
    split
    ·rename_i hc
     obtain ⟨rfl, rfl, rfl⟩ := hc
     obtain ⟨hs, cur, g1, g2, g3, g4⟩ := hW.obj r _ hobj
     split
     ·rename_i hnil
      simp only [Bool.and_eq_true, List.isEmpty_iff] at hnil
      rcases h with ⟨b, hown, _⟩ | ⟨_, _, rfl⟩
      ·exact absurd hown (g4 hnil.2 hnil.1 b)
      ·rfl
     ·rename_i hnil
      rcases h with ⟨b, hown, c, sz, cap, hcon, h1, h2, h3, rfl, h4⟩ | ⟨⟨_, rfl⟩, hm, rfl⟩
      ·obtain ⟨c', sz', k, e1, e2, e3, e4, _⟩ := g1 b hown
       rw [hcon] at e1; cases e1
       have hk : k = xs.length := by
        have : xs.length ≤ k := Nat.le_of_mul_le_mul_right (by omega) hs
        omega
       subst hk
       rw [List.take_of_length_le (lr _)] at e4
       exact ⟨b, [], c, [], sz, cap, by simpa using hcon, e4, rfl, h3, by simp, h4⟩
      ·exact absurd (List.length_eq_zero_iff.1 hm) (by simpa using hnil)
    ·exact h
   ·exact h
  ·rename_i hne
   exact absurd rfl (hne np r s m)
 all_goals exact h
theorem frz_rels (hW : RelW E γ w W) : ∀ {xs : List V} {l : List Value}, RelL γ xs l → RelL γ (xs.map W.frz) l
 | [], _, h => h
 | _ :: _, _, ⟨v, l', e, h1, h2⟩ => ⟨v, l', e, frz_rel hW h1, frz_rels hW h2⟩
theorem ACalls.enter (hE : E.Sound) {f : FuncId} {vs : List V} {ws : List Value} {o : Oper} (h : ACalls E f (vs.map W.frz) W K) (hW : RelW E γ w W) (hws : RelL γ vs ws)
  (he : execOp a.eval o = callFunc f ws.toArray) : OpOk E.P a o w (Post E γ W K) := by
 obtain ⟨⟨fn, c, h1, h2, h3⟩, hc⟩ := h
 refine .inr (.inr (.inl ⟨f, ws.toArray, w, ?_, (hc hE γ w ws hW (frz_rels hW hws)).mono ?_⟩))
 ·rw [he]
  simp [callFunc, h1, h2, h3]
 ·rintro e w' ⟨v, γ', X, W', rfl, g1, g2, g3, g4, g5⟩
  exact ⟨v, rfl, γ', X, W', g1, g2, g3, g4, g5⟩
theorem ACalls.pure (hE : E.Sound) {f : FuncId} {vs : List V} {ws : List Value} {o : Oper} (h : ∃ v, ACalls E f (vs.map W.frz) W (fun X W' => X = v ∧ W' = W) ∧ K v W) (hW : RelW E γ w W) (hws : RelL γ vs ws)
  (he : execOp a.eval o = callFunc f ws.toArray) : OpOk E.P a o w (Post E γ W K) := by
 obtain ⟨v, h1, h2⟩ := h
 have := ACalls.enter hE (a := a) (o := o) (K := fun X W' => X = v ∧ W' = W) h1 hW hws he
 have hp : ∀ u w', Post E γ W (fun X W' => X = v ∧ W' = W) u w' → Post E γ W K u w' := by
  rintro u w' ⟨γ', X, W', g1, g2, g3, g4, rfl, rfl⟩
  exact ⟨γ', X, W', g1, g2, g3, g4, h2⟩
 rcases this with ⟨u, w', g1, g2⟩ | ⟨w', g1, g2⟩ | ⟨f', args, w1, g1, g2⟩ | ⟨l, f', tmps, assign, body, g1, g2⟩
 ·exact .inl ⟨u, w', g1, hp _ _ g2⟩
 ·exact .inr (.inl ⟨w', g1, hp _ _ g2⟩)
 ·exact .inr (.inr (.inl ⟨f', args, w1, g1, g2.mono fun e w' ⟨u, hu, hq⟩ => ⟨u, hu, hp _ _ hq⟩⟩))
 ·exact .inr (.inr (.inr ⟨l, f', tmps, assign, body, g1, g2.mono fun e w' ⟨u, hu, hq⟩ => ⟨u, hu, hp _ _ hq⟩⟩))
theorem some2 {α β : Type} {f : List AX → α × β} {o : Option (List AX)} {r : α × β} (h : o.map f = some r) : ∃ xs, o = some xs ∧ f xs = r := by
 simpa [Option.map_eq_some_iff] using h
theorem tsem_sem {k : AK} {vs : List V} (h : sem E k vs W K) (hk : isT k = true) : ∃ Y, tsem k vs = some Y ∧ K Y W := by
 cases k <;> simp [isT] at hk
 all_goals
  simp only [sem, rsem] at h
  split at h
  ·rename_i Y hY; exact ⟨Y, hY, h⟩
  ·exact h.elim
theorem rsem_sem {k : AK} {vs : List V} (h : sem E k vs W K) (hk : (match k with | .load .. | .idxp _ => true | _ => false) = true) : ∃ Y, rsem k vs W = some Y ∧ K Y W := by
 cases k <;> simp at hk
 all_goals
  simp only [sem] at h
  split at h
  ·rename_i Y hY; exact ⟨Y, hY, h⟩
  ·exact h.elim
set_option maxHeartbeats 2000000 in
theorem op_sound (hE : E.Sound) {o : Oper} {pu : PM} {k : AK} {xs : List AX} {vs : List V} (hc : compOp E.P o pu = some (k, xs)) (hv : evs E A xs = some vs) (hs : sem E k vs W K) (hF : RelF γ h0 n a A) (hW : RelW E γ w W) :
  OpOk E.P a o w (Post E γ W K) := by
 have one : ∀ {x : Operand} {ys : List AX}, compXs [x] = some ys → ys = xs → ∃ X, vs = [X] ∧ RelV γ X (a.eval x) := fun h e => rel1 (by subst e; simpa using evs_sound hF hW h hv)
 have two : ∀ {x y : Operand} {ys : List AX}, compXs [x, y] = some ys → ys = xs → ∃ X Y, vs = [X, Y] ∧ RelV γ X (a.eval x) ∧ RelV γ Y (a.eval y) := fun h e => rel2 (by subst e; simpa using evs_sound hF hW h hv)
 have three : ∀ {x y z : Operand} {ys : List AX}, compXs [x, y, z] = some ys → ys = xs → ∃ X Y Z, vs = [X, Y, Z] ∧ RelV γ X (a.eval x) ∧ RelV γ Y (a.eval y) ∧ RelV γ Z (a.eval z) := fun h e => rel3 (by subst e; simpa using evs_sound hF hW h hv)
 unfold compOp at hc
 split at hc
 ·
  rename_i x hop
  obtain ⟨ys, hy, e⟩ := some2 hc
  cases e
  obtain ⟨X, rfl, r1⟩ := one hy rfl
  obtain ⟨Y, hY, hk⟩ := tsem_sem hs rfl
  cases hY
  exact .inl ⟨_, w, by simp [execOp, hop], Post.same' hk hW r1⟩
 ·
  rename_i x hop
  obtain ⟨ys, hy, e⟩ := some2 hc
  cases e
  obtain ⟨X, rfl, r1⟩ := one hy rfl
  obtain ⟨Y, hY, hk⟩ := tsem_sem hs rfl
  cases hY
  exact .inl ⟨_, w, by simp [execOp, hop], Post.same' hk hW r1⟩
 ·
  rename_i c x y hop
  obtain ⟨ys, hy, e⟩ := some2 hc
  cases e
  obtain ⟨X, Y, Z, rfl, r1, r2, r3⟩ := three hy rfl
  obtain ⟨R, hR, hk⟩ := tsem_sem hs rfl
  cases X <;> simp only [tsem, reduceCtorEq] at hR
  rename_i b
  cases hR
  have hb : a.eval c = .bool b := r1
  cases b
  ·exact .inl ⟨a.eval y, w, by simp [execOp, hop, hb, asBool], Post.same' hk hW r3⟩
  ·exact .inl ⟨a.eval x, w, by simp [execOp, hop, hb, asBool], Post.same' hk hW r2⟩
 ·
  rename_i t hop
  cases hz : zeroT E.P t with
  | none => simp [hz] at hc
  | some z =>
   simp only [hz, Option.map_some, Option.some.injEq, Prod.mk.injEq] at hc
   obtain ⟨rfl, rfl⟩ := hc
   cases hv
   exact OpOk.val (s_alloc hz hW hs) (by simp [execOp, hop])
 ·
  rename_i t x hop
  obtain ⟨ys, hy, e⟩ := some2 hc
  cases e
  obtain ⟨X, rfl, r1⟩ := one hy rfl
  exact OpOk.val (s_box (t := t) r1 hW hs) (by simp [execOp, hop])
 ·
  rename_i t parts hop
  have hex : execOp a.eval o = (do pure (.value (← Instr.build t (List.toArray ((parts.toList.map (·.1)).zip ((parts.toList.map (·.2)).map a.eval)))))) := by
   simp only [execOp, hop]
   rw [← zip_parts]
   congr 2
   apply Array.ext'
   simp
  split at hc
  ·rename_i fs z hu hz
   split at hc
   ·rename_i ps ys h1 h2
    split at hc
    ·rename_i hall
     cases hc
     obtain ⟨R, hR, hk⟩ := tsem_sem hs rfl
     simp only [tsem, Option.map_eq_some_iff] at hR
     obtain ⟨R', hR', rfl⟩ := hR
     exact OpOk.val (s_build_struct hu hz h1 hall hR' (evs_sound hF hW h2 hv) hW hk) hex
    ·cases hc
   ·cases hc
  ·rename_i n' e z hu hz
   split at hc
   ·rename_i s ys h1 h2
    cases hc
    obtain ⟨R, hR, hk⟩ := tsem_sem hs rfl
    simp only [tsem, Option.map_eq_some_iff] at hR
    obtain ⟨R', hR', rfl⟩ := hR
    exact OpOk.val (s_build_array (is := parts.toList.map (·.1)) hu hz h1 (by simpa [List.map_map, Function.comp_def] using hR') (evs_sound hF hW h2 hv) hW hk) hex
   ·cases hc
  ·cases hc
 ·
  rename_i t m parts hop
  have hex : execOp a.eval o = (do pure (.value (← Instr.buildSlice t m (List.toArray ((parts.toList.map (·.1)).zip ((parts.toList.map (·.2)).map a.eval)))))) := by
   simp only [execOp, hop]
   rw [← zip_parts]
   congr 2
   apply Array.ext'
   simp
  split at hc
  ·rename_i e hu
   split at hc
   ·rename_i s z ys h1 h2 h3
    split at hc
    ·rename_i hpos
     cases hc
     obtain ⟨R, hR, hk⟩ := tsem_sem hs rfl
     simp only [tsem] at hR
     split at hR
     ·rename_i hcond
      simp only [Option.map_eq_some_iff] at hR
      obtain ⟨R', hR', rfl⟩ := hR
      exact OpOk.val (s_bslice hu h2 h1 hpos hcond.1 hcond.2 hR' (evs_sound hF hW h3 hv) hW hk) hex
     ·cases hR
    ·cases hc
   ·cases hc
  ·cases hc
 ·
  rename_i t x hop
  split at hc
  ·rename_i g s ys h1 h2 h3
   cases hc
   obtain ⟨X, rfl, r1⟩ := one h3 rfl
   obtain ⟨Y, hY, hk⟩ := rsem_sem hs rfl
   exact OpOk.val (s_load h1 h2 r1 hW hY hk) (by simp [execOp, hop])
  ·cases hc
 ·
  rename_i t x y hop
  split at hc
  ·rename_i s ys h1 h2
   cases hc
   obtain ⟨X, Y, rfl, r1, r2⟩ := two h2 rfl
   cases X <;> simp only [sem, rsem, tsem] at hs
   ·rename_i r off
    split at hs
    ·rename_i cells hobj
     obtain ⟨g1, g2, g3, hk⟩ := hs
     exact OpOk.unit (s_store h1 r1 r2 hW hobj g1 g2 g3 hk) (by simp [execOp, hop])
    ·exact hs.elim
   ·rename_i r off
    split at hs
    ·rename_i cells hobj
     obtain ⟨g1, g2, g3, hk⟩ := hs
     exact OpOk.unit (s_storeV h1 r1 r2 hW hobj g1 g2 g3 hk) (by simp [execOp, hop])
    ·exact hs.elim
  ·cases hc
 ·
  rename_i x hop
  obtain ⟨ys, hy, e⟩ := some2 hc
  cases e
  obtain ⟨X, rfl, r1⟩ := one hy rfl
  obtain ⟨Y, hY, hk⟩ := tsem_sem hs rfl
  obtain ⟨u, g1, g2⟩ := s_nilck hop rfl r1 hW hY hk
  exact .inl ⟨u, w, g1, g2⟩
 ·
  rename_i op t x y yt hop
  split at hc
  ·rename_i hty
   obtain ⟨ys, hy, e⟩ := some2 hc
   cases e
   obtain ⟨X, Y, rfl, r1, r2⟩ := two hy rfl
   obtain ⟨R, hR, hk⟩ := tsem_sem hs rfl
   cases X <;> simp only [tsem, reduceCtorEq] at hR
   case int k1 n1 =>
    cases Y <;> simp only [reduceCtorEq] at hR
    rename_i k2 n2
    split at hR
    ·rename_i hkk
     subst hkk
     have e1 : a.eval x = .int k1 n1 := r1
     have e2 : a.eval y = .int k1 n2 := r2
     refine OpOk.val (m := do eqGuard op t x y (a.eval x) (a.eval y); binOp op t (a.eval x) (a.eval y)) ?_ (by simp [execOp, hop])
     rw [e1, e2]
     obtain ⟨v, w', g1, g2⟩ := s_binI (t := t) hR hW hk
     exact ⟨v, w', by rw [Sem.run_bind, run_eqGuard_cell (by trivial)]; exact g1, g2⟩
    ·have e1 : a.eval x = .int k1 n1 := r1
     have e2 : a.eval y = .int k2 n2 := r2
     refine OpOk.val (m := do eqGuard op t x y (a.eval x) (a.eval y); binOp op t (a.eval x) (a.eval y)) ?_ (by simp [execOp, hop])
     rw [e1, e2]
     have fin : SOk E.P (binOp op t (.int k1 n1) (.int k2 n2)) w (Post E γ W K) := by
      split at hR
      ·exact s_shI (.inl rfl) hR hW hk
      ·exact s_shI (.inr rfl) hR hW hk
      ·cases hR
     obtain ⟨v, w', g1, g2⟩ := fin
     exact ⟨v, w', by rw [Sem.run_bind, run_eqGuard_cell (by trivial)]; exact g1, g2⟩
   case str s1 =>
    cases Y <;> simp only [reduceCtorEq] at hR
    rename_i s2
    have e1 : a.eval x = .string s1 := r1
    have e2 : a.eval y = .string s2 := r2
    refine OpOk.val (m := do eqGuard op t x y (a.eval x) (a.eval y); binOp op t (a.eval x) (a.eval y)) ?_ (by simp [execOp, hop])
    rw [e1, e2]
    obtain ⟨v, w', g1, g2⟩ := s_binS (t := t) hR hW hk
    exact ⟨v, w', by rw [Sem.run_bind, run_eqGuard_cell (by trivial)]; exact g1, g2⟩
  ·rename_i hty
   have hni : isIntT E.P t = false := by cases h : isIntT E.P t <;> simp_all
   have hns : isStrT E.P t = false := by cases h : isStrT E.P t <;> simp_all
   have eqs : ∀ (op' : BinOp), op' = op → (op' = .eql ∨ op' = .neq) → (match nilT E.P t with
    | some cat => (compXs [x, y]).map (AK.eqn (op' == .neq) cat, ·)
    | none => match shT E.P t with
     | some sh => (compXs [x, y]).map (AK.eqv (op' == .neq) sh, ·)
     | none => none) = some (k, xs) → OpOk E.P a o w (Post E γ W K) := by
    rintro op' rfl hop' hc
    split at hc
    ·rename_i cat hcat
     obtain ⟨ys, hy, e⟩ := some2 hc
     cases e
     obtain ⟨X, Y, rfl, r1, r2⟩ := two hy rfl
     obtain ⟨R, hR, hk⟩ := tsem_sem hs rfl
     exact OpOk.val (s_eqn hop' hcat r1 r2 hW hR hk x y) (by simp [execOp, hop])
    ·split at hc
     ·rename_i sh hsh
      obtain ⟨ys, hy, e⟩ := some2 hc
      cases e
      obtain ⟨X, Y, rfl, r1, r2⟩ := two hy rfl
      obtain ⟨R, hR, hk⟩ := tsem_sem hs rfl
      obtain ⟨b, rfl, hrun⟩ := s_eqv hop' hni hns hsh r1 r2 hR x y w
      exact OpOk.val ⟨_, w, hrun, Post.same' hk hW rfl⟩ (by simp [execOp, hop])
     ·cases hc
   split at hc
   ·exact eqs .eql rfl (.inl rfl) hc
   ·exact eqs .neq rfl (.inr rfl) hc
   ·cases hc
 ·
  rename_i op t x hop
  obtain ⟨ys, hy, e⟩ := some2 hc
  cases e
  obtain ⟨X, rfl, r1⟩ := one hy rfl
  obtain ⟨R, hR, hk⟩ := tsem_sem hs rfl
  exact OpOk.val (s_un r1 hW hR hk) (by simp [execOp, hop])
 ·
  rename_i src dst x hop
  split at hc
  ·rename_i j kk h1 h2
   obtain ⟨ys, hy, e⟩ := some2 hc
   cases e
   obtain ⟨X, rfl, r1⟩ := one hy rfl
   obtain ⟨R, hR, hk⟩ := tsem_sem hs rfl
   exact OpOk.val (s_conv h1 h2 r1 hW hR hk) (by simp [execOp, hop])
  ·cases hc
 ·
  rename_i f first cap hop
  obtain ⟨ys, hy, e⟩ := some2 hc
  cases e
  have hrel := evs_sound hF hW hy hv
  obtain ⟨R, hR, hk⟩ := tsem_sem hs rfl
  cases hR
  refine .inl ⟨.func f (first.map a.eval) (cap.map a.eval), w, by simp [execOp, hop, Instr.makeFunc], Post.same' hk hW ⟨first.toList.map a.eval, cap.toList.map a.eval, ?_, ?_, ?_⟩⟩
  ·congr 1 <;> (apply Array.ext'; simp)
  ·have := hrel.take first.size
   simpa [List.take_append] using this
  ·have := hrel.drop first.size
   simpa [List.drop_append] using this
 ·
  rename_i t hop
  cases hc
  cases hv
  exact OpOk.val (s_mkmap (t := t) hW hs) (by simp [execOp, hop])
 ·
  rename_i t x i hop
  split at hc
  ·rename_i fs hu
   split at hc
   ·rename_i f hf
    split at hc
    ·rename_i z ys h1 h2
     split at hc
     ·rename_i hz0
      cases hc
      obtain ⟨X, rfl, r1⟩ := one h2 rfl
      obtain ⟨R, hR, hk⟩ := tsem_sem hs rfl
      exact OpOk.val (s_fld hu hf h1 hz0 r1 hW hR hk) (by simp [execOp, hop])
     ·cases hc
    ·cases hc
   ·cases hc
  ·cases hc
 ·
  rename_i t x i hop
  split at hc
  ·rename_i fs hu
   split at hc
   ·rename_i f hf
    split at hc
    ·rename_i g z ys h1 h2 h3
     cases hc
     obtain ⟨X, rfl, r1⟩ := one h3 rfl
     obtain ⟨R, hR, hk⟩ := tsem_sem hs rfl
     exact OpOk.val (s_fldv hu hf h1 h2 r1 hW hR hk) (by simp [execOp, hop])
    ·cases hc
   ·cases hc
  ·cases hc
 ·
  rename_i t x i hop
  split at hc
  ·rename_i e hu
   split at hc
   ·rename_i s ys h1 h2
    cases hc
    obtain ⟨X, Y, rfl, r1, r2⟩ := two h2 rfl
    obtain ⟨R, hR, hk⟩ := rsem_sem hs rfl
    exact OpOk.val (s_idxp hu h1 r1 r2 hW hR hk) (by simp [execOp, hop])
   ·cases hc
  ·rename_i m e hu
   split at hc
   ·rename_i s ys h1 h2
    cases hc
    obtain ⟨X, Y, rfl, r1, r2⟩ := two h2 rfl
    obtain ⟨R, hR, hk⟩ := tsem_sem hs rfl
    exact OpOk.val (s_idxa hu h1 r1 r2 hW hR hk) (by simp [execOp, hop])
   ·cases hc
  ·cases hc
 ·
  rename_i t x i hop
  split at hc
  ·rename_i m e hu
   split at hc
   ·rename_i g s ys h1 h2 h3
    cases hc
    obtain ⟨X, Y, rfl, r1, r2⟩ := two h3 rfl
    obtain ⟨R, hR, hk⟩ := tsem_sem hs rfl
    exact OpOk.val (s_idxv hu h1 h2 r1 r2 hW hR hk) (by simp [execOp, hop])
   ·cases hc
  ·rename_i hu
   obtain ⟨ys, hy, e⟩ := some2 hc
   cases e
   obtain ⟨X, Y, rfl, r1, r2⟩ := two hy rfl
   obtain ⟨R, hR, hk⟩ := tsem_sem hs rfl
   exact OpOk.val (s_idxs hu r1 r2 hW hR hk) (by simp [execOp, hop])
  ·cases hc
 ·
  rename_i t x i ok hop
  split at hc
  ·rename_i kt e hu
   split at hc
   ·rename_i sh z ys h1 h2 h3
    cases hc
    obtain ⟨X, Y, rfl, r1, r2⟩ := two h3 rfl
    exact OpOk.val (s_lookup hu h1 h2 r1 r2 hW hs) (by simp [execOp, hop])
   ·cases hc
  ·cases hc
 ·
  rename_i t m kk x hop
  split at hc
  ·rename_i kt e hu
   split at hc
   ·rename_i sh ys h1 h2
    cases hc
    obtain ⟨X, Y, Z, rfl, r1, r2, r3⟩ := three h2 rfl
    exact OpOk.unit (s_mupd hu h1 r1 r2 r3 hW hs) (by simp [execOp, hop])
   ·cases hc
  ·cases hc
 ·
  rename_i t m kk x hop
  split at hc
  ·rename_i kt e hu
   split at hc
   ·rename_i sh ys h1 h2
    cases hc
    obtain ⟨X, Y, Z, rfl, r1, r2, r3⟩ := three h2 rfl
    exact OpOk.unit (s_mupd hu h1 r1 r2 r3 hW hs) (by simp [execOp, hop])
   ·cases hc
  ·cases hc
 ·
  rename_i t x lo hi mx hop
  split at hc
  ·rename_i e hu
   split at hc
   ·rename_i s ys h1 h2
    split at hc
    ·rename_i hs0
     cases hc
     obtain ⟨R, hR, hk⟩ := tsem_sem hs rfl
     have hall := evs_sound hF hW h2 hv
     have hex : execOp a.eval o = (do pure (.value (← Instr.sliceAt t (a.eval x) (lo.map a.eval) (hi.map a.eval) (mx.map a.eval)))) := by simp [execOp, hop]
     refine OpOk.val (s_sliceAt hu ?_) hex
     simp only [tsem] at hR
     cases lo <;> cases hi <;> cases mx <;> simp only [Option.toList, mcs, List.map_nil, apn, List.nil_append, List.cons_append, Option.isSome] at hall hR ⊢
     ·obtain ⟨X, rfl, r1⟩ := rel1 hall
      exact s_slcV hu h1 hs0 (.inl ⟨rfl, rfl⟩) (.inl ⟨rfl, rfl⟩) (.inl ⟨rfl, rfl⟩) (fun h => absurd rfl h) r1 hW hR hk
     ·obtain ⟨X, Y, rfl, r1, r2⟩ := rel2 hall
      cases hR
     ·obtain ⟨X, Y, rfl, r1, r2⟩ := rel2 hall
      simp only [slcOp, Option.bind_eq_some_iff] at hR
      obtain ⟨b, hb, hR⟩ := hR
      obtain ⟨kb, eb⟩ := natV_rel hb r2
      exact s_slcV hu h1 hs0 (.inl ⟨rfl, rfl⟩) (.inr ⟨kb, b, rfl, by simp [eb]⟩) (.inl ⟨rfl, rfl⟩) (fun h => absurd rfl h) r1 hW hR hk
     ·obtain ⟨X, Y, Z, rfl, r1, r2, r3⟩ := rel3 hall
      simp only [slcOp, Option.bind_eq_some_iff] at hR
      obtain ⟨b, hb, c, hc, hR⟩ := hR
      obtain ⟨kb, eb⟩ := natV_rel hb r2
      obtain ⟨kc, ec⟩ := natV_rel hc r3
      exact s_slcV hu h1 hs0 (.inl ⟨rfl, rfl⟩) (.inr ⟨kb, b, rfl, by simp [eb]⟩) (.inr ⟨kc, c, rfl, by simp [ec]⟩) (fun _ => Option.some_ne_none _) r1 hW hR hk
     ·obtain ⟨X, Y, rfl, r1, r2⟩ := rel2 hall
      simp only [slcOp, Option.bind_eq_some_iff] at hR
      obtain ⟨b, hb, hR⟩ := hR
      obtain ⟨kb, eb⟩ := natV_rel hb r2
      exact s_slcV hu h1 hs0 (.inr ⟨kb, by simp [eb]⟩) (.inl ⟨rfl, rfl⟩) (.inl ⟨rfl, rfl⟩) (fun h => absurd rfl h) r1 hW hR hk
     ·obtain ⟨X, Y, Z, rfl, r1, r2, r3⟩ := rel3 hall
      cases hR
     ·obtain ⟨X, Y, Z, rfl, r1, r2, r3⟩ := rel3 hall
      simp only [slcOp, Option.bind_eq_some_iff] at hR
      obtain ⟨b, hb, c, hc, hR⟩ := hR
      obtain ⟨kb, eb⟩ := natV_rel hb r2
      obtain ⟨kc, ec⟩ := natV_rel hc r3
      exact s_slcV hu h1 hs0 (.inr ⟨kb, by simp [eb]⟩) (.inr ⟨kc, c, rfl, by simp [ec]⟩) (.inl ⟨rfl, rfl⟩) (fun h => absurd rfl h) r1 hW hR hk
     ·obtain ⟨X, hall'⟩ : ∃ X Y Z U, vs = [X, Y, Z, U] ∧ RelV γ X _ ∧ RelV γ Y _ ∧ RelV γ Z _ ∧ RelV γ U _ := rel4 hall
      obtain ⟨Y, Z, U, rfl, r1, r2, r3, r4⟩ := hall'
      simp only [slcOp, Option.bind_eq_some_iff] at hR
      obtain ⟨b, hb, c, hc, d, hd, hR⟩ := hR
      obtain ⟨kb, eb⟩ := natV_rel hb r2
      obtain ⟨kc, ec⟩ := natV_rel hc r3
      obtain ⟨kd, ed⟩ := natV_rel hd r4
      exact s_slcV hu h1 hs0 (.inr ⟨kb, by simp [eb]⟩) (.inr ⟨kc, c, rfl, by simp [ec]⟩) (.inr ⟨kd, d, rfl, by simp [ed]⟩) (fun _ => Option.some_ne_none _) r1 hW hR hk
    ·cases hc
   ·cases hc
  ·cases hc
 ·
  rename_i t x y hop
  split at hc
  ·rename_i e hu
   split at hc
   ·rename_i s b z ys h1 h2 h3 h4
    split at hc
    ·rename_i hcond
     cases hc
     obtain ⟨X, Y, rfl, r1, r2⟩ := two h4 rfl
     exact OpOk.val (s_makesl hu h1 h2 hcond.2.1 h3 hcond.2.2.2 r1 r2 hW hs) (by simp [execOp, hop])
    ·cases hc
   ·cases hc
  ·cases hc
 ·
  rename_i t m kk hop
  split at hc
  ·rename_i kt e hu
   split at hc
   ·rename_i sh z ys h1 h2 h3
    cases hc
    obtain ⟨X, Y, rfl, r1, r2⟩ := two h3 rfl
    exact OpOk.val (s_ment hu h1 h2 r1 r2 hW hs) (by simp [execOp, hop])
   ·cases hc
  ·cases hc
 ·
  rename_i t m st x hop
  obtain ⟨ys, hy, e⟩ := some2 hc
  cases e
  obtain ⟨X, Y, Z, rfl, r1, r2, r3⟩ := three hy rfl
  exact OpOk.unit (s_mest (t := t) r1 r2 r3 hW hs) (by simp [execOp, hop])
 ·
  rename_i t x hop
  split at hc
  ·rename_i kt e hu
   obtain ⟨ys, hy, e⟩ := some2 hc
   cases e
   obtain ⟨X, rfl, r1⟩ := one hy rfl
   exact OpOk.val (s_range hu r1 hW hs) (by simp [execOp, hop])
  ·cases hc
 ·
  rename_i it hop
  obtain ⟨ys, hy, e⟩ := some2 hc
  cases e
  obtain ⟨X, rfl, r1⟩ := one hy rfl
  exact OpOk.val (s_next (ty := o.type) r1 hW hs) (by simp [execOp, hop])
 ·
  rename_i it hop
  obtain ⟨ys, hy, e⟩ := some2 hc
  cases e
  obtain ⟨X, rfl, r1⟩ := one hy rfl
  exact OpOk.val (s_entry r1 hW hs) (by simp [execOp, hop])
 ·
  rename_i t i hop
  obtain ⟨ys, hy, e⟩ := some2 hc
  cases e
  obtain ⟨X, rfl, r1⟩ := one hy rfl
  obtain ⟨R, hR, hk⟩ := tsem_sem hs rfl
  exact OpOk.val (s_ext r1 hW hR hk) (by simp [execOp, hop])
 ·
  rename_i args argTypes hop
  split at hc
  ·rename_i t ht
   have hat : argTypes = #[t] := by apply Array.ext'; simpa using ht
   subst hat
   have hex : execOp a.eval o = (do pure (.value (← Builtin.len_ #[t] o.type (args.map a.eval)))) := by simp [execOp, hop, resolve, invoke, builtin]
   have sh : ∀ {ys : List AX} {X : V}, compXs args.toList = some ys → ys = xs → vs = [X] → ∃ x, args.map a.eval = #[x] ∧ RelV γ X x := by
    rintro ys X h rfl rfl
    obtain ⟨x, l', h1, h2, h3⟩ := evs_sound hF hW h hv
    simp only [RelL] at h3
    subst h3
    exact ⟨x, by apply Array.ext'; simpa using h1, h2⟩
   split at hc
   ·rename_i m e ys hu h1
    cases hc
    match vs, hs with
    | [X], hs =>
     obtain ⟨x, hx, r1⟩ := sh h1 rfl rfl
     rw [hx] at hex
     exact OpOk.val (s_len_arr hu hW hs) hex
   ·rename_i ys hu h1
    cases hc
    match vs, hs with
    | [X], hs =>
     obtain ⟨x, hx, r1⟩ := sh h1 rfl rfl
     rw [hx] at hex
     exact OpOk.val (s_len0 hu r1 hW hs) hex
    | X :: Y :: r, hs => cases X <;> exact hs.elim
   ·rename_i e ys hu h1
    cases hc
    match vs, hs with
    | [X], hs =>
     obtain ⟨x, hx, r1⟩ := sh h1 rfl rfl
     rw [hx] at hex
     exact OpOk.val (s_len1 hu r1 hW hs) hex
    | X :: Y :: r, hs => cases X <;> exact hs.elim
   ·rename_i kt e ys hu h1
    cases hc
    match vs, hs with
    | [X], hs =>
     obtain ⟨x, hx, r1⟩ := sh h1 rfl rfl
     rw [hx] at hex
     exact OpOk.val (s_len2 hu r1 hW hs) hex
    | X :: Y :: r, hs => cases X <;> exact hs.elim
   ·cases hc
  ·cases hc
 ·
  rename_i args argTypes hop
  split at hc
  ·rename_i t u ht
   have hat : argTypes = #[t, u] := by apply Array.ext'; simpa using ht
   subst hat
   have hex : execOp a.eval o = (do pure (.value (← Builtin.append_ #[t, u] o.type (args.map a.eval)))) := by simp [execOp, hop, resolve, invoke, builtin]
   split at hc
   ·rename_i e e2 ys h1 h2 h3
    split at hc
    ·rename_i s b z g1 g2 g3
     split at hc
     ·rename_i hcond
      obtain ⟨pu, ex⟩ := pu
      cases hc
      have hs2 : ∃ X Y, vs = [X, Y] := by
       cases ex <;> (match vs, hs with | [X, Y], _ => exact ⟨X, Y, rfl⟩)
      obtain ⟨X, Y, rfl⟩ := hs2
      ·obtain ⟨x, l', q1, q2, q3⟩ := evs_sound hF hW h3 hv
       obtain ⟨y, l'', p1, p2, p3⟩ := q3
       simp only [RelL] at p3
       subst p3
       subst p1
       have hx : args.map a.eval = #[x, y] := by apply Array.ext'; simpa using q1
       rw [hx] at hex
       cases ex
       ·exact OpOk.val (s_append h1 h2 g1 hcond.1 g2 hcond.2.1 hcond.2.2.1 g3 hcond.2.2.2 q2 p2 hW hs) hex
       ·exact OpOk.val (s_appendx h1 h2 g1 hcond.1 g2 hcond.2.1 hcond.2.2.1 g3 hcond.2.2.2 q2 p2 hW hs) hex
     ·cases hc
    ·cases hc
   ·cases hc
  ·cases hc
 ·
  rename_i args argTypes hop
  split at hc
  ·obtain ⟨ys, hy, e⟩ := some2 hc
   cases e
   have hex : execOp a.eval o = (do pure (.value (← Builtin.max_ argTypes o.type (args.map a.eval)))) := by simp [execOp, hop, resolve, invoke, builtin]
   have h2 := evs_sound hF hW hy hv
   match vs, hs with
   | [.int k x, .int k' y], hs =>
    obtain ⟨rfl, hk⟩ := hs
    have ha : args.map a.eval = #[.int k x, .int k y] := by
     obtain ⟨u, l1, e1, r1, u', l2, e2, r2, e3⟩ := h2
     have r1 : u = .int k x := r1
     have r2 : u' = .int k y := r2
     have e3 : l2 = [] := e3
     rw [e2, e3, r1, r2] at e1
     apply Array.ext'; simpa using e1
    rw [ha] at hex
    exact OpOk.val ⟨_, w, by simp [Builtin.max_, Builtin.max2], Post.same' hk hW rfl⟩ hex
  ·cases hc
 ·
  rename_i args argTypes hop
  split at hc
  ·obtain ⟨ys, hy, e⟩ := some2 hc
   cases e
   have hex : execOp a.eval o = (do pure (.value (← Builtin.min_ argTypes o.type (args.map a.eval)))) := by simp [execOp, hop, resolve, invoke, builtin]
   have h2 := evs_sound hF hW hy hv
   match vs, hs with
   | [.int k x, .int k' y], hs =>
    obtain ⟨rfl, hk⟩ := hs
    have ha : args.map a.eval = #[.int k x, .int k y] := by
     obtain ⟨u, l1, e1, r1, u', l2, e2, r2, e3⟩ := h2
     have r1 : u = .int k x := r1
     have r2 : u' = .int k y := r2
     have e3 : l2 = [] := e3
     rw [e2, e3, r1, r2] at e1
     apply Array.ext'; simpa using e1
    rw [ha] at hex
    exact OpOk.val ⟨_, w, by simp [Builtin.min_, Builtin.min2], Post.same' hk hW rfl⟩ hex
  ·cases hc
 ·
  rename_i args hop
  obtain ⟨ys, hy, e⟩ := some2 hc
  cases e
  exact (hs : False).elim
 ·
  rename_i f args argTypes hop
  obtain ⟨ys, hy, e⟩ := some2 hc
  have hrel : ys = xs → RelL γ vs (args.toList.map a.eval) := fun e => by subst e; exact evs_sound hF hW hy hv
  have hex : execOp a.eval o = callFunc f (args.toList.map a.eval).toArray := by
   have : (args.toList.map a.eval).toArray = args.map a.eval := by apply Array.ext'; simp
   rw [this]
   simp [execOp, hop, resolve, invoke, Deferred.ofValue, Act.eval]
  cases hpu : (pu.pu || pu.pl.contains f)
  ·rw [hpu] at e
   cases e
   exact ACalls.enter hE hs hW (hrel rfl) hex
  ·rw [hpu] at e
   cases e
   exact ACalls.pure hE hs hW (hrel rfl) hex
 ·
  rename_i f args argTypes hnf hop
  obtain ⟨ys, hy, e⟩ := some2 hc
  have hrel : ys = xs → RelL γ vs (a.eval f :: args.toList.map a.eval) := fun e => by subst e; exact evs_sound hF hW hy hv
  have key : ys = xs → ∀ (first cap : List V) (fid : FuncId) rest, vs = .fn (.func fid) first cap :: rest → ∃ ws, RelL γ (first ++ rest ++ cap) ws ∧ execOp a.eval o = callFunc fid ws.toArray := by
   intro e first cap fid rest hvs
   have h := hrel e
   rw [hvs] at h
   obtain ⟨v, l', h1, ⟨fs, cs, h2, h3, h4⟩, h5⟩ := h
   obtain ⟨h6, h7⟩ := List.cons.inj h1
   subst h7
   refine ⟨fs ++ args.toList.map a.eval ++ cs, (h3.append h5).append h4, ?_⟩
   have hfv : a.eval f = .func (.func fid) fs.toArray cs.toArray := h6.trans h2
   have : (fs ++ args.toList.map a.eval ++ cs).toArray = fs.toArray ++ args.map a.eval ++ cs.toArray := by apply Array.ext'; simp
   rw [this]
   simp [execOp, hop, resolve, invoke, Deferred.ofValue, hfv]
  obtain ⟨pu, ex, pl⟩ := pu
  cases pu
  ·cases e
   match vs, hs with
   | .fn (.func fid) first cap :: rest, hs =>
    obtain ⟨ws, h1, h2⟩ := key rfl first cap fid rest rfl
    exact ACalls.enter hE hs hW h1 h2
   | .yld r :: rest, hs =>
    obtain ⟨v, l', h1, ⟨b, hb, h2⟩, h5⟩ := hrel rfl
    obtain ⟨h6, h7⟩ := List.cons.inj h1
    subst h7
    have hfv : a.eval f = .func (.yield b) #[] #[] := h6.trans h2
    obtain ⟨b', hb', fn, tmps, assign, body, g1, g2⟩ := hE γ w W r _ _ K hW (frz_rels hW h5) hs
    rw [hb] at hb'; cases hb'
    refine .inr (.inr (.inr ⟨b, fn, tmps, assign, body, ?_, g2.mono ?_⟩))
    ·rw [← g1]
     have he : (args.toList.map a.eval).toArray = args.map a.eval := by apply Array.ext'; simp
     rw [he]
     simp [execOp, hop, resolve, invoke, Deferred.ofValue, hfv]
    ·rintro e w' ⟨v, γ', X, W', rfl, q1, q2, q3, q4, q5⟩
     exact ⟨v, rfl, γ', X, W', q1, q2, q3, q4, q5⟩
  ·cases e
   match vs, hs with
   | .fn (.func fid) first cap :: rest, hs =>
    obtain ⟨ws, h1, h2⟩ := key rfl first cap fid rest rfl
    exact ACalls.pure hE hs hW h1 h2
 ·cases hc
end Go.AL
namespace Go.AL
open RowKit
variable {γ : G} {E : Env} {w : World} {W : AW} {h0 : Nat → Bool} {n : Nat} {a : Act} {A : AFr}
structure St (E : Env) (h0 : Nat → Bool) (n : Nat) (γ : G) (a : Act) (w : World) (A : AFr) (W : AW) : Prop where
 fr : RelF γ h0 n a A
 w : RelW E γ w W
def Lift (E : Env) (h0 : Nat → Bool) (n : Nat) (γ : G) (nx : Nat) (Q : Exit → AFr → AW → Prop) (e : Exit) (a' : Act) (w' : World) : Prop :=
 ∃ γ' A' W', G.le nx γ γ' ∧ nx ≤ W'.nx ∧ St E h0 n γ' a' w' A' W' ∧ Q e A' W'
theorem sem_mono {k : AK} {vs : List V} {K K' : V → AW → Prop} (h : ∀ v W', K v W' → K' v W') (hs : sem E k vs W K) : sem E k vs W K' := by
 have call : ∀ f us, ACalls E f us W K → ACalls E f us W K' := fun f us ⟨h1, h2⟩ => ⟨h1, fun hE γ w ws hW hr => (h2 hE γ w ws hW hr).mono fun e w' ⟨v, γ', X, W', g1, g2, g3, g4, g5, g6⟩ => ⟨v, γ', X, W', g1, g2, g3, g4, g5, h _ _ g6⟩⟩
 unfold sem at hs ⊢
 split at hs
 all_goals first
  | exact h _ _ hs
  | exact fun q => h _ _ (hs q)
  | exact call _ _ hs
  | exact E.yieldMono _ _ _ _ _ h hs
  | exact ⟨hs.1, h _ _ hs.2⟩
  | (obtain ⟨v, h1, h2⟩ := hs; exact ⟨v, h1, h _ _ h2⟩)
  | (split at hs <;> first | exact h _ _ hs | exact hs.elim)
  | skip
 ·
  split at hs
  ·exact ⟨hs.1, hs.2.1, hs.2.2.1, h _ _ hs.2.2.2⟩
  ·exact hs.elim
 ·
  split at hs
  ·exact ⟨hs.1, hs.2.1, hs.2.2.1, h _ _ hs.2.2.2⟩
  ·exact hs.elim
 ·
  exact ⟨hs.1, hs.2.1, hs.2.2.1, hs.2.2.2.1, h _ _ hs.2.2.2.2⟩
 ·
  split at hs
  ·obtain ⟨h1, h2⟩ := hs
   refine ⟨h1, ?_⟩
   split at h2 <;> exact h _ _ h2
  ·exact hs.elim
 ·
  split at hs
  ·obtain ⟨h1, h2⟩ := hs
   refine ⟨h1, ?_⟩
   split at h2
   ·exact h _ _ h2
   ·exact h2.elim
  ·exact hs.elim
 ·
  split at hs
  ·obtain ⟨h1, h2⟩ := hs
   refine ⟨h1, ?_⟩
   split at h2 <;> exact h _ _ h2
  ·exact hs.elim
 ·
  split at hs
  ·obtain ⟨h1, h2⟩ := hs
   refine ⟨h1, ?_⟩
   split at h2 <;> exact h _ _ h2
  ·exact hs.elim
 ·
  split at hs
  ·exact h _ _ hs
  ·split at hs
   ·exact ⟨hs.1, fun q => h _ _ (hs.2.1 q), fun e he q => h _ _ (hs.2.2 e he q)⟩
   ·exact hs.elim
  ·exact hs.elim
 ·
  split at hs
  ·split at hs
   ·obtain ⟨h1, h2⟩ := hs
    refine ⟨h1, ?_⟩
    split at h2
    ·exact h _ _ h2
    ·exact h2.elim
   ·exact hs.elim
  ·exact hs.elim
 ·
  obtain ⟨h0, hs⟩ := hs
  refine ⟨h0, ?_⟩
  split at hs
  ·exact hs.elim
  ·split at hs
   ·refine ⟨hs.1, ?_⟩
    have h2 := hs.2
    split
    ·rename_i hc; rw [if_pos hc] at h2; exact h _ _ h2
    ·rename_i hc; rw [if_neg hc] at h2; exact h _ _ h2
   ·refine ⟨hs.1, hs.2.1, ?_⟩
    have h2 := hs.2.2
    split
    ·rename_i hc; rw [if_pos hc] at h2; exact h _ _ h2
    ·rename_i hc; rw [if_neg hc] at h2; exact h _ _ h2
   ·refine ⟨hs.1, ?_⟩
    have h2 := hs.2
    split at h2
    ·exact ⟨h2.1, h2.2.1, h2.2.2.1, h2.2.2.2.1, h2.2.2.2.2.1, h _ _ h2.2.2.2.2.2⟩
    ·exact h2.elim
   ·exact hs.elim
 ·
  obtain ⟨h0, hs⟩ := hs
  refine ⟨h0, ?_⟩
  split at hs
  ·exact hs.elim
  ·split at hs
   ·refine ⟨hs.1, ?_⟩
    have h2 := hs.2
    split
    ·rename_i hc; rw [if_pos hc] at h2; exact h _ _ h2
    ·rename_i hc; rw [if_neg hc] at h2; exact h _ _ h2
   ·refine ⟨hs.1, ?_⟩
    have h2 := hs.2
    split
    ·rename_i hc; rw [if_pos hc] at h2; exact h _ _ h2
    ·rename_i hc; rw [if_neg hc] at h2; exact h _ _ h2
   ·refine ⟨hs.1, hs.2.1, ?_⟩
    have h2 := hs.2.2
    split
    ·rename_i hc; rw [if_pos hc] at h2; exact h _ _ h2
    ·rename_i hc; rw [if_neg hc] at h2; exact h _ _ h2
   ·refine ⟨hs.1, ?_⟩
    have h2 := hs.2
    split at h2
    ·refine ⟨h2.1, h2.2.1, h2.2.2.1, h2.2.2.2.1, ?_⟩
     have h3 := h2.2.2.2.2
     split
     ·rename_i hc; rw [if_pos hc] at h3; exact h _ _ h3
     ·rename_i hc; rw [if_neg hc] at h3; exact h _ _ h3
    ·exact h2.elim
   ·exact hs.elim
def gd (o : AOp) (A : AFr) : Option Bool :=
 match o.g with
 | none => some true
 | some (t, want) => match A t with
  | some (.bool c) => some (c == want)
  | some (.tuple []) => some false
  | _ => none
theorem exec1_iff (o : AOp) (K : AFr → AW → Prop) (A : AFr) (W : AW) : exec1 E o K A W ↔ (match gd o A with
  | some true => osem E o A W (putK o.dst A K)
  | some false => K (A.putd o.dst .undef) W
  | none => False) := by
 unfold exec1 gd
 cases o.g with
 | none => exact Iff.rfl
 | some p =>
  obtain ⟨t, want⟩ := p
  simp only []
  split
  ·rename_i c hA
   cases c <;> cases want <;> simp [hA]
  ·rename_i hA; simp [hA]
  ·rename_i h1 h2
   split
   ·rename_i hh
    split at hh
    ·rename_i c hc; exact absurd hc (h1 c)
    ·rename_i hc; exact absurd hc h2
    ·cases hh
   ·rename_i hh
    split at hh
    ·rename_i c hc; exact absurd hc (h1 c)
    ·rename_i hc; exact absurd hc h2
    ·cases hh
   ·exact Iff.rfl
theorem osem_mono {o : AOp} {K K' : V → AW → Prop} (h : ∀ v W', K v W' → K' v W') (hs : osem E o A W K) : osem E o A W K' := by
 unfold osem at hs ⊢
 split at hs
 ·exact sem_mono h hs
 ·exact hs.elim
theorem exec1_mono {o : AOp} {K K' : AFr → AW → Prop} (h : ∀ A' W', K A' W' → K' A' W') (hs : exec1 E o K A W) : exec1 E o K' A W := by
 rw [exec1_iff] at hs ⊢
 split at hs
 ·exact osem_mono (fun v W' hk => h _ _ hk) hs
 ·exact h _ _ hs
 ·exact hs.elim
theorem exec1_mono' {o : AOp} {K K' : AFr → AW → Prop} (h : ∀ u W', K (A.putd o.dst u) W' → K' (A.putd o.dst u) W') (hs : exec1 E o K A W) : exec1 E o K' A W := by
 rw [exec1_iff] at hs ⊢
 split at hs
 ·exact osem_mono (fun v W' hk => h _ _ hk) hs
 ·exact h _ _ hs
 ·exact hs.elim
theorem execL_mono {K K' : AFr → AW → Prop} (h : ∀ A' W', K A' W' → K' A' W') : ∀ {l : List AOp} {A : AFr} {W : AW}, execL E l K A W → execL E l K' A W
 | [], _, _, hs => h _ _ hs
 | _ :: _, _, _, hs => exec1_mono (fun _ _ hk => execL_mono h hk) hs
structure Img (P : Program) (n : Nat) (ops : Array Oper) (pu : PM) (o : Oper) (x : AOp) : Prop where
 op : compOp P o pu = some (x.k, x.xs)
 dst : x.dst = o.dst
 g : compG ops o.guard = some x.g
 lt : (x.dst.all fun d => decide (d < n)) = true
theorem guard_rel {ops : Array Oper} {pu : PM} {o : Oper} {x : AOp} (hi : Img E.P n ops pu o x) (hF : RelF γ h0 n a A) {b : Bool} (hb : gd x A = some b) : Region.wanted o (yielded ops a.tmps) = b := by
 have hg := hi.g
 unfold gd at hb
 unfold Region.wanted
 cases ho : o.guard with
 | none =>
  rw [ho] at hg
  simp only [compG, Option.some.injEq] at hg
  rw [← hg] at hb
  simpa using hb
 | some p =>
  obtain ⟨j, want⟩ := p
  rw [ho] at hg
  simp only [compG, Option.map_eq_some_iff] at hg
  obtain ⟨t, ht, hx⟩ := hg
  rw [← hx] at hb
  simp only [] at hb ⊢
  unfold yielded
  rw [ht]
  simp only [Option.bind_some]
  split at hb
  ·rename_i c hA
   obtain ⟨y, h1, h2⟩ := hF.slot t _ hA
   cases h2
   simp only [h1]
   cases hb
   rfl
  ·rename_i hA
   obtain ⟨y, h1, h2⟩ := hF.slot t _ hA
   obtain ⟨ws, rfl, h3⟩ := h2
   simp only [RelL] at h3
   subst h3
   simp only [h1]
   cases hb
   rfl
  ·cases hb
theorem exec1_sound (hE : E.Sound) {ρ : Option Nat} {ops : Array Oper} {pu : PM} {o : Oper} {x : AOp} {K : AFr → AW → Prop} {Q : Exit → Act → World → Prop} {next : Act → World → Prop} (hi : Img E.P n ops pu o x) (h : exec1 E x K A W) (hS : St E h0 n γ a w A W)
  (hn : ∀ γ' a' w' A' W', G.le W.nx γ γ' → W.nx ≤ W'.nx → St E h0 n γ' a' w' A' W' → K A' W' → next a' w') :
  if Region.wanted o (yielded ops a.tmps) then o.wpIn (Fr ρ) 0 E.P a w next Q else next (a.put o.dst undef) w := by
 rw [exec1_iff] at h
 split at h
 ·rename_i hg
  rw [guard_rel hi hS.fr hg, if_pos rfl]
  unfold osem at h
  split at h
  ·rename_i vs hvs
   refine (op_sound hE hi.op hvs h hS.fr hS.w).wp (comp_nodefer hi.op) ?_
   rintro v w' ⟨γ', X, W', g1, g2, g3, g4, g5⟩
   refine hn γ' _ w' _ W' g1 g2 ⟨?_, g3⟩ g5
   rw [← hi.dst]
   exact (hS.fr.mono hS.w.bd g1).put hi.lt g4
  ·exact h.elim
 ·rename_i hg
  rw [guard_rel hi hS.fr hg, if_neg (by simp)]
  refine hn γ _ w _ W (G.le.refl _ _) (lr _) ⟨?_, hS.w⟩ h
  rw [← hi.dst]
  exact hS.fr.put hi.lt ⟨[], rfl, rfl⟩
 ·exact h.elim
end Go.AL
namespace Go.AL
open RowKit
variable {γ : G} {E : Env} {w : World} {W : AW} {n : Nat} {a : Act} {A : AFr}
def detO (E : Env) (o : AOp) (A : AFr) (W : AW) (v : V) : Prop :=
 (gd o A = some true ∧ ∃ vs, evs E A o.xs = some vs ∧ sem E o.k vs W (fun X W' => X = v ∧ W' = W)) ∨ (gd o A = some false ∧ v = .undef)
theorem detO.exec {o : AOp} {v : V} {K : AFr → AW → Prop} (h : detO E o A W v) (hk : K (A.putd o.dst v) W) : exec1 E o K A W := by
 rw [exec1_iff]
 rcases h with ⟨h1, vs, h2, h3⟩ | ⟨h1, rfl⟩
 ·rw [h1]
  unfold osem
  rw [h2]
  exact sem_mono (fun X W' ⟨e1, e2⟩ => by subst e1; subst e2; exact hk) h3
 ·rw [h1]; exact hk
theorem sem_of_t {k : AK} {vs : List V} {Y : V} {K : V → AW → Prop} (ht : isT k = true) (h : tsem k vs = some Y) (hk : K Y W) : sem E k vs W K := by
 cases k <;> simp [isT] at ht
 all_goals (simp only [sem, rsem]; rw [h]; exact hk)
theorem sem_of_r {k : AK} {vs : List V} {Y : V} {K : V → AW → Prop} (hr : (match k with | .load .. | .idxp _ => true | _ => false) = true) (h : rsem k vs W = some Y) (hk : K Y W) : sem E k vs W K := by
 cases k <;> simp at hr
 all_goals (simp only [sem]; rw [h]; exact hk)
theorem len_four {n m : Nat} {X : V} {K : V → AW → Prop} (h : sem E (.len (n + 4) m) [X] W K) : False := by
 match n, h with
 | 0, h => cases X <;> exact h.elim
 | 1, h => cases X <;> exact h.elim
 | n + 2, h => cases X <;> exact h.elim
theorem len_two {cat m : Nat} {X Y : V} {r : List V} {K : V → AW → Prop} (h : sem E (.len cat m) (X :: Y :: r) W K) : (cat = 4 ∨ cat = 5) ∧ ∃ k a b, X = .int k a ∧ Y = .int k b ∧ r = [] := by
 by_cases h4 : cat = 4
 ·subst h4
  cases X <;> first | (exact h.elim) | skip
  cases Y <;> first | (exact h.elim) | skip
  cases r <;> first | (exact h.elim) | skip
  obtain ⟨rfl, _⟩ := h
  exact ⟨.inl rfl, _, _, _, rfl, rfl, rfl⟩
 ·by_cases h5 : cat = 5
  ·subst h5
   cases X <;> first | (exact h.elim) | skip
   cases Y <;> first | (exact h.elim) | skip
   cases r <;> first | (exact h.elim) | skip
   obtain ⟨rfl, _⟩ := h
   exact ⟨.inr rfl, _, _, _, rfl, rfl, rfl⟩
  ·exfalso
   match cat, h4, h5, h with
   | 0, _, _, h => cases X <;> exact h.elim
   | 1, _, _, h => cases X <;> exact h.elim
   | 2, _, _, h => cases X <;> exact h.elim
   | 3, _, _, h => cases X <;> exact h.elim
   | n + 6, _, _, h => cases X <;> exact h.elim
theorem sem_det {k : AK} {vs : List V} {K : V → AW → Prop} (hr : isR k = true) (h : sem E k vs W K)
  : ∃ v, sem E k vs W (fun X W' => X = v ∧ W' = W) ∧ K v W := by
 by_cases ht : isT k = true
 ·obtain ⟨Y, hY, hk⟩ := tsem_sem h ht
  exact ⟨Y, sem_of_t ht hY ⟨rfl, rfl⟩, hk⟩
 ·cases k <;> simp [isR, isT] at hr ht
  case load g s =>
   obtain ⟨Y, hY, hk⟩ := rsem_sem h rfl
   exact ⟨Y, sem_of_r rfl hY ⟨rfl, rfl⟩, hk⟩
  case idxp s =>
   obtain ⟨Y, hY, hk⟩ := rsem_sem h rfl
   exact ⟨Y, sem_of_r rfl hY ⟨rfl, rfl⟩, hk⟩
  case pcall f => obtain ⟨v, h1, h2⟩ := h; exact ⟨v, ⟨v, h1, rfl, rfl⟩, h2⟩
  case pcallv =>
   match vs, h with
   | .fn (.func fid) first cap :: rest, h => obtain ⟨v, h1, h2⟩ := h; exact ⟨v, ⟨v, h1, rfl, rfl⟩, h2⟩
  case lookup sh z ok =>
   match vs, h with
   | [.nilmap, key], h => exact ⟨_, ⟨h.1, rfl, rfl⟩, h.2⟩
   | [.map r, key], h =>
    cases hobj : W.get r with
    | none => simp only [sem, hobj] at h
    | some o =>
     cases o <;> simp only [sem, hobj] at h
     rename_i es clock
     obtain ⟨h1, h2⟩ := h
     cases hf : findK key es with
     | none => rw [hf] at h2; exact ⟨_, by simp only [sem, hobj, hf]; exact ⟨h1, by simp⟩, h2⟩
     | some e => rw [hf] at h2; exact ⟨_, by simp only [sem, hobj, hf]; exact ⟨h1, by simp⟩, h2⟩
  case len cat m =>
   have fin : ∀ v, (∀ K' : V → AW → Prop, sem E (.len cat m) vs W K' ↔ K' v W) → ∃ v, sem E (.len cat m) vs W (fun X W' => X = v ∧ W' = W) ∧ K v W := fun v hv => ⟨v, (hv _).2 ⟨rfl, rfl⟩, (hv _).1 h⟩
   rcases vs with _ | ⟨X, _ | ⟨Y, r⟩⟩
   ·simp [sem, rsem, tsem] at h
   ·match cat, X, h, fin with
    | 0, .str s, h, fin => exact fin _ (fun _ => Iff.rfl)
    | 1, .nilsl, h, fin => exact fin _ (fun _ => Iff.rfl)
    | 1, .sl _ _ xs, h, fin => exact fin _ (fun _ => Iff.rfl)
    | 1, .buf _ _ _ q, h, fin => exact fin _ (fun _ => Iff.rfl)
    | 1, .slr _ _ q _, h, fin => exact fin _ (fun _ => Iff.rfl)
    | 1, .slz, h, fin => exact fin _ (fun _ => Iff.rfl)
    | 2, .nilmap, h, fin => exact fin _ (fun _ => Iff.rfl)
    | 2, .map r, h, fin =>
     cases hobj : W.get r with
     | none => simp only [sem, hobj] at h
     | some o =>
      cases o <;> simp only [sem, hobj] at h
      rename_i es clock
      exact fin (.int .i64 es.length) (fun _ => by simp only [sem, hobj])
    | 3, X, h, fin => exact fin _ (fun _ => by cases X <;> exact Iff.rfl)
    | n + 4, X, h, _ => exact (len_four h).elim
   ·obtain ⟨hc, k, a, b, rfl, rfl, rfl⟩ := len_two h
    rcases hc with rfl | rfl
    ·exact ⟨_, ⟨h.1, rfl, rfl⟩, h.2⟩
    ·exact ⟨_, ⟨h.1, rfl, rfl⟩, h.2⟩
theorem exec1_det {x : AOp} {K : AFr → AW → Prop} (hr : isR x.k = true) (h : exec1 E x K A W) :
  ∃ v, detO E x A W v ∧ K (A.putd x.dst v) W := by
 rw [exec1_iff] at h
 split at h
 ·rename_i hg
  unfold osem at h
  split at h
  ·rename_i vs hvs
   obtain ⟨v, h1, h2⟩ := sem_det hr h
   exact ⟨v, .inl ⟨hg, vs, hvs, h1⟩, h2⟩
  ·exact h.elim
 ·rename_i hg; exact ⟨.undef, .inr ⟨hg, rfl⟩, h⟩
 ·exact h.elim
theorem exec1_detT {x : AOp} {K : AFr → AW → Prop} (ht : isT x.k = true) (h : exec1 E x K A W) : ∃ v, (∀ W', detO E x A W' v) ∧ K (A.putd x.dst v) W := by
 rw [exec1_iff] at h
 split at h
 ·rename_i hg
  unfold osem at h
  split at h
  ·rename_i vs hvs
   obtain ⟨Y, hY, hk⟩ := tsem_sem h ht
   exact ⟨Y, fun W' => .inl ⟨hg, vs, hvs, sem_of_t ht hY ⟨rfl, rfl⟩⟩, hk⟩
  ·exact h.elim
 ·rename_i hg; exact ⟨.undef, fun _ => .inr ⟨hg, rfl⟩, h⟩
 ·exact h.elim
theorem evs_put {d : Option Nat} {v : V} : ∀ {xs : List AX}, (∀ t, d = some t → AX.t t ∉ xs) → evs E (A.putd d v) xs = evs E A xs
 | [], _ => rfl
 | x :: xs, h => by
  have ih := evs_put (d := d) (v := v) (xs := xs) (fun t ht hm => h t ht (List.mem_cons_of_mem _ hm))
  have hx : x.ev E (A.putd d v) = x.ev E A := by
   cases x with
   | t m =>
    cases d with
    | none => rfl
    | some d =>
     have : m ≠ d := fun e => h d rfl (by rw [e]; simp)
     simp [AX.ev, AFr.putd, AFr.put, this]
   | c => rfl
   | f => rfl
   | g => rfl
  simp only [evs, hx, ih]
theorem not_use {x : AOp} {d : Nat} (h : (usesA x).contains d = false) : AX.t d ∉ x.xs ∧ (∀ t b, x.g = some (t, b) → t ≠ d) := by
 rw [← Bool.not_eq_true, List.contains_iff_mem] at h
 simp only [usesA, map', not_or] at h
 refine ⟨fun hm => h.1 (List.mem_filterMap.2 ⟨_, hm, rfl⟩), fun t b hg e => h.2 ?_⟩
 rw [hg]
 simp [e]
theorem gd_put {x : AOp} {d : Option Nat} {v : V} (h : ∀ t, d = some t → (usesA x).contains t = false) : gd x (A.putd d v) = gd x A := by
 unfold gd
 cases hg : x.g with
 | none => rfl
 | some p =>
  obtain ⟨t, b⟩ := p
  cases d with
  | none => rfl
  | some d =>
   have : t ≠ d := (not_use (h d rfl)).2 t b hg
   simp [AFr.putd, AFr.put, this]
theorem evs_put' {x : AOp} {d : Option Nat} {v : V} (h : ∀ t, d = some t → (usesA x).contains t = false) : evs E (A.putd d v) x.xs = evs E A x.xs :=
 evs_put (fun t ht => (not_use (h t ht)).1)
theorem detO_put {x : AOp} {d : Option Nat} {v u : V} (h : ∀ t, d = some t → (usesA x).contains t = false) : detO E x (A.putd d v) W u ↔ detO E x A W u := by
 unfold detO
 rw [gd_put h, evs_put' h]
theorem putd_comm {d e : Option Nat} {v u : V} (h : ∀ t, d = some t → e ≠ some t) : (A.putd d v).putd e u = (A.putd e u).putd d v := by
 cases d with
 | none => rfl
 | some d =>
  cases e with
  | none => rfl
  | some e =>
   have hde : d ≠ e := fun q => h d rfl (by rw [q])
   funext i
   simp only [AFr.putd, AFr.put]
   by_cases h1 : i = e
   ·subst h1; simp [Ne.symm hde]
   ·by_cases h2 : i = d
    ·subst h2; simp [h1]
    ·simp [h1, h2]
theorem exec1_put {x : AOp} {d : Option Nat} {v : V} {K : AFr → AW → Prop} (h : ∀ t, d = some t → (usesA x).contains t = false) (hd : ∀ t, d = some t → x.dst ≠ some t) :
  exec1 E x K (A.putd d v) W ↔ exec1 E x (fun A' W' => K (A'.putd d v) W') A W := by
 rw [exec1_iff, exec1_iff, gd_put h]
 have hosem : osem E x (A.putd d v) W (putK x.dst (A.putd d v) K) ↔ osem E x A W (putK x.dst A (fun A' W' => K (A'.putd d v) W')) := by
  unfold osem
  rw [evs_put' h]
  have : putK x.dst (A.putd d v) K = putK x.dst A (fun A' W' => K (A'.putd d v) W') := by
   funext u W'
   simp only [putK]
   rw [putd_comm hd]
  rw [this]
 split
 ·exact hosem
 ·rw [putd_comm hd]
 ·exact Iff.rfl
theorem indep_spec {y x : AOp} (h : indepA y x = true) : swaps y.k x.k = true ∧ (∀ t, y.dst = some t → (usesA x).contains t = false) ∧ (∀ t, y.dst = some t → x.dst ≠ some t) ∧ (∀ t, x.dst = some t → (usesA y).contains t = false) := by
 unfold indepA at h
 simp only [Bool.and_eq_true] at h
 obtain ⟨⟨h1, h2⟩, h3⟩ := h
 refine ⟨h1, fun t ht => ?_, fun t ht => ?_, fun t ht => ?_⟩
 ·rw [ht] at h2; simp only [Bool.and_eq_true, Bool.not_eq_true'] at h2; exact h2.1
 ·rw [ht] at h2; simp only [Bool.and_eq_true, bne_iff_ne] at h2; exact h2.2
 ·rw [ht] at h3; simpa using h3
theorem swap {y x : AOp} {K : AFr → AW → Prop} (hi : indepA y x = true) (h : exec1 E y (exec1 E x K) A W) : exec1 E x (exec1 E y K) A W := by
 obtain ⟨hsw, u1, u2, u3⟩ := indep_spec hi
 have u4 : ∀ t, x.dst = some t → y.dst ≠ some t := fun t ht hy' => u2 t hy' ht
 by_cases hyT : isT y.k = true
 ·obtain ⟨v, hd, hk⟩ := exec1_detT hyT h
  rw [exec1_put u1 u2] at hk
  exact exec1_mono' (fun u W' hk' => ((detO_put u3).2 (hd W')).exec hk') hk
 ·have hRR : isR y.k = true ∧ isR x.k = true := by
   simp only [swaps, Bool.or_eq_true, Bool.and_eq_true] at hsw
   rcases hsw with h1 | h1
   ·exact absurd h1 hyT
   ·exact h1
  obtain ⟨vy, hdy, hk⟩ := exec1_det hRR.1 h
  obtain ⟨vx, hdx, hkx⟩ := exec1_det hRR.2 hk
  refine ((detO_put u1).1 hdx).exec (((detO_put u3).2 hdy).exec ?_)
  rw [putd_comm u4]
  exact hkx
end Go.AL
namespace Go.AL
open RowKit
variable {γ : G} {E : Env} {w : World} {W : AW} {h0 : Nat → Bool} {n : Nat} {a : Act} {A : AFr}
theorem compOps_spec {P : Program} {ops : Array Oper} {pu : PM} : ∀ {l : List Oper} {al : List AOp}, compOps P n ops pu l = some al → al.length = l.length ∧ ∀ (i : Nat) (o : Oper) (x : AOp), l[i]? = some o → al[i]? = some x → Img P n ops pu o x
 | [], al, h => by simp only [compOps, Option.some.injEq] at h; subst h; exact ⟨rfl, fun i o x h => by simp at h⟩
 | o :: os, al, h => by
  unfold compOps at h
  split at h
  ·rename_i k xs g r h1 h2 h3
   split at h
   ·rename_i hlt
    cases h
    obtain ⟨ih1, ih2⟩ := compOps_spec h3
    refine ⟨by simp [ih1], fun i o' x' ho hx => ?_⟩
    cases i with
    | zero => simp at ho hx; subst ho; subst hx; exact ⟨h1, rfl, h2, hlt⟩
    | succ i => simp at ho hx; exact ih2 i o' x' ho hx
   ·cases h
  ·cases h
theorem list_sound (hE : E.Sound) {ρ : Option Nat} {ops : Array Oper} {pu : PM} {Q : Exit → Act → World → Prop} {Kf : AFr → AW → Prop} : ∀ {l : List Oper} (k : Nat) {al : List AOp} {γ : G} {a : Act} {w : World} {A : AFr} {W : AW}, (∀ i o, l[i]? = some o → ops[k + i]? = some o) → compOps E.P n ops pu l = some al → execL E al Kf A W → St E h0 n γ a w A W →
  (∀ γ' a' w' A' W', G.le W.nx γ γ' → W.nx ≤ W'.nx → St E h0 n γ' a' w' A' W' → Kf A' W' → Q .normal a' w') → wpOpsIn (Fr ρ) 0 E.P ops Q (List.range' k l.length) a w
 | [], k, al, γ, a, w, A, W, _, hc, h, hS, hn => by
  simp only [compOps, Option.some.injEq] at hc
  subst hc
  exact hn γ a w A W (G.le.refl _ _) (lr _) hS h
 | o :: os, k, al, γ, a, w, A, W, hix, hc, h, hS, hn => by
  obtain ⟨hlen, hspec⟩ := compOps_spec hc
  unfold compOps at hc
  split at hc
  ·rename_i kk xs g r h1 h2 h3
   split at hc
   ·rename_i hlt
    cases hc
    have hi : Img E.P n ops pu o ⟨o.dst, kk, xs, g⟩ := hspec 0 _ _ rfl rfl
    have := exec1_sound hE (ρ := ρ) (Q := Q) (next := wpOpsIn (Fr ρ) 0 E.P ops Q (List.range' (k + 1) os.length)) hi h hS (fun γ' a' w' A' W' g1 g2 g3 g4 => list_sound hE (k + 1) (fun i o' ho' => by
     have := hix (i + 1) o' (by simpa using ho')
     rw [show k + 1 + i = k + (i + 1) by omega]; exact this) h3 g4 g3 (fun γ'' a'' w'' A'' W'' q1 q2 q3 q4 => hn γ'' a'' w'' A'' W'' (g1.trans q1 g2) (Nat.le_trans g2 q2) q3 q4))
    have hok : ops[k]? = some o := by simpa using hix 0 o rfl
    show wpOpsIn (Fr ρ) 0 E.P ops Q (List.range' k (os.length + 1)) a w
    rw [List.range'_succ, wpOpsIn_cons]
    unfold wpOpIn
    rw [hok]
    simp only []
    split
    ·rename_i hw; rw [if_pos hw] at this; exact this
    ·rename_i hw; rw [if_neg hw] at this; exact ⟨fun _ _ => trivial, this⟩
   ·cases hc
  ·cases hc
theorem aT_first {ops : Array Oper} {al : List AOp} {rem : List Nat} {z : Nat} : ∀ {t : PT}, okS ops al rem t = true → sameT al t = t → z ∈ firsts t →
  ∃ t', okS ops al (rem.filter (· != z)) t' = true ∧ coverOk ops al (rem.filter (· != z)) t' = true ∧ sameT al t' = t' ∧ ∀ (K : AFr → AW → Prop) A W, aT E t K A W → exec1 E (al.getD z default) (aT E t' K) A W
 | .done, _, _, hz => by simp [firsts] at hz
 | .step i x t, h, hs, hz => by
  simp only [firsts, msg] at hz
  subst hz
  simp only [okS, Bool.and_eq_true] at h
  simp only [sameT, PT.step.injEq, true_and] at hs
  refine ⟨t, h.1.1.2, h.1.2, hs.2, fun K A W hk => ?_⟩
  rw [hs.1]
  exact hk
 | .alt a b, h, hs, hz => by
  simp only [okS, Bool.and_eq_true] at h
  simp only [sameT, PT.alt.injEq] at hs
  simp only [firsts, map'] at hz
  rcases hz with hz | hz
  ·obtain ⟨t', h1, h2, h3, h4⟩ := aT_first h.1 hs.1 hz
   exact ⟨t', h1, h2, h3, fun K A W hk => h4 K A W hk.1⟩
  ·obtain ⟨t', h1, h2, h3, h4⟩ := aT_first h.2 hs.2 hz
   exact ⟨t', h1, h2, h3, fun K A W hk => h4 K A W hk.2⟩
theorem mem_filter_ne {rem : List Nat} {i j : Nat} : j ∈ rem.filter (· != i) ↔ j ∈ rem ∧ j ≠ i := by simp [mfl]
theorem ready_filter {ops : Array Oper} {rem : List Nat} {z i : Nat} (h : readyR ops rem z = true) : readyR ops (rem.filter (· != i)) z = true := by
 simp only [readyR, List.all_eq_true, Bool.not_eq_true', ← Bool.not_eq_true, List.contains_iff_mem] at h ⊢
 intro d hd hm
 exact h d hd (mem_filter_ne.1 hm).1
theorem aT_derive {ops : Array Oper} {al : List AOp} : ∀ {t : PT} {rem : List Nat} {z : Nat}, okS ops al rem t = true → coverOk ops al rem t = true → sameT al t = t → z ∈ rem → readyR ops rem z = true → (∀ i ∈ rem, i ∉ ancB ops ops.size z) →
  ∃ t', okS ops al (rem.filter (· != z)) t' = true ∧ coverOk ops al (rem.filter (· != z)) t' = true ∧ sameT al t' = t' ∧ ∀ (K : AFr → AW → Prop) A W, aT E t K A W → exec1 E (al.getD z default) (aT E t' K) A W := by
 intro t
 induction t with
 | done => intro rem z h _ _ hz _ _; simp [okS] at h; subst h; simp at hz
 | alt a b _ _ =>
  intro rem z h hc hs hz hr _
  simp only [coverOk, loneOk, Bool.or_false, List.all_eq_true, Bool.or_eq_true, Bool.not_eq_true', List.contains_iff_mem] at hc
  rcases hc z hz with h1 | h1
  ·rw [hr] at h1; cases h1
  ·exact aT_first h hs h1
 | step i x t ih =>
  intro rem z h hc hs hz hr hanc
  by_cases hzi : z = i
  ·subst hzi; exact aT_first h hs (by simp [firsts])
  ·have hc' := hc
   simp only [coverOk, Bool.or_eq_true] at hc
   rcases hc with h1 | h1
   ·simp only [List.all_eq_true, Bool.or_eq_true, Bool.not_eq_true', List.contains_iff_mem, firsts, msg] at h1
    rcases h1 z hz with h2 | h2
    ·rw [hr] at h2; cases h2
    ·exact absurd h2 hzi
   ·have hlone := h1
    simp only [loneOk, List.all_eq_true, Bool.or_eq_true, beq_iff_eq, List.contains_iff_mem] at h1
    simp only [okS, Bool.and_eq_true, List.contains_iff_mem, decide_eq_true_eq] at h
    obtain ⟨⟨⟨q1, q2⟩, q3⟩, q4⟩ := h
    simp only [sameT, PT.step.injEq, true_and] at hs
    obtain ⟨t', g1, g2, g3, g4⟩ := ih (z := z) q2 q3 hs.2 (mem_filter_ne.2 ⟨hz, hzi⟩) (ready_filter hr) (fun j hj => hanc j (mem_filter_ne.1 hj).1)
    have hind : indepA x (al.getD z default) = true := by
     rcases h1 z hz with (h2 | h2) | h2
     ·exact absurd h2 hzi
     ·exact absurd h2 (hanc i q1)
     ·exact h2
    have hcomm : (rem.filter (· != i)).filter (· != z) = (rem.filter (· != z)).filter (· != i) := by
     rw [List.filter_filter, List.filter_filter]
     congr 1
     funext y
     rw [Bool.and_comm]
    rw [hcomm] at g1 g2
    refine ⟨.step i x t', ?_, ?_, by simp only [sameT, hs.1, g3], fun K A W hk => ?_⟩
    ·simp only [okS, Bool.and_eq_true, List.contains_iff_mem, decide_eq_true_eq]
     exact ⟨⟨⟨mem_filter_ne.2 ⟨q1, Ne.symm hzi⟩, g1⟩, g2⟩, q4⟩
    ·simp only [coverOk, Bool.or_eq_true]
     right
     simp only [loneOk, List.all_eq_true, Bool.or_eq_true, beq_iff_eq, List.contains_iff_mem]
     exact fun y hy => h1 y (mem_filter_ne.1 hy).1
    ·exact swap hind (exec1_mono (fun A' W' hk' => g4 K A' W' hk') hk)
theorem anc_listed {ops : Array Oper} {listed : Array Bool} (hcl : ∀ i, listed.getD i false = true → ∀ d ∈ depsB ops i, listed.getD d false = true) (f i : Nat) (h : ∀ d ∈ depsB ops i, listed.getD d false = true) : ∀ j ∈ ancB ops f i, listed.getD j false = true := by
 have key : ∀ (f : Nat) (acc : List Nat), (∀ d ∈ acc, listed.getD d false = true) → ∀ j ∈ ancGo ops f acc, listed.getD j false = true := by
  intro f
  induction f with
  | zero => intro acc h j hj; exact h j hj
  | succ f ih =>
   intro acc h
   refine ih _ fun d hd => ?_
   cases hb : acc.any (Nat.beq f)
   ·rw [hb] at hd; exact h d hd
   ·rw [hb] at hd
    rcases List.mem_append.1 hd with hd | hd
    ·rw [aet] at hb
     obtain ⟨x, hx, he⟩ := hb
     have := Nat.eq_of_beq_eq_true he
     subst this
     exact hcl f (h f hx) d (List.mem_filter.1 hd).1
    ·exact h d hd
 exact key f _ h
theorem draw_any (hE : E.Sound) {ρ : Option Nat} {ops : Array Oper} {pu : PM} {al : List AOp} {Q : Exit → Act → World → Prop} {Kf : AFr → AW → Prop} (hc : compOps E.P n ops pu ops.toList = some al) :
  ∀ (fuel : Nat) (rem : List Nat) (t : PT) (listed : Array Bool) {γ : G} {a : Act} {w : World} {A : AFr} {W : AW}, listed.size = ops.size → rem.length ≤ fuel → rem.Nodup →
  (∀ i, i ∈ rem ↔ i < ops.size ∧ listed.getD i true = false) → okS ops al rem t = true → coverOk ops al rem t = true → sameT al t = t →
  (∀ i, listed.getD i false = true → ∀ d ∈ depsB ops i, listed.getD d false = true) → (∀ i, i < ops.size → ∀ d ∈ depsB ops i, d < i) →
  aT E t Kf A W → St E h0 n γ a w A W →
  (∀ γ' a' w' A' W', G.le W.nx γ γ' → W.nx ≤ W'.nx → St E h0 n γ' a' w' A' W' → Kf A' W' → Q .normal a' w') → wpAnyIn (Fr ρ) 0 E.P .any ops Q fuel listed a w := by
 have deps : ∀ (i : Nat) (o : Oper), ops[i]? = some o → ∀ (l : Array Bool), (∀ d ∈ depsB ops i, l.getD d false = true) ↔ ∀ e ∈ o.after, Region.binds .any e = true → l.getD e.on false = true := by
  intro i o ho l
  simp only [depsB, ho, mmp, mfl, Array.mem_toList_iff]
  constructor
  ·intro h e he hb; exact h e.on ⟨e, ⟨he, hb⟩, rfl⟩
  ·rintro h d ⟨e, ⟨he, hb⟩, rfl⟩; exact h e he hb
 have both : ∀ (l : Array Bool) (i : Nat), i < l.size → (l.getD i true = true ↔ l.getD i false = true) := fun l i hi => by simp [Array.getD_eq_getD_getElem?, hi]
 intro fuel
 induction fuel with
 | zero =>
  intro rem t listed γ a w A W hsz hlen hnd h1 h2 h3 h4 h5 h6 h hS hn
  have hrem : rem = [] := List.length_eq_zero_iff.1 (by omega)
  subst hrem
  have hdone : ∀ (t : PT), okS ops al [] t = true → aT E t Kf A W → Kf A W := by
   intro t
   induction t with
   | done => exact fun _ h => h
   | step i x t _ => intro h; simp [okS] at h
   | alt a b iha _ => intro h hk; simp only [okS, Bool.and_eq_true] at h; exact iha h.1 hk.1
  refine ⟨List.eq_nil_iff_forall_not_mem.2 fun i hi => ?_, hn γ a w A W (G.le.refl _ _) (lr _) hS (hdone t h2 h)⟩
  rw [mem_ready] at hi
  obtain ⟨hf, o, ho, _⟩ := hi
  have := (h1 i).2 ⟨(Array.getElem?_eq_some_iff.1 ho).1, hf⟩
  simp at this
 | succ fuel ih =>
  intro rem t listed γ a w A W hsz hlen hnd h1 h2 h3 h4 h5 h6 h hS hn
  refine ⟨fun hr => ?_, fun i hi => ?_⟩
  ·
   have hrem : rem = [] := by
    rw [List.eq_nil_iff_forall_not_mem]
    intro i
    induction i using Nat.strongRecOn with
    | _ i ihi =>
     intro hi
     obtain ⟨hlt, hf⟩ := (h1 i).1 hi
     have ho : ops[i]? = some ops[i] := Array.getElem?_eq_getElem hlt
     have : i ∈ Region.ready .any ops listed := by
      rw [mem_ready]
      refine ⟨hf, _, ho, (deps i _ ho listed).1 fun d hd => ?_⟩
      have hdi := h6 i hlt d hd
      rw [← both listed d (by omega)]
      cases hd' : listed.getD d true with
      | true => rfl
      | false => exact absurd ((h1 d).2 ⟨by omega, hd'⟩) (ihi d hdi)
     rw [hr] at this
     simp at this
   subst hrem
   have hdone : ∀ (t : PT), okS ops al [] t = true → aT E t Kf A W → Kf A W := by
    intro t
    induction t with
    | done => exact fun _ h => h
    | step i x t _ => intro h; simp [okS] at h
    | alt a b iha _ => intro h hk; simp only [okS, Bool.and_eq_true] at h; exact iha h.1 hk.1
   exact hn γ a w A W (G.le.refl _ _) (lr _) hS (hdone t h2 h)
  ·rw [mem_ready] at hi
   obtain ⟨hf, o, ho, hdep⟩ := hi
   have hlt := (Array.getElem?_eq_some_iff.1 ho).1
   have hmem := (h1 i).2 ⟨hlt, hf⟩
   have hd' := (deps i o ho listed).2 hdep
   have hready : readyR ops rem i = true := by
    simp only [readyR, List.all_eq_true, Bool.not_eq_true', ← Bool.not_eq_true, List.contains_iff_mem]
    intro d hd hm
    obtain ⟨q1, q2⟩ := (h1 d).1 hm
    have := (both listed d (by omega)).2 (hd' d hd)
    rw [this] at q2; cases q2
   have hanc : ∀ j ∈ rem, j ∉ ancB ops ops.size i := by
    intro j hj hja
    have hl := anc_listed h5 ops.size i hd' j hja
    obtain ⟨q1, q2⟩ := (h1 j).1 hj
    rw [(both listed j (by omega)).2 hl] at q2; cases q2
   obtain ⟨t', g1, g2, g3, g4⟩ := aT_derive h2 h3 h4 hmem hready hanc
   obtain ⟨hlen2, hspec⟩ := compOps_spec hc
   have hal : al[i]? = some (al.getD i default) := by
    have : i < al.length := by rw [hlen2]; simpa using hlt
    simp [List.getD_eq_getElem?_getD, gEg this]
   have himg : Img E.P n ops pu o (al.getD i default) := hspec i o _ (by simpa using ho) hal
   unfold wpOpIn
   rw [ho]
   have hfin := exec1_sound hE (ρ := ρ) (Q := Q) (next := wpAnyIn (Fr ρ) 0 E.P .any ops Q fuel (listed.setIfInBounds i true)) himg (g4 Kf A W h) hS (fun γ' a' w' A' W' q1 q2 q3 q4 => by
    refine ih (rem.filter (· != i)) t' (listed.setIfInBounds i true) (by simpa using hsz) ?_ (hnd.filter _) ?_ g1 g2 g3 ?_ h6 q4 q3 (fun γ'' a'' w'' A'' W'' r1 r2 r3 r4 => hn γ'' a'' w'' A'' W'' (q1.trans r1 q2) (Nat.le_trans q2 r2) r3 r4)
    ·have : (rem.filter (· != i)).length < rem.length := by
      exact List.length_filter_lt_length_iff_exists.2 ⟨i, hmem, by simp⟩
     omega
    ·intro j
     rw [mem_filter_ne, h1 j]
     by_cases hji : i = j
     ·subst hji; simp [hsz, hlt]
     ·rw [getD_set_ne true hji]
      exact ⟨fun q => q.1, fun q => ⟨q, fun e => hji e.symm⟩⟩
    ·intro j hj d hd
     by_cases hji : i = j
     ·subst hji; exact getD_set_true (hd' d hd)
     ·rw [getD_set_ne false hji] at hj
      exact getD_set_true (h5 j hj d hd))
   simp only []
   split
   ·rename_i hw; rw [if_pos hw] at hfin; exact hfin
   ·rename_i hw; rw [if_neg hw] at hfin; exact ⟨fun _ _ => trivial, hfin⟩
theorem sameT_grow (ops : Array Oper) (al : List AOp) : ∀ (f : Nat) (rem : List Nat), sameT al (growT ops al f rem) = growT ops al f rem
 | 0, _ => rfl
 | f + 1, rem => by
  simp only [growT]
  split
  ·simp only [sameT, sameT_grow ops al f]
  ·have key : ∀ (l : List Nat), sameT al (altsOf (l.map fun i => PT.step i (al.getD i default) (growT ops al f (rem.filter (· != i))))) = altsOf (l.map fun i => PT.step i (al.getD i default) (growT ops al f (rem.filter (· != i)))) := by
    intro l
    induction l with
    | nil => rfl
    | cons i l ihl =>
     cases l with
     | nil => simp only [mcs, List.map_nil, altsOf, sameT, sameT_grow ops al f]
     | cons j l => simp only [mcs, altsOf, sameT, sameT_grow ops al f] at ihl ⊢; rw [ihl]
   exact key _
theorem draw_sound (hE : E.Sound) {ρ : Option Nat} {id : Nat} {ops : Array Oper} {pu : PM} {al : List AOp} {t : PT} {Q : Exit → Act → World → Prop} {Kf : AFr → AW → Prop} (hm : E.P.follows .mixedOrders = true) (hc : compOps E.P n ops pu ops.toList = some al)
  (hp : pickT ops al = some t) (h : aT E t Kf A W) (hS : St E h0 n γ a w A W)
  (hn : ∀ γ' a' w' A' W', G.le W.nx γ γ' → W.nx ≤ W'.nx → St E h0 n γ' a' w' A' W' → Kf A' W' → Q .normal a' w') : (Code.region id ops true).wpIn (Fr ρ) 0 E.P Q a w := by
 obtain ⟨hlen, _⟩ := compOps_spec hc
 unfold pickT at hp
 simp only [] at hp
 split at hp
 ·rename_i hcond
  simp only [Bool.and_eq_true, List.all_eq_true, decide_eq_true_eq] at hcond
  cases hp
  have hsize : al.length = ops.size := by simpa using hlen
  refine wpIn_region_any hm (draw_any hE hc ops.size (List.range al.length) _ _ (γ := γ) (A := A) (W := W) (by simp) (by simp [hsize]) List.nodup_range ?_ hcond.1.1 hcond.1.2 (sameT_grow _ _ _ _) ?_ ?_ h ⟨hS.fr, hS.w.drew⟩ hn)
  ·intro i
   by_cases h' : i < ops.size <;> simp [h', hsize]
  ·intro i hi
   by_cases h' : i < ops.size <;> simp [h'] at hi
  ·intro i hi d hd
   have := hcond.2 i (by simpa [hsize] using hi) d hd
   exact this
 ·cases hp
end Go.AL
namespace Go.AL
open RowKit
variable {γ : G} {E : Env} {w : World} {W : AW} {h0 : Nat → Bool} {n : Nat} {a : Act} {A : AFr}
def G.addKn (γ : G) (k : Nat) : G := ⟨γ.obj, γ.own, γ.con, fun r => γ.kn r || r == k, γ.dfr, γ.vb, γ.tk⟩
theorem G.le_addKn (m k : Nat) : G.le m γ (γ.addKn k) := ⟨fun _ _ => rfl, fun _ _ h _ => h, fun _ _ _ h => ⟨[], by rw [apn]; exact h⟩, fun r h _ => by simp [G.addKn, h], fun _ h => h, fun _ _ => rfl, fun _ _ => rfl⟩
theorem RelW.newNil (h : RelW E γ w W) {s : Nat} (hs : 0 < s) : RelW E (γ.addKn W.nx) w (W.alloc (.buf true s [])) where
 below := h.below
 base := h.base
 con := h.con
 own := h.own
 obj r o ho := by
  by_cases hr : r = W.nx
  ·subst hr
   simp only [AW.alloc, if_true, Option.some.injEq] at ho
   subst ho
   have hno : ∀ b, γ.own b ≠ some W.nx := fun b hb => absurd (h.bd.own b _ hb) (by omega)
   exact ⟨hs, none, (fun b hb => absurd hb (hno b)), (fun b hb => by cases hb), (fun _ => ⟨rfl, rfl⟩), fun _ _ b => hno b⟩
  ·simp only [AW.alloc, hr, if_false] at ho
   exact (h.obj r o ho).frame (G.le_addKn W.nx W.nx) h.bd (h.lt r o ho) (fun _ _ => rfl) (fun _ h => h) (fun _ _ => rfl)
 bd := ⟨fun r b hb => by have := h.bd.obj r b hb; simp only [AW.alloc]; omega, fun b r hb => by have := h.bd.own b r hb; simp only [AW.alloc]; omega, fun r hr => by
  simp only [G.addKn, Bool.or_eq_true, beq_iff_eq] at hr
  rcases hr with hr | hr
  ·have := h.bd.kn r hr; simp only [AW.alloc]; omega
  ·simp only [AW.alloc]; omega⟩
 lt r o ho := by
  by_cases hr : r = W.nx
  ·subst hr; simp [AW.alloc]
  ·simp only [AW.alloc, hr, if_false] at ho
   have := h.lt r o ho
   simp only [AW.alloc]; omega
 inj r r' o o' b ho ho' hb hb' := by
  have q : ∀ r o, (W.alloc (.buf true s [])).get r = some o → γ.obj r = some b → W.get r = some o := fun r o ho hb => by
   by_cases hr : r = W.nx
   ·subst hr; exact absurd (h.bd.obj _ _ hb) (by omega)
   ·simpa [AW.alloc, hr] using ho
  exact h.inj r r' o o' b (q r o ho hb) (q r' o' ho' hb') hb hb'
 apart r o b ho hb := by
  by_cases hr : r = W.nx
  ·subst hr; exact absurd (h.bd.obj _ _ hb) (by omega)
  ·simp only [AW.alloc, hr, if_false] at ho
   exact h.apart r o b ho hb
 glob := fun g cells hg => RelV.mono h.bd (G.le_addKn W.nx W.nx) _ _ (h.glob g cells hg)
 dfr := h.dfr
 dfrB := h.dfrB
 ext := h.ext.trans (G.le_addKn W.nx W.nx) h.n0
 n0 := by have := h.n0; simp only [AW.alloc]; omega
def G.addDfr (γ : G) (k : Nat) : G := ⟨γ.obj, γ.own, γ.con, γ.kn, fun b => γ.dfr b || b == k, γ.vb, γ.tk⟩
theorem G.le_addDfr (m k : Nat) : G.le m γ (γ.addDfr k) := ⟨fun _ _ => rfl, fun _ _ h _ => h, fun _ _ _ h => ⟨[], by rw [apn]; exact h⟩, fun _ h _ => h, fun b h => by simp [G.addDfr, h], fun _ _ => rfl, fun _ _ => rfl⟩
theorem RelW.newDfr (h : RelW E γ w W) : RelW E (γ.addDfr w.heap.size) (w.alloc (.deferred (some []))) W := by
 have h' := h.junk (.deferred (some []))
 have hle := G.le_addDfr (γ := γ) W.nx w.heap.size
 exact { h' with
  obj := fun r o ho => (h'.obj r o ho).frame hle h.bd (h.lt r o ho) (fun _ _ => rfl) (fun _ h => h) (fun _ _ => rfl)
  bd := ⟨h.bd.obj, h.bd.own, h.bd.kn⟩
  glob := fun g cells hg => RelV.mono h.bd hle _ _ (h.glob g cells hg)
  dfr := fun b hb => by
   simp only [G.addDfr, Bool.or_eq_true, beq_iff_eq] at hb
   rcases hb with hb | rfl
   ·exact h'.dfr b hb
   ·exact heap_alloc_new _ _
  dfrB := fun b hb => by
   simp only [G.addDfr, Bool.or_eq_true, beq_iff_eq] at hb
   rcases hb with hb | rfl
   ·exact h.dfrB b hb
   ·exact h.base
  ext := h.ext.trans hle h.n0 }
theorem below_putObj {B b : Nat} (h : B ≤ b) (o : Obj) : Below B w (w.putObj b o) := below_setObj h o
theorem RelW.shut (h : RelW E γ w W) {D : Nat} (hD : w.heap[D]? = some (.deferred (some []))) (hB : E.B ≤ D) (hd : γ.dfr D = false) (o : Obj) : RelW E γ (w.putObj D o) W where
 below := h.below.trans (below_putObj hB o)
 base := by rw [World.putObj_size]; exact h.base
 con b c sz hc := by
  obtain ⟨t, e, fz, h1, h2⟩ := h.con b c sz hc
  have : b ≠ D := fun e => by rw [e, hD] at h1; cases h1
  exact ⟨t, e, fz, (World.putObj_heap_other this).trans h1, h2⟩
 own b r ho := by
  obtain ⟨h1, h2, a, e, h3⟩ := h.own b r ho
  have : b ≠ D := fun e => by rw [e, hD] at h3; cases h3
  exact ⟨h1, h2, a, e, (World.putObj_heap_other this).trans h3⟩
 obj r o' ho := by
  have hr := h.obj r o' ho
  by_cases hb : γ.obj r = some D
  ·cases o' with
   | row cells => obtain ⟨b, c, e, g1, g2, g3⟩ := hr; rw [hb] at g1; cases g1; rw [hD] at g2; cases g2
   | map es clock => obtain ⟨b, mes, g1, g2, g3⟩ := hr; rw [hb] at g1; cases g1; rw [hD] at g2; cases g2
   | iter m since seen last => obtain ⟨b, mb, g1, g2, g3⟩ := hr; rw [hb] at g1; cases g1; rw [hD] at g2; cases g2
   | loop st pend => obtain ⟨b, g1, g2⟩ := hr; rw [hb] at g1; cases g1; rw [hD] at g2; cases g2
   | vec s cells => obtain ⟨b, _, _, _, _, g1, g2, _⟩ := hr; rw [hb] at g1; cases g1; rw [hD] at g2; cases g2
   | buf np s xs => exact hr
  ·exact hr.frame (G.le.refl W.nx _) h.bd (h.lt r o' ho) (fun b hb' => World.putObj_heap_other (fun e => hb (e ▸ hb'))) (fun _ h => h) (fun _ _ => rfl)
 bd := h.bd
 lt := h.lt
 inj := h.inj
 apart r o' b ho hb := by
  rw [World.putObj_size]; exact h.apart r o' b ho hb
 glob := h.glob
 dfr b hb := by
  have : b ≠ D := fun e => by rw [e, hd] at hb; cases hb
  rw [World.putObj_heap_other this]; exact h.dfr b hb
 dfrB := h.dfrB
 ext := h.ext
 n0 := h.n0
theorem RelW.setLoop (h : RelW E γ w W) {r : Nat} {st st' : LoopState} {pend pend' : Option Code} (hr : W.get r = some (.loop st pend)) :
  ∃ b, γ.obj r = some b ∧ w.heap[b]? = some (.loop { γ.tk r with state := st, pending := pend }) ∧ RelW E γ (w.putObj b (.loop { γ.tk r with state := st', pending := pend' })) (W.put r (.loop st' pend')) := by
 obtain ⟨b, hb, hh⟩ := h.obj r _ hr
 have hlt : b < w.heap.size := (Array.getElem?_eq_some_iff.1 hh).1
 refine ⟨b, hb, hh, h.setObj hr hb (by rw [hh]; simp) (below_putObj (h.apart r _ b hr hb).1 _) World.putObj_size (fun k hk => World.putObj_heap_other hk) ⟨b, hb, World.putObj_heap_same hlt⟩⟩
mutual
theorem RelV.bel {m : Nat} (hb : γ.Bd m) : ∀ (x : V) (v : Value), RelV γ x v → x.bel m = true
 | .agg cs, _, ⟨vs, _, h⟩ => by simpa [V.bel] using RelL.bel hb cs vs h
 | .ptr r _, _, ⟨b, e, _⟩ => by simpa [V.bel] using hb.obj r b e
 | .cptr cs, _, ⟨_, _, l, _, _, _, h, _⟩ => by simpa [V.bel] using RelL.bel hb cs l h
 | .sl s _ xs, _, ⟨_, _, l, _, _, _, _, h, _⟩ => by simpa [V.bel] using RelE.bel hb s xs l h
 | .buf _ r _ _, _, .inl ⟨b, ho, _⟩ => by simpa [V.bel] using hb.own b r ho
 | .buf _ r _ _, _, .inr ⟨⟨h, _⟩, _⟩ => by simpa [V.bel] using hb.kn r h
 | .slr r _ _ _, _, ⟨b, _, e, _⟩ => by simpa [V.bel] using hb.obj r b e
 | .vptr r _, _, ⟨b, e, _⟩ => by simpa [V.bel] using hb.obj r b e
 | .map r, _, ⟨b, e, _⟩ => by simpa [V.bel] using hb.obj r b e
 | .fn _ f c, _, ⟨fs, cs, _, h1, h2⟩ => by simp [V.bel, RelL.bel hb f fs h1, RelL.bel hb c cs h2]
 | .tuple vs, _, ⟨ws, _, h⟩ => by simpa [V.bel] using RelL.bel hb vs ws h
 | .iface _ x, _, ⟨y, _, h⟩ => by simpa [V.bel] using RelV.bel hb x y h
 | .yld r, _, ⟨b, e, _⟩ => by simpa [V.bel] using hb.obj r b e
 | .bool _, _, _ | .int _ _, _, _ | .str _, _, _ | .nilptr, _, _ | .nilsl, _, _ | .slz, _, _ | .nilmap, _, _ | .nilfn, _, _ | .nilif, _, _ => rfl
theorem RelL.bel {m : Nat} (hb : γ.Bd m) : ∀ (xs : List V) (l : List Value), RelL γ xs l → V.belL m xs = true
 | [], _, _ => rfl
 | x :: xs, _, ⟨v, l', _, h1, h2⟩ => by simp [V.belL, RelV.bel hb x v h1, RelL.bel hb xs l' h2]
theorem RelE.bel {m : Nat} (hb : γ.Bd m) : ∀ (s : Nat) (xs : List V) (l : List Value), RelE γ s xs l → V.belL m xs = true
 | _, [], _, _ => rfl
 | s, x :: xs, _, ⟨v, l', _, _, h1, h2⟩ => by simp [V.belL, RelV.bel hb x v h1, RelE.bel hb s xs l' h2]
end
theorem RelW.obel (h : RelW E γ w W) : ∀ r o, W.get r = some o → o.bel W.nx = true := by
 intro r o ho
 have := h.obj r o ho
 cases o with
 | row cells => obtain ⟨_, c, _, _, _, hl⟩ := this; exact RelL.bel h.bd cells c hl
 | map es clock =>
  obtain ⟨_, mes, _, _, hl⟩ := this
  simp only [AObj.bel]
  have key : ∀ (es : List (V × V × Nat)) (l : List MapEntry), RelEs γ es l → (es.all fun e => e.1.bel W.nx && e.2.1.bel W.nx) = true := by
   intro es
   induction es with
   | nil => intro l _; rfl
   | cons x xs ih =>
    obtain ⟨k, v, q⟩ := x
    rintro l ⟨e, l', _, g1, g2, _, g4⟩
    simp [RelV.bel h.bd k _ g1, RelV.bel h.bd v _ g2, ih l' g4]
  exact key es mes hl
 | iter m since seen last =>
  obtain ⟨_, _, _, _, hm⟩ := this
  rcases hm with ⟨rfl, _⟩ | ⟨r', b', rfl, _, h3⟩
  ·rfl
  ·simpa [AObj.bel] using h.bd.obj r' b' h3
 | loop st pend => rfl
 | vec s cells => obtain ⟨_, _, c, _, _, _, _, _, hl, _⟩ := this; exact RelL.bel h.bd cells c hl
 | buf np s xs =>
  obtain ⟨_, cur, h1, h2, h3, _⟩ := this
  cases hc : cur with
  | none => rw [(h3 hc).1]; rfl
  | some b =>
   obtain ⟨c, sz, k, _, _, _, e4, _, e6⟩ := h1 b (h2 b hc)
   rw [e6 hc, List.take_of_length_le (lr _)] at e4
   exact RelE.bel h.bd s xs c e4
theorem RelF.set {i : Nat} {v u : V} (hF : RelF γ h0 n a A) (hi : A i = some v) (h : ∀ x, RelV γ v x → RelV γ u x) : RelF γ h0 n a (A.put i u) :=
 ⟨hF.size, hF.defers, hF.base, fun j y hj => by
  simp only [AFr.put] at hj
  by_cases hji : j = i
  ·subst hji
   simp only [if_true, Option.some.injEq] at hj
   subst hj
   obtain ⟨x, h1, h2⟩ := hF.slot j v hi
   exact ⟨x, h1, h x h2⟩
  ·simp only [hji, if_false] at hj
   exact hF.slot j y hj⟩
theorem RelF.puts {vs : List V} {ws : List Value} (h : RelL γ vs ws) : ∀ {ps : List Nat} {a : Act} {A : AFr}, RelF γ h0 n a A → (ps.all fun d => decide (d < n)) = true → ps.length = vs.length →
  RelF γ h0 n { a with tmps := (ps.zip ws).foldl (fun t (p, v) => t.setIfInBounds p v) a.tmps } (A.puts ps vs) := by
 induction vs generalizing ws with
 | nil =>
  intro ps a A hF _ hl
  simp only [RelL] at h
  subst h
  have : ps = [] := List.length_eq_zero_iff.1 (by simpa using hl)
  subst this
  exact hF
 | cons v vs ih =>
  intro ps a A hF hp hl
  obtain ⟨x, l', rfl, h1, h2⟩ := h
  cases ps with
  | nil => simp at hl
  | cons p ps =>
   simp only [List.all_cons, Bool.and_eq_true] at hp
   have := (hF.put (d := some p) (by simpa using hp.1) h1)
   exact ih h2 (a := a.put (some p) x) this hp.2 (by simpa using hl)
theorem Vs.sound {lo : Nat} {A' : AFr} {W' : AW} (h : Vs lo A W A' W') : ∀ {γ : G} {γ0 : G} {nx0 : Nat}, G.le nx0 γ0 γ → nx0 ≤ lo → E.n0 ≤ lo → St E h0 n γ a w A W → ∃ γ', G.le nx0 γ0 γ' ∧ lo ≤ W'.nx ∧ St E h0 n γ' a w A' W' := by
 induction h with
 | refl hlo => intro γ γ0 nx0 hle hn hE0 hS; exact ⟨γ, hle, hlo, hS⟩
 | weak hw hlo =>
  intro γ γ0 nx0 hle hn hE0 hS
  refine ⟨γ.cut _ [], G.le_cut hle (Nat.le_trans hn hlo) (by simp), hlo, ⟨hS.fr.size, ?_, fun b hb => by simpa [G.cut] using hS.fr.base b hb, fun i v hv => ?_⟩, hS.w.cut hw.sub hw.lt hw.obel (Nat.le_trans hE0 hlo)⟩
  ·obtain ⟨ds, e1, e2, e3⟩ := hS.fr.defers
   exact ⟨ds, e1, e2, fun D hD => ⟨by simpa [G.cut] using (e3 D hD).1, (e3 D hD).2⟩⟩
  obtain ⟨x, h1, h2⟩ := hS.fr.slot i v (hw.fr i v hv)
  exact ⟨x, h1, RelV.cut _ _ _ (hw.bel i v hv) h2⟩
 | nilbuf i s hi hs _ ih =>
  intro γ γ0 nx0 hle hn hE0 hS
  exact ih (hle.trans (G.le_addKn nx0 _) (lr _)) hn hE0 ⟨(hS.fr.mono hS.w.bd (G.le_addKn _ _)).set hi (fun x hx => by cases hx; exact .inr ⟨⟨by simp [G.addKn], rfl⟩, rfl, rfl⟩), hS.w.newNil hs⟩
 | frz i v hi _ ih =>
  intro γ γ0 nx0 hle hn hE0 hS
  exact ih hle hn hE0 ⟨hS.fr.set hi (fun x hx => frz_rel hS.w hx), hS.w⟩
theorem wp_loop_ghost {F : Fence} {m : Nat} {P : Program} {c : Code} {Q : Exit → Act → World → Prop} (J : Nat → Act → World → Prop)
  (round : ∀ k a w, J k a w → c.wpIn F m P (Exit.then (fun a' w' => ∃ j, j < k ∧ J j a' w') Q) a w) (k : Nat) (h₀ : J k a w) : (Code.loop c).wpIn F m P Q a w := by
 intro b kk cs hro hb hr
 have key : ∀ k a w, J k a w → ∃ e a' w', Q e a' w' ∧ ArrivesIn (Machine.fenced P F) P (lone (b.atR a (.code c :: .inLoop c :: kk)) cs w) b kk cs e a' w' := by
  intro k
  induction k using Nat.strongRecOn with
  | _ k ih =>
   intro a w hJ
   obtain ⟨e, a₁, w₁, hq, harr⟩ := round k a w hJ b (.inLoop c :: kk) cs hro hb hr
   cases e with
   | normal =>
    obtain ⟨j, hj, hJ₁⟩ := hq
    obtain ⟨e₂, a₂, w₂, hq₂, harr₂⟩ := ih j hj a₁ w₁ hJ₁
    exact ⟨e₂, a₂, w₂, hq₂, .of_steps (StepsIn.trans harr (.one (fenced_calm hb hr rfl) stepR_inLoop)) harr₂⟩
   | exit id => exact ⟨_, a₁, w₁, hq, .pass (x := .inLoop c) rfl (fun _ _ => .inl (by simp)) harr⟩
   | goto l => exact ⟨_, a₁, w₁, hq, .pass (x := .inLoop c) rfl (fun _ _ => .inl (by simp)) harr⟩
   | ret => exact ⟨_, a₁, w₁, hq, .pass (x := .inLoop c) rfl (fun _ _ => .inl (by simp)) harr⟩
   | panic ch => exact ⟨_, a₁, w₁, hq, .pass (x := .inLoop c) rfl (fun _ _ => .inl (by simp)) harr⟩
   | outgrown => exact ⟨_, a₁, w₁, hq, .pass (x := .inLoop c) rfl (fun _ _ => .inl (by simp)) harr⟩
 obtain ⟨e, a', w', hq, harr⟩ := key k a w h₀
 exact ⟨e, a', w', hq, .of_steps (.one (fenced_calm hb hr rfl) stepR_loop) harr⟩
theorem Lift.up {γ' : G} {nx nx' : Nat} {Q : Exit → AFr → AW → Prop} {e : Exit} {a' : Act} {w' : World} (hle : G.le nx γ γ') (hn : nx ≤ nx') (h : Lift E h0 n γ' nx' Q e a' w') : Lift E h0 n γ nx Q e a' w' := by
 obtain ⟨g, A', W', h1, h2, h3, h4⟩ := h
 exact ⟨g, A', W', hle.trans h1 hn, Nat.le_trans hn h2, h3, h4⟩
theorem doneQ_get {r : Nat} {Q : Exit → AFr → AW → Prop} (h : doneQ r Q A W) : ∃ st pend e, W.get r = some (.loop st pend) ∧ st ≠ .busy ∧ Q e A (W.put r (.loop .exhausted pend)) ∧
  ((pend = none ∧ e = .normal) ∨ (pend = some .ret ∧ e = .ret) ∨ ∃ i, pend = some (.exit i) ∧ e = .exit i) := by
 unfold doneQ at h
 split at h
 ·rename_i hg; exact ⟨_, _, _, hg, by simp, h, .inl ⟨rfl, rfl⟩⟩
 ·rename_i hg; exact ⟨_, _, _, hg, by simp, h, .inr (.inl ⟨rfl, rfl⟩)⟩
 ·rename_i i hg; exact ⟨_, _, _, hg, by simp, h, .inr (.inr ⟨i, rfl, rfl⟩)⟩
 ·exact h.elim
def Env.inner (E : Env) (γ1 : G) (n1 r : Nat) (Y : List V → AW → (V → AW → Prop) → Prop) : Env where
 P := E.P
 B := E.B
 w0 := E.w0
 glob := E.glob
 globOk := E.globOk
 γ0 := γ1
 n0 := n1
 yield := fun q vs W K => (q = r ∧ ∃ K0 : V → AW → Prop, (∀ v W', K0 v W' → K v W') ∧ Y vs W K0) ∨ (q ≠ r ∧ E.yield q vs W K)
 yieldMono := fun q vs W K K' hk h => by
  rcases h with ⟨h1, K0, h2, h3⟩ | ⟨h1, h2⟩
  ·exact .inl ⟨h1, K0, fun v W' hv => hk v W' (h2 v W' hv), h3⟩
  ·exact .inr ⟨h1, E.yieldMono q vs W K K' hk h2⟩
theorem RelW.inner {γ1 : G} {n1 r : Nat} {Y : List V → AW → (V → AW → Prop) → Prop} (h : RelW E γ w W) (hle : G.le n1 γ1 γ) (hn : n1 ≤ W.nx) : RelW (E.inner γ1 n1 r Y) γ w W :=
 ⟨h.below, h.base, h.con, h.own, h.obj, h.bd, h.lt, h.inj, h.apart, h.glob, h.dfr, h.dfrB, hle, hn⟩
theorem RelW.outer {γ1 : G} {n1 r : Nat} {Y : List V → AW → (V → AW → Prop) → Prop} (h : RelW (E.inner γ1 n1 r Y) γ w W) (hle : G.le E.n0 E.γ0 γ1) (hn : E.n0 ≤ n1) : RelW E γ w W :=
 ⟨h.below, h.base, h.con, h.own, h.obj, h.bd, h.lt, h.inj, h.apart, h.glob, h.dfr, h.dfrB, hle.trans h.ext hn, Nat.le_trans hn h.n0⟩
theorem ACalls.mono {E : Env} {W : AW} {f : FuncId} {vs : List V} {Q Q' : V → AW → Prop} (h : ACalls E f vs W Q) (hq : ∀ X W', Q X W' → Q' X W') : ACalls E f vs W Q' :=
 ⟨h.1, fun hE γ w ws hW hr => (h.2 hE γ w ws hW hr).mono fun _ _ ⟨v, γ', X, W', g1, g2, g3, g4, g5, g6⟩ => ⟨v, γ', X, W', g1, g2, g3, g4, g5, hq _ _ g6⟩⟩
theorem ALoop.mono {B B' : (Exit → AFr → AW → Prop) → AFr → AW → Prop} (hB : ∀ (Q Q' : Exit → AFr → AW → Prop) A W, (∀ e A W, Q e A W → Q' e A W) → B Q A W → B' Q' A W) {Q Q' : Exit → AFr → AW → Prop} {A : AFr} {W : AW} (h : ∀ e A W, Q e A W → Q' e A W) :
  ALoop B Q A W → ALoop B' Q' A W := by
 rintro ⟨I, μ, h0, hs⟩
 refine ⟨I, μ, h0, fun A1 W1 hi hn => hB _ _ _ _ ?_ (hs A1 W1 hi hn)⟩
 intro e A' W' hq
 cases e <;> first | exact hq | exact h _ _ _ hq
theorem aT_mono {E : Env} : ∀ (t : PT) {K K' : AFr → AW → Prop} {A : AFr} {W : AW}, (∀ A W, K A W → K' A W) → aT E t K A W → aT E t K' A W
 | .done, _, _, _, _, h, hs => h _ _ hs
 | .step _ _ t, _, _, _, _, h, hs => exec1_mono (fun _ _ hk => aT_mono t h hk) hs
 | .alt a b, _, _, _, _, h, hs => ⟨aT_mono a h hs.1, aT_mono b h hs.2⟩
theorem awp_mono {E : Env} : ∀ (c : AC) {Q Q' : Exit → AFr → AW → Prop} {A : AFr} {W : AW}, (∀ e A W, Q e A W → Q' e A W) → awp E c Q A W → awp E c Q' A W
 | .skip, _, _, _, _, h, hs => h _ _ _ hs
 | .reg ops, _, _, _, _, h, hs => execL_mono (fun _ _ hk => h _ _ _ hk) hs
 | .par t, _, _, _, _, h, hs => aT_mono t (fun _ _ hk => h _ _ _ hk) hs
 | .seq a b, _, _, _, _, h, hs => awp_mono a (fun e A' W' hq => by
   cases e with
   | normal => exact awp_mono b h hq
   | _ => exact h _ _ _ hq) hs
 | .cond c x y, _, _, A, W, h, hs => by
   simp only [awp] at hs ⊢
   split at hs
   ·exact ⟨fun e => awp_mono x h (hs.1 e), fun e => awp_mono y h (hs.2 e)⟩
   ·exact hs.elim
 | .rangef g ps asg body, Q, Q', A, W, h, hs => by
   simp only [awp] at hs ⊢
   split at hs
   ·intro E' h1 h2 h3 h4
    refine (hs E' h1 h2 (fun vs W1 K hr => h3 vs W1 K hr) h4).mono ?_
    intro X W' hd
    unfold doneQ at hd ⊢
    split at hd <;> first | exact h _ _ _ hd | exact hd.elim
   ·exact hs.elim
 | .block id c, _, _, _, _, h, hs => awp_mono c (fun e A' W' hq => by
   cases e with
   | exit j =>
    simp only [blockQ] at hq ⊢
    split at hq
    ·rename_i hj; rw [if_pos hj]; exact h _ _ _ hq
    ·rename_i hj; rw [if_neg hj]; exact h _ _ _ hq
   | _ => exact h _ _ _ hq) hs
 | .loop c, _, _, _, _, h, hs => ALoop.mono (B := awp _ c) (B' := awp _ c) (fun _ _ _ _ hq hb => awp_mono c hq hb) h hs
 | .exit id, _, _, _, _, h, hs => h _ _ _ hs
 | .ret, _, _, _, _, h, hs => h _ _ _ hs
theorem awp_ng {E : Env} : ∀ (c : AC) {Q Q' : Exit → AFr → AW → Prop} {A : AFr} {W : AW}, (∀ e A W, Q e A W → (∀ l, e ≠ .goto l) → Q' e A W) → awp E c Q A W → awp E c Q' A W
 | .skip, _, _, _, _, h, hs => h _ _ _ hs (fun _ h => by cases h)
 | .reg ops, _, _, _, _, h, hs => execL_mono (fun _ _ hk => h _ _ _ hk (fun _ h => by cases h)) hs
 | .par t, _, _, _, _, h, hs => aT_mono t (fun _ _ hk => h _ _ _ hk (fun _ h => by cases h)) hs
 | .seq a b, _, _, _, _, h, hs => awp_ng a (fun e A' W' hq hn => by
   cases e with
   | normal => exact awp_ng b h hq
   | _ => exact h _ _ _ hq hn) hs
 | .cond c x y, _, _, A, W, h, hs => by
   simp only [awp] at hs ⊢
   split at hs
   ·exact ⟨fun e => awp_ng x h (hs.1 e), fun e => awp_ng y h (hs.2 e)⟩
   ·exact hs.elim
 | .rangef g ps asg body, Q, Q', A, W, h, hs => by
   simp only [awp] at hs ⊢
   split at hs
   ·intro E' h1 h2 h3 h4
    refine (hs E' h1 h2 (fun vs W1 K hr => h3 vs W1 K hr) h4).mono ?_
    intro X W' hd
    unfold doneQ at hd ⊢
    split at hd <;> first | exact h _ _ _ hd (fun _ h => by cases h) | exact hd.elim
   ·exact hs.elim
 | .block id c, _, _, _, _, h, hs => awp_ng c (fun e A' W' hq hn => by
   cases e with
   | exit j =>
    simp only [blockQ] at hq ⊢
    split at hq
    ·rename_i hj; rw [if_pos hj]; exact h _ _ _ hq (fun _ h => by cases h)
    ·rename_i hj; rw [if_neg hj]; exact h _ _ _ hq hn
   | _ => exact h _ _ _ hq hn) hs
 | .loop c, _, _, _, _, h, ⟨I, μ, h0, hs⟩ => ⟨I, μ, h0, fun A1 W1 hi hn => awp_ng c (fun e A' W' hq hne => by
   cases e with
   | normal => exact hq
   | _ => exact h _ _ _ hq hne) (hs A1 W1 hi hn)⟩
 | .exit id, _, _, _, _, h, hs => h _ _ _ hs (fun _ h => by cases h)
 | .ret, _, _, _, _, h, hs => h _ _ _ hs (fun _ h => by cases h)
theorem stepR_scope' {P : Program} {b : Frame} {a : Act} {k : List Item} {cs : List Frame} {w : World} {c : Code} : step P (lone (b.atR a (.code (.scope c) :: k)) cs w) = .next (lone (b.atR a (.code c :: .inScope c :: k)) cs w) :=
 step_lone_go (by simp [stepG, stepG.exec, Frame.atR])
theorem stepR_inScope' {P : Program} {b : Frame} {a : Act} {k : List Item} {cs : List Frame} {w : World} {c : Code} : step P (lone (b.atR a (.inScope c :: k)) cs w) = .next (lone (b.atR a k) cs w) :=
 step_lone_go (by simp [stepG, stepG.exec, Frame.atR])
theorem wpIn_scope' {F : Fence} {m : Nat} {P : Program} {Q : Exit → Act → World → Prop} {a : Act} {w : World} {c : Code} (h : c.wpIn F m P Q a w) (hq : ∀ l a w, ¬ Q (.goto l) a w) : (Code.scope c).wpIn F m P Q a w := by
 intro b k cs hro hb hr
 have h0 : (lone (b.atR a (.code (.scope c) :: k)) cs w).fenced P F := fenced_calm hb hr rfl
 obtain ⟨e, a₁, w₁, hq', harr⟩ := h b (.inScope c :: k) cs hro hb hr
 cases e with
 | normal => exact ⟨.normal, a₁, w₁, hq', .head h0 stepR_scope' (StepsIn.trans harr (.one (fenced_calm hb hr rfl) stepR_inScope'))⟩
 | exit id' =>
  have hx : exitTo id' (.inScope c :: k) = exitTo id' k := by simp [exitTo]
  exact ⟨.exit id', a₁, w₁, hq', fun k' hk => .head h0 stepR_scope' (harr.1 k' (by rw [hx]; exact hk)),
   fun hr' hk => let ⟨k₁, h1, h2⟩ := harr.2 hr' (by rw [hx]; exact hk); ⟨k₁, h1, .head h0 stepR_scope' h2⟩⟩
 | goto l => exact (hq l _ _ hq').elim
 | ret => exact ⟨_, a₁, w₁, hq', .of_steps (.one h0 stepR_scope') harr⟩
 | panic ch => exact ⟨_, a₁, w₁, hq', .of_steps (.one h0 stepR_scope') harr⟩
 | outgrown => exact ⟨_, a₁, w₁, hq', .of_steps (.one h0 stepR_scope') harr⟩
theorem awp_sound (hE : E.Sound) : ∀ {code : Code} {c : AC} {top : Bool} {ex : Md} {ρ : Option Nat}, compC E.P n top ex code = some c → (top = true → ρ = none) → ∀ {Q : Exit → AFr → AW → Prop} {h0 : Nat → Bool} {γ : G} {a : Act} {w : World} {A : AFr} {W : AW}, awp E c Q A W → St E h0 n γ a w A W → code.wpIn (Fr ρ) 0 E.P (Lift E h0 n γ W.nx Q) a w := by
 intro code
 induction code with
 | skip =>
  intro c top ex ρ hc _ Q h0 γ a w A W h hS
  simp only [compC, Option.some.injEq] at hc
  subst hc
  exact wpIn_skip ⟨γ, A, W, G.le.refl _ _, lr _, hS, h⟩
 | region id ops draw =>
  intro c top ex ρ hc _ Q h0 γ a w A W h hS
  have fin : ∀ γ' a' w' A' W', G.le W.nx γ γ' → W.nx ≤ W'.nx → St E h0 n γ' a' w' A' W' → Q .normal A' W' → Lift E h0 n γ W.nx Q .normal a' w' := fun γ' a' w' A' W' g1 g2 g3 g4 => ⟨γ', A', W', g1, g2, g3, g4⟩
  cases draw
  ·simp only [compC, Option.map_eq_some_iff] at hc
   obtain ⟨al, hal, rfl⟩ := hc
   have := list_sound hE (ρ := ρ) 0 (fun i o ho => by simpa using ho) hal h hS fin
   refine wpIn_region ?_
   rw [List.range_eq_range']
   simpa using this
  ·simp only [compC] at hc
   split at hc
   ·rename_i hm
    have one : ∀ (pu : PM) (t : PT), (compOps E.P n ops pu ops.toList).bind (pickT ops) = some t → awp E (.par t) Q A W → (Code.region id ops true).wpIn (Fr ρ) 0 E.P (Lift E h0 n γ W.nx Q) a w := by
     intro pu t ht h
     simp only [Option.bind_eq_some_iff] at ht
     obtain ⟨al, h1, h2⟩ := ht
     exact draw_sound hE hm h1 h2 h hS fin
    split at hc
    ·rename_i t h1 _
     cases hc
     exact one ⟨false, ex.ex, ex.ps⟩ t h1 h
    ·rename_i t u h1 h2
     cases hc
     by_cases hl : (lineT t || ex.al) = true
     ·rw [if_pos hl] at h; exact one ⟨false, ex.ex, ex.ps⟩ t h1 h
     ·rw [if_neg hl] at h; exact one ⟨true, ex.ex, ex.ps⟩ u h2 h
    ·rename_i u _ h2
     cases hc
     exact one ⟨true, ex.ex, ex.ps⟩ u h2 h
    ·cases hc
   ·cases hc
 | seq x y ihx ihy =>
  intro c top ex ρ hc ht Q h0 γ a w A W h hS
  unfold compC at hc
  split at hc
  ·rename_i p q h1 h2
   cases hc
   refine wpIn_seq (Go.wpIn_mono (ihx h1 ht h hS) ?_)
   intro e a' w' hl
   cases e with
   | normal =>
    obtain ⟨γ', A', W', g1, g2, g3, g4⟩ := hl
    exact Go.wpIn_mono (ihy h2 ht g4 g3) (fun e a'' w'' hl' => hl'.up g1 g2)
   | exit id => exact hl
   | goto l => exact hl
   | ret => exact hl
   | panic ch => exact hl
   | outgrown => exact hl
  ·cases hc
 | cond x c1 c2 ih1 ih2 =>
  intro c top ex ρ hc ht Q h0 γ a w A W h hS
  unfold compC at hc
  split at hc
  ·rename_i p q r h1 h2 h3
   cases hc
   simp only [awp] at h
   split at h
   ·rename_i t htt
    have hev : a.eval x = .bool t := ev_sound h1 htt hS.fr hS.w
    cases t
    ·exact wpIn_cond_false hev (ih2 h3 ht (h.2 rfl) hS)
    ·exact wpIn_cond_true hev (ih1 h2 ht (h.1 rfl) hS)
   ·exact h.elim
  ·cases hc
 | block id x ih =>
  intro c top ex ρ hc ht Q h0 γ a w A W h hS
  simp only [compC, Option.map_eq_some_iff] at hc
  obtain ⟨p, hp, rfl⟩ := hc
  refine wpIn_block (Go.wpIn_mono (ih hp ht h hS) ?_)
  intro e a' w' hl
  cases e with
  | exit id' =>
   obtain ⟨γ', A', W', g1, g2, g3, g4⟩ := hl
   simp only [blockQ] at g4
   simp only [Exit.inBlock]
   split
   ·rename_i he; rw [if_pos he] at g4; exact ⟨γ', A', W', g1, g2, g3, g4⟩
   ·rename_i he; rw [if_neg he] at g4; exact ⟨γ', A', W', g1, g2, g3, g4⟩
  | normal => exact hl
  | goto l => exact hl
  | ret => exact hl
  | panic ch => exact hl
  | outgrown => exact hl
 | loop x ih =>
  intro c top ex ρ hc ht Q h0 γ a w A W h hS
  simp only [compC, Option.map_eq_some_iff] at hc
  obtain ⟨p, hp, rfl⟩ := hc
  obtain ⟨I, μ, ⟨A0, W0, hv0, hI0⟩, hround⟩ := h
  obtain ⟨γ0, q1, q2, q3⟩ := hv0.sound (G.le.refl W.nx γ) (lr _) hS.w.n0 hS
  refine wp_loop_ghost (fun k a w => ∃ γ' A1 W1, G.le W.nx γ γ' ∧ W.nx ≤ W1.nx ∧ St E h0 n γ' a w A1 W1 ∧ I A1 W1 ∧ μ A1 W1 = k) ?_ (μ A0 W0) ⟨γ0, A0, W0, q1, q2, q3, hI0, rfl⟩
  rintro k a1 w1 ⟨γ1, A1, W1, g1, g2, g3, g4, rfl⟩
  refine Go.wpIn_mono (ih hp ht (hround A1 W1 g4 g2) g3) ?_
  intro e a' w' hl
  cases e with
  | normal =>
   obtain ⟨γ', A', W', r1, r2, r3, A2, W2, hv, hI, hμ⟩ := hl
   obtain ⟨γ2, s1, s2, s3⟩ := hv.sound (g1.trans r1 g2) (lr _) hS.w.n0 r3
   exact ⟨_, hμ, γ2, A2, W2, s1, s2, s3, hI, rfl⟩
  | exit id => exact hl.up g1 g2
  | goto l => exact hl.up g1 g2
  | ret => exact hl.up g1 g2
  | panic ch => exact hl.up g1 g2
  | outgrown => exact hl.up g1 g2
 | exit id =>
  intro c top ex ρ hc _ Q h0 γ a w A W h hS
  simp only [compC, Option.some.injEq] at hc
  subst hc
  exact wpIn_exit ⟨γ, A, W, G.le.refl _ _, lr _, hS, h⟩
 | ret =>
  intro c top ex ρ hc _ Q h0 γ a w A W h hS
  simp only [compC, Option.some.injEq] at hc
  subst hc
  exact wpIn_ret ⟨γ, A, W, G.le.refl _ _, lr _, hS, h⟩
 | rangeFunc g ps asg body iha ihb =>
  intro c top ex ρ hc ht Q h0 γ a w A W h hS
  unfold compC at hc
  split at hc
  ·rename_i htop
   obtain rfl := ht htop
   split at hc
   ·rename_i gx ca cb hg ha hb
    split at hc
    ·rename_i hps
     cases hc
     simp only [awp] at h
     split at h
     ·rename_i gf cap hgv
      obtain ⟨fs, cs, hgval, hfs, hcs⟩ := ev_sound hg hgv hS.fr hS.w
      simp only [RelL] at hfs
      subst hfs
      refine wpIn_rangeFunc (fun fn _ => ?_)
      obtain ⟨tok, htok⟩ : ∃ tok : Loop, tok = { state := .ready, pending := none, fn, tmps := a.tmps, params := ps, assign := asg, body, defers := w.heap.size } := ⟨_, rfl⟩
      have hWd := hS.w.newDfr
      have hled : G.le W.nx γ (γ.addDfr w.heap.size) := G.le_addDfr _ _
      have hsz : (w.alloc (.deferred (some []))).heap.size = w.heap.size + 1 := by simp
      obtain ⟨hW1, hle1⟩ := hWd.newObj' (.loop tok) (.loop .ready none) (p := (0, 0)) (q := tok) ⟨(w.alloc (.deferred (some []))).heap.size, by simp [G.addObj], by rw [heap_alloc_new]; simp [G.addObj, htok]⟩
      rw [hsz] at hW1 hle1
      obtain ⟨γ1, hγ1⟩ : ∃ γ1, (γ.addDfr w.heap.size).addObj W.nx (w.heap.size + 1) (0, 0) tok = γ1 := ⟨_, rfl⟩
      rw [hγ1] at hW1 hle1
      have hob : γ1.obj W.nx = some (w.heap.size + 1) := by rw [← hγ1]; simp [G.addObj]
      have htk1 : γ1.tk W.nx = tok := by rw [← hγ1]; simp [G.addObj]
      have hdfr : γ1.dfr w.heap.size = true := by rw [← hγ1]; simp [G.addObj, G.addDfr]
      have hle : G.le W.nx γ γ1 := hled.trans hle1 (lr _)
      obtain ⟨w1, hw1⟩ : ∃ w1, (w.alloc (.deferred (some []))).alloc (.loop tok) = w1 := ⟨_, rfl⟩
      rw [hw1] at hW1
      obtain ⟨W1, hW1e⟩ : ∃ W1, W.alloc (.loop .ready none) = W1 := ⟨_, rfl⟩
      rw [hW1e] at hW1
      have hnx : W1.nx = W.nx + 1 := by rw [← hW1e]; rfl
      obtain ⟨Y, hY⟩ : ∃ Y : List V → AW → (V → AW → Prop) → Prop, Y = roundY W.nx ps.toList A (awp E ca) (awp E cb) := ⟨_, rfl⟩
      have hW1' : RelW (E.inner γ1 W1.nx W.nx Y) γ1 w1 W1 := hW1.inner (G.le.refl _ _) (lr _)
      have hext : G.le E.n0 E.γ0 γ1 := hS.w.ext.trans hle hS.w.n0
      have hn1 : E.n0 ≤ W1.nx := by have := hS.w.n0; omega
      have hE' : (E.inner γ1 W1.nx W.nx Y).Sound := by
       intro γ2 w2 W2 r vs ws K hW2 hvs hy
       have hO := hW2.outer hext hn1
       have back : ∀ {e : Ending} {w' : World} {K' : V → AW → Prop}, (∀ v W', K' v W' → K v W') → (∃ v γ' X W', e = .returned v ∧ G.le W2.nx γ2 γ' ∧ W2.nx ≤ W'.nx ∧ RelW E γ' w' W' ∧ RelV γ' X v ∧ K' X W') →
         ∃ v γ' X W', e = .returned v ∧ G.le W2.nx γ2 γ' ∧ W2.nx ≤ W'.nx ∧ RelW (E.inner γ1 W1.nx W.nx Y) γ' w' W' ∧ RelV γ' X v ∧ K X W' := by
        rintro e w' K' hk ⟨v, γ', X, W', g1, g2, g3, g4, g5, g6⟩
        exact ⟨v, γ', X, W', g1, g2, g3, g4.inner (hW2.ext.trans g2 hW2.n0) (Nat.le_trans hW2.n0 g3), g5, hk _ _ g6⟩
       rcases hy with ⟨rfl, K0, hK, hy⟩ | ⟨hne, hy⟩
       ·rw [hY] at hy
        obtain ⟨hget, hlen, hround⟩ := hy
        obtain ⟨b, hb2, hheap⟩ := hO.obj _ _ hget
        have htt : ({ tok with state := .ready, pending := none } : Loop) = tok := by rw [htok]
        have htk2 : γ2.tk W.nx = tok := (hW2.ext.tk W.nx (by show W.nx < W1.nx; omega)).trans htk1
        rw [htk2, htt] at hheap
        have hbe : b = w.heap.size + 1 := by
         have := hW2.ext.obj W.nx (by show W.nx < W1.nx; omega)
         have h3 : γ2.obj W.nx = γ1.obj W.nx := this
         rw [h3, hob] at hb2; cases hb2; rfl
        have hwl := hvs.length
        refine ⟨b, hb2, tok.fn, _, tok.assign, tok.body, run_yield hheap (by rw [htok]; simp; rw [← Array.length_toList]; omega), roundIn_of_wpIn (F := Fence.wide) trivial ?_⟩
        have hF2 : RelF γ2 (fun _ => false) n { tmps := a.tmps, defers := [] } A := by
         have hm := (hS.fr.mono hS.w.bd hle).mono hW1.bd (hW2.ext)
         exact ⟨hm.size, ⟨[], rfl, List.nodup_nil, by simp⟩, by simp, hm.slot⟩
        have hF3 := hF2.puts hvs hps (by omega)
        have hS2 : St E (fun _ => false) n γ2 { tmps := (ps.zip ws.toArray).foldl (fun t (p, v) => t.setIfInBounds p v) a.tmps, defers := [] } w2 (A.puts ps.toList vs) W2 := by
         refine ⟨?_, hO⟩
         have : (ps.zip ws.toArray).foldl (fun t (p, v) => t.setIfInBounds p v) a.tmps = (ps.toList.zip ws).foldl (fun t (p, v) => t.setIfInBounds p v) a.tmps := by
          rw [← Array.foldl_toList]; simp
         rw [this]
         exact hF3
        have hgoal : tok.assign = asg ∧ tok.body = body ∧ tok.params = ps ∧ tok.tmps = a.tmps := by rw [htok]; exact ⟨rfl, rfl, rfl, rfl⟩
        obtain ⟨e1, e2, e3, e4⟩ := hgoal
        simp only [e1, e2, e3, e4]
        refine Go.wpIn_mono (iha (ρ := some b) ha (by simp) hround hS2) ?_
        intro e a3 w3 hl
        obtain ⟨γ3, A3, W3, g1, g2, g3, g4⟩ := hl
        cases e with
        | normal =>
         obtain ⟨hget3, hbody⟩ := g4
         obtain ⟨b3, hb3, hh3, hset3⟩ := g3.w.setLoop (st' := .busy) (pend' := none) hget3
         have htk3 : γ3.tk W.nx = tok := (g1.tk W.nx (by have : W1.nx ≤ W2.nx := hW2.n0; omega)).trans htk2
         rw [htk3] at hh3 hset3
         have hb3e : b3 = b := by have := g1.obj W.nx (by have : W1.nx ≤ W2.nx := hW2.n0; omega); rw [this, hb2] at hb3; cases hb3; rfl
         subst hb3e
         refine ⟨_, run_beginRound hh3 rfl, ?_⟩
         refine Go.wpIn_mono (ihb (ρ := some b3) hb (by simp) hbody ⟨g3.fr, hset3⟩) ?_
         intro e a4 w4 hl4
         obtain ⟨γ4, A4, W4, q1, q2, q3, q4⟩ := hl4
         have fin : ∀ (jump : Option Code) (st : LoopState) (X : Bool), st = (if jump.isNone then .ready else .done) → X = jump.isNone → W4.get W.nx = some (.loop .busy none) → K0 (.bool X) (W4.put W.nx (.loop st jump)) →
           ∃ v w', (Instr.endRound b3 jump).run E.P w4 = .ok v w' ∧ ∃ u γ' Z W', Ending.returned v = .returned u ∧ G.le W2.nx γ2 γ' ∧ W2.nx ≤ W'.nx ∧ RelW (E.inner γ1 W1.nx W.nx Y) γ' w' W' ∧ RelV γ' Z u ∧ K Z W' := by
          rintro jump st X rfl rfl hget4 hk4
          obtain ⟨b4, hb4, hh4, hset4⟩ := q3.w.setLoop (st' := if jump.isNone then .ready else .done) (pend' := jump) hget4
          have htk4 : γ4.tk W.nx = tok := (q1.tk W.nx (by show W.nx < W3.nx; have : W1.nx ≤ W2.nx := hW2.n0; omega)).trans htk3
          rw [htk4] at hh4 hset4
          have hb4e : b4 = b3 := by
           have h5 := q1.obj W.nx (by show W.nx < W3.nx; have : W1.nx ≤ W2.nx := hW2.n0; omega)
           rw [h5, hb3] at hb4; cases hb4; rfl
          subst hb4e
          refine ⟨_, _, run_endRound jump hh4, back hK ⟨_, γ4, .bool jump.isNone, W4.put W.nx (.loop (if jump.isNone then .ready else .done) jump), rfl, g1.trans q1 g2, Nat.le_trans g2 q2, hset4, rfl, hk4⟩⟩
         cases e with
         | normal => exact fin none .ready true rfl rfl q4.1 q4.2
         | ret => exact fin (some .ret) .done false rfl rfl q4.1 q4.2
         | exit i => exact fin (some (.exit i)) .done false rfl rfl q4.1 q4.2
         | goto i => exact q4.elim
         | panic ch => exact q4.elim
         | outgrown => exact q4.elim
        | exit i => exact g4.elim
        | goto i => exact g4.elim
        | ret => exact g4.elim
        | panic ch => exact g4.elim
        | outgrown => exact g4.elim
       ·obtain ⟨b, hb2, fn2, tmps2, as2, bo2, hy2, hround2⟩ := hE γ2 w2 W2 r vs ws K hO hvs hy
        exact ⟨b, hb2, fn2, tmps2, as2, bo2, hy2, hround2.mono (fun e w' hq => back (fun _ _ hk => hk) hq)⟩
      obtain ⟨⟨fn', code', hf1, hf2, hf3⟩, hcall⟩ := h (E.inner γ1 W1.nx W.nx Y) rfl rfl (fun vs W2 K hr => .inl ⟨rfl, K, fun _ _ hk => hk, by rw [hY]; exact hr⟩) (fun r vs W2 K hr hy => .inr ⟨hr, hy⟩)
      rw [hW1e] at hcall
      have hcs' : RelL γ1 (cap.map W.frz) cs := RelL.mono hS.w.bd hle _ _ (frz_rels hS.w hcs)
      have hrun := hcall hE' γ1 w1 (.func (.yield (w.heap.size + 1)) #[] #[] :: cs) hW1' ⟨_, _, rfl, ⟨_, hob, rfl⟩, hcs'⟩
      refine ⟨w.heap.size + 1, [coll w.heap.size], w1, { target := .fn (.func gf) cs.toArray, args := #[.func (.yield (w.heap.size + 1)) #[] #[]] }, w1, gf, #[.func (.yield (w.heap.size + 1)) #[] #[]] ++ cs.toArray, w1, ?_, ?_, fun _ _ => trivial, ?_, fun hx => (by cases hx), ?_⟩
      ·rw [← hw1, htok]; exact run_enterLoop_outer _ _ _ _ _
      ·simp only [resolve, hgval]
       simp [go_sem]
      ·have he : (callFunc gf (Value.func (.yield (w.heap.size + 1)) #[] #[] :: cs).toArray).run E.P w1 = .ok (.enter gf (Value.func (.yield (w.heap.size + 1)) #[] #[] :: cs).toArray) w1 := by
        have hf1' : E.P.funcs[gf]? = some fn' := hf1
        simp [callFunc, hf1', hf2, hf3]
       simp [invoke, go_sem, he]
      ·refine calls_fr (ρ := none) ?_
       have hargs : (Value.func (.yield (w.heap.size + 1)) #[] #[] :: cs).toArray = #[.func (.yield (w.heap.size + 1)) #[] #[]] ++ cs.toArray := by apply Array.ext'; simp
       rw [hargs] at hrun
       refine hrun.mono ?_
       rintro e w2 ⟨v, γ2, X, W2, rfl, g1, g2, g3, g4, g5⟩
       obtain ⟨st, pend, ex, hget, hst, hq, hpe⟩ := doneQ_get g5
       have hO := g3.outer hext hn1
       obtain ⟨b, hb2, hh2, hset⟩ := hO.setLoop (st' := .exhausted) (pend' := pend) hget
       have htk5 : γ2.tk W.nx = tok := (g1.tk W.nx (by omega)).trans htk1
       rw [htk5] at hh2 hset
       have hbe : b = w.heap.size + 1 := by
        have h3 := g1.obj W.nx (by omega)
        rw [h3, hob] at hb2; cases hb2; rfl
       subst hbe
       have hle2 : G.le W.nx γ γ2 := hle.trans g1 (by omega)
       have hF : RelF γ2 h0 n { a with defers := [coll w.heap.size] ++ a.defers } A := by
        have hm := hS.fr.mono hS.w.bd hle2
        obtain ⟨ds, d1, d2, d3⟩ := hm.defers
        have hold : ∀ D, γ.dfr D = true → D ≠ w.heap.size := fun D hD e => by have := dfr_lt hS.w hD; omega
        refine ⟨hm.size, ⟨w.heap.size :: ds, by rw [d1]; rfl, List.nodup_cons.2 ⟨fun hmem => ?_, d2⟩, fun D hD => ?_⟩, hm.base, hm.slot⟩
        ·obtain ⟨ds0, c1, _, c3⟩ := hS.fr.defers
         rw [c1] at d1
         have hcoll : ∀ (l l' : List Nat), l.map coll = l'.map coll → l = l' := by
          intro l
          induction l with
          | nil => intro l' h; cases l' with
           | nil => rfl
           | cons => simp at h
          | cons x l ih => intro l' h; cases l' with
           | nil => simp at h
           | cons y l' =>
            simp only [mcs, List.cons.injEq, coll, Deferred.mk.injEq, Target.collected.injEq, and_true] at h
            rw [h.1, ih l' h.2]
         rw [← hcoll _ _ d1] at hmem
         exact hold _ (c3 _ hmem).1 rfl
        ·rcases List.mem_cons.1 hD with rfl | hD
         ·refine ⟨g1.dfr _ hdfr, ?_⟩
          cases hh : h0 w.heap.size with
          | false => rfl
          | true => exact absurd rfl (hold _ (hS.fr.base _ hh))
         ·exact d3 D hD
       have hLift : Lift E h0 n γ W.nx Q ex { a with defers := [coll w.heap.size] ++ a.defers } (w2.putObj (w.heap.size + 1) (.loop { tok with state := .exhausted, pending := pend })) :=
        ⟨γ2, A, _, hle2, by show W.nx ≤ W2.nx; omega, ⟨hF, hset⟩, hq⟩
       refine ⟨_, _, run_endLoop hh2 hst, ?_⟩
       rcases hpe with ⟨rfl, rfl⟩ | ⟨rfl, rfl⟩ | ⟨i, rfl, rfl⟩
       ·exact hLift
       ·exact wpIn_ret hLift
       ·exact wpIn_exit hLift
     ·exact h.elim
    ·cases hc
   ·cases hc
  ·cases hc
 | scope x ih =>
  intro c top ex ρ hc ht Q h0 γ a w A W h hS
  simp only [compC] at hc
  refine Go.wpIn_mono (wpIn_scope' (ih hc ht (awp_ng (Q' := fun e A W => (∀ l, e ≠ .goto l) ∧ Q e A W) c (fun _ _ _ hq hn => ⟨hn, hq⟩) h) hS) fun l a w hl => ?_) fun e a w hl => ?_
  ·obtain ⟨_, _, _, _, _, _, h⟩ := hl; exact h.1 l rfl
  ·obtain ⟨γ', A', W', g1, g2, g3, g4⟩ := hl; exact ⟨γ', A', W', g1, g2, g3, g4.2⟩
 | label l =>
  intro c top ex ρ hc ht Q h0 γ a w A W h hS
  simp only [compC, Option.some.injEq] at hc
  subst hc
  exact wpIn_label ⟨γ, A, W, G.le.refl _ _, lr _, hS, h⟩
 | goto => intro c top ex ρ hc; simp [compC] at hc
 | refuse => intro c top ex ρ hc; simp [compC] at hc
inductive RT where
 | tmp (t : Nat)
 | cell (t : Nat) (agg : Bool) (s : Nat)
def compR (P : Program) : List ResultVar → Option (List RT)
 | [] => some []
 | .tmp t :: r => (compR P r).map (RT.tmp t :: ·)
 | .cell t ty :: r => match isAggT P ty, sizeT P ty, compR P r with
  | some g, some s, some rs => some (RT.cell t g s :: rs)
  | _, _, _ => none
def RT.ev (A : AFr) (W : AW) : RT → Option V
 | .tmp t => (A t).map W.frz
 | .cell t g s => match A t with
  | some p => (rsem (.load g s) [p] W).map W.frz
  | none => none
def resL (A : AFr) (W : AW) : List RT → Option (List V)
 | [] => some []
 | r :: rs => match r.ev A W, resL A W rs with
  | some v, some vs => some (v :: vs)
  | _, _ => none
def resV (A : AFr) (W : AW) (rs : List RT) : Option V :=
 match resL A W rs with
 | some [v] => some v
 | some vs => some (.tuple vs)
 | none => none
structure WeakV (X : V) (W W' : AW) : Prop where
 bel : W'.nx = W.nx ∨ X.bel W'.nx = true
 sub : ∀ r o, W'.get r = some o → W.get r = some o
 lt : W'.nx = W.nx ∨ ∀ r o, W'.get r = some o → r < W'.nx
 obel : W'.nx = W.nx ∨ ∀ r o, W'.get r = some o → o.bel W'.nx = true
inductive RetV : V → AW → V → AW → Prop where
 | weak {X : V} {W W' : AW} : WeakV X W W' → RetV X W X W'
 | frz {r len s : Nat} {cells : List V} {W W' : AW} : W.get r = some (.vec s cells) → cells.length = len * s → 0 < len → 0 < s → cells.all V.one = true →
   WeakV (.sl s false (chunks s len cells)) (W.drop r) W' → RetV (.slr r 0 len s) W (.sl s false (chunks s len cells)) W'
  | frzd {r len s : Nat} {cells : List V} {W W' : AW} : W.get r = some (.vec s cells) → cells.length = len * s → 0 < len → 0 < s → (cells.map W.frz).all V.one = true →
   WeakV (.sl s false (chunks s len (cells.map W.frz))) (W.drop r) W' → RetV (.slr r 0 len s) W (.sl s false (chunks s len (cells.map W.frz))) W'
theorem RetV.sound {X0 X : V} {W' : AW} {v : Value} (h : RetV X0 W X W') (hW : RelW E γ w W) (hr : RelV γ X0 v) : ∃ γ' W1, G.le W.nx γ γ' ∧ RelW E γ' w W1 ∧ W1.nx = W.nx ∧ RelV γ' X v ∧ WeakV X W1 W' := by
 cases h with
 | weak hw => exact ⟨γ, W, G.le.refl _ _, hW, rfl, hr, hw⟩
 | frz hg hlen h0 hs ho hw =>
  rename_i r len s cells
  obtain ⟨b, a, hb, rfl, hcap, ha, h48⟩ := hr
  obtain rfl := ha (by omega)
  obtain ⟨b', pre, c, t, e, hb', hheap, hp, hl, hz⟩ := hW.obj r _ hg
  rw [hb] at hb'; cases hb'
  have hcl := hl.length
  obtain ⟨q1, q2⟩ := hW.freeze (l := pre ++ c) hg hb hheap
  refine ⟨_, _, q2, q1, rfl, ?_, hw⟩
  have hch := chunks_rel hs len hl (by omega) (by rw [List.take_of_length_le (by omega)]; exact ho)
  rw [List.take_of_length_le (by omega)] at hch
  refine ⟨b, pre, c, [], (pre ++ c ++ t).length, (γ.vb r).2, by simp [G.addCon], RelE.mono hW.bd q2 _ _ _ hch, ?_, by rw [chunks_len]; omega, by simp, by rw [chunks_len]; exact h48⟩
  rw [chunks_len]
  simp [hp]
 | frzd hg hlen h0 hs ho hw =>
  rename_i r len s cells
  obtain ⟨b, a, hb, rfl, hcap, ha, h48⟩ := hr
  obtain rfl := ha (by omega)
  obtain ⟨b', pre, c, t, e, hb', hheap, hp, hl, hz⟩ := hW.obj r _ hg
  rw [hb] at hb'; cases hb'
  have hl := frz_rels hW hl
  have hlen : (cells.map W.frz).length = len * s := by rw [lmp]; exact hlen
  have hcl := hl.length
  obtain ⟨q1, q2⟩ := hW.freeze (l := pre ++ c) hg hb hheap
  refine ⟨_, _, q2, q1, rfl, ?_, hw⟩
  have hch := chunks_rel hs len hl (by omega) (by rw [List.take_of_length_le (by omega)]; exact ho)
  rw [List.take_of_length_le (by omega)] at hch
  refine ⟨b, pre, c, [], (pre ++ c ++ t).length, (γ.vb r).2, by simp [G.addCon], RelE.mono hW.bd q2 _ _ _ hch, ?_, by rw [chunks_len]; omega, by simp, by rw [chunks_len]; exact h48⟩
  rw [chunks_len]
  simp [hp]
def retQ (rs : List RT) (lo : Nat) (Q : V → AW → Prop) : Exit → AFr → AW → Prop
 | .normal, A, W | .ret, A, W => ∃ X0, resV A W rs = some X0 ∧ ∃ X W', RetV X0 W X W' ∧ lo ≤ W'.nx ∧ Q X W'
 | _, _, _ => False
theorem load_sound {t : TypeId} {g : Bool} {s : Nat} {X Y : V} {v : Value} (hg : isAggT E.P t = some g) (hs : sizeT E.P t = some s) (hr : RelV γ X v) (hW : RelW E γ w W)
  (h : rsem (.load g s) [X] W = some Y) : ∃ p u, v = .pointer (some p) ∧ (loadVar t p).run E.P w = .ok u w ∧ RelV γ Y u := by
 cases X
 case ptr r off =>
  simp only [rsem] at h
  split at h
  ·rename_i cells hobj
   obtain ⟨b, hb, rfl⟩ := hr
   obtain ⟨b', l, e, hb', hheap, hl⟩ := hW.obj r _ hobj
   rw [hb] at hb'; cases hb'
   obtain ⟨u, hu, hru⟩ := run_loadVar_block (P := E.P) (pre := []) (post := []) hg hs hheap (by simp) hl h
   exact ⟨_, u, rfl, by simpa using hu, hru⟩
  ·cases h
 case vptr r off =>
  simp only [rsem] at h
  split at h
  ·rename_i s' cells hobj
   obtain ⟨b, hb, rfl⟩ := hr
   obtain ⟨b', pre, c, t', e, hb', hheap, hp, hl, _⟩ := hW.obj r _ hobj
   rw [hb] at hb'; cases hb'
   obtain ⟨u, hu, hru⟩ := run_loadVar_block (P := E.P) (pre := pre) (post := t') hg hs hheap rfl hl h
   rw [hp] at hu
   exact ⟨_, u, rfl, by simpa using hu, hru⟩
  ·cases h
 case cptr cells =>
  simp only [rsem, tsem] at h
  obtain ⟨b, pre, l, post, sz, hc, hl, rfl⟩ := hr
  obtain ⟨t', e, fz, hheap, _⟩ := hW.con b _ sz hc
  obtain ⟨u, hu, hru⟩ := run_loadVar_block (P := E.P) (pre := pre) (post := post ++ t') hg hs hheap (by simp) hl h
  exact ⟨_, u, rfl, by simpa using hu, hru⟩
 all_goals simp [rsem, tsem] at h
def resOne (tmps : Array Value) : ResultVar → Sem Value
 | .tmp t => pure (tmps.getD t undef)
 | .cell x t => do loadVar t (← asAddr (tmps.getD x undef))
theorem resL_sound (hS : St E h0 n γ a w A W) : ∀ {l : List ResultVar} {rs : List RT} {vs : List V}, compR E.P l = some rs → resL A W rs = some vs →
  ∃ ws, (l.mapM (resOne a.tmps)).run E.P w = .ok ws w ∧ RelL γ vs ws
 | [], rs, vs, h, hv => by
  simp only [compR, Option.some.injEq] at h
  subst h
  simp only [resL, Option.some.injEq] at hv
  subst hv
  exact ⟨[], by simp, rfl⟩
 | .tmp t :: l, rs, vs, h, hv => by
  simp only [compR, Option.map_eq_some_iff] at h
  obtain ⟨rs', h', rfl⟩ := h
  simp only [resL] at hv
  split at hv
  ·rename_i v us h1 h2
   cases hv
   simp only [RT.ev, Option.map_eq_some_iff] at h1
   obtain ⟨v0, hv0, rfl⟩ := h1
   obtain ⟨x, e1, e2⟩ := hS.fr.slot t v0 hv0
   obtain ⟨ws, g1, g2⟩ := resL_sound hS h' h2
   refine ⟨x :: ws, ?_, x, ws, rfl, frz_rel hS.w e2, g2⟩
   have h0 : (resOne a.tmps (.tmp t)).run E.P w = .ok x w := by simp [resOne, Array.getD_eq_getD_getElem?, e1]
   rw [List.mapM_cons, Sem.run_bind, h0, Result.andThen_ok, Sem.run_bind, g1]
   rfl
  ·cases hv
 | .cell t ty :: l, rs, vs, h, hv => by
  simp only [compR] at h
  split at h
  ·rename_i g s rs' h1 h2 h3
   cases h
   simp only [resL] at hv
   split at hv
   ·rename_i v us q1 q2
    cases hv
    simp only [RT.ev] at q1
    split at q1
    ·rename_i p hp
     simp only [Option.map_eq_some_iff] at q1
     obtain ⟨v0, hv0, rfl⟩ := q1
     obtain ⟨x, e1, e2⟩ := hS.fr.slot t p hp
     obtain ⟨pa, u, rfl, hrun, hrel⟩ := load_sound h1 h2 e2 hS.w hv0
     obtain ⟨ws, g1, g2⟩ := resL_sound hS h3 q2
     refine ⟨u :: ws, ?_, u, ws, rfl, frz_rel hS.w hrel, g2⟩
     have h0 : (resOne a.tmps (.cell t ty)).run E.P w = .ok u w := by simp [resOne, Array.getD_eq_getD_getElem?, e1, asAddr, hrun]
     rw [List.mapM_cons, Sem.run_bind, h0, Result.andThen_ok, Sem.run_bind, g1]
     rfl
    ·cases q1
   ·cases hv
  ·cases h
theorem resV_sound (hS : St E h0 n γ a w A W) {fn : Func} {rs : List RT} {X : V} (h : compR E.P fn.results.toList = some rs) (hv : resV A W rs = some X) : ∃ v, (results fn a.tmps).run E.P w = .ok v w ∧ RelV γ X v := by
 unfold resV at hv
 have hres : ∀ ws, (fn.results.toList.mapM (resOne a.tmps)).run E.P w = .ok ws w → (results fn a.tmps).run E.P w = .ok (if h : ws.length = 1 then ws[0] else .tuple ws.toArray) w := by
  intro ws hws
  have hm : (fn.results.mapM (resOne a.tmps)).run E.P w = .ok ws.toArray w := by
   have : fn.results = fn.results.toList.toArray := by simp
   rw [this, List.mapM_toArray]
   simp [hws]
  have hun : results fn a.tmps = (do let vs ← fn.results.mapM (resOne a.tmps); pure (if h : vs.size = 1 then vs[0] else .tuple vs)) := by
   unfold results
   congr 1
  rw [hun, Sem.run_bind, hm]
  simp
 split at hv
 ·rename_i v hl
  cases hv
  obtain ⟨ws, g1, y, l', rfl, g2, g3⟩ := resL_sound hS h hl
  simp only [RelL] at g3
  subst g3
  exact ⟨y, by simpa using hres _ g1, g2⟩
 ·rename_i vs hne hl
  cases hv
  obtain ⟨ws, g1, g2⟩ := resL_sound hS h hl
  refine ⟨.tuple ws.toArray, ?_, ws, rfl, g2⟩
  rw [hres _ g1, dif_neg]
  intro h1
  have := g2.length
  match vs, hne, this with
  | [x], hne, _ => exact hne x rfl
  | [], _, e => rw [e] at h1; simp at h1
  | x :: y :: r, _, e => rw [e] at h1; simp at h1
 ·cases hv
mutual
def V.lens : V → Prop
 | .sl _ _ xs => xs.length < 2 ^ 48 ∧ V.lensL xs
 | .slr _ _ len _ => len < 2 ^ 48
 | .agg cs => V.lensL cs
 | .cptr cs => V.lensL cs
 | .tuple vs => V.lensL vs
 | _ => True
def V.lensL : List V → Prop
 | [] => True
 | x :: xs => x.lens ∧ V.lensL xs
end
mutual
theorem RelV.lens : ∀ (x : V) (v : Value), RelV γ x v → x.lens
 | .slr _ _ _ _, _, ⟨_, _, _, _, _, _, h⟩ => h
 | .sl s full xs, v, h => by obtain ⟨b, pre, l, post, sz, cap, hc, hl, _, _, _, h48⟩ := h; exact ⟨h48, RelE.lens s xs l hl⟩
 | .agg cs, v, h => by obtain ⟨vs, _, hl⟩ := h; exact RelL.lens cs vs hl
 | .cptr cs, v, h => by obtain ⟨b, pre, l, post, sz, hc, hl, _⟩ := h; exact RelL.lens cs l hl
 | .tuple vs, v, h => by obtain ⟨ws, _, hl⟩ := h; exact RelL.lens vs ws hl
 | .bool _, _, _ | .int _ _, _, _ | .str _, _, _ | .nilptr, _, _ | .ptr _ _, _, _ | .nilsl, _, _ | .buf _ _ _ _, _, _ | .vptr _ _, _, _ | .slz, _, _ | .nilmap, _, _ | .map _, _, _ | .fn _ _ _, _, _ | .nilfn, _, _ | .nilif, _, _ | .iface _ _, _, _ | .yld _, _, _ => trivial
theorem RelL.lens : ∀ (xs : List V) (l : List Value), RelL γ xs l → V.lensL xs
 | [], _, _ => trivial
 | x :: xs, _, ⟨v, l', _, h1, h2⟩ => ⟨RelV.lens x v h1, RelL.lens xs l' h2⟩
theorem RelE.lens : ∀ (s : Nat) (xs : List V) (l : List Value), RelE γ s xs l → V.lensL xs
 | _, [], _, _ => trivial
 | s, x :: xs, _, ⟨v, l', _, _, h1, h2⟩ => ⟨RelV.lens x v h1, RelE.lens s xs l' h2⟩
end
def argsA (vs : List V) : AFr := fun i => vs[i]?
def AW.ok (W : AW) : Prop := ∀ r o, W.get r = some o → r < W.nx ∧ o.bel W.nx = true
theorem shut_all {fn : Func} {rs : List RT} {X : V} {R : Ending → World → Prop} (hr : compR E.P fn.results.toList = some rs) (hres : resV A W rs = some X) : ∀ (ds : List Nat) {w : World}, ds.Nodup → (∀ D ∈ ds, w.heap[D]? = some (.deferred (some [])) ∧ E.B ≤ D ∧ γ.dfr D = false) → RelW E γ w W →
  (∀ i v, A i = some v → ∃ x, a.tmps[i]? = some x ∧ RelV γ v x) → a.tmps.size = n → (∀ v w', RelW E γ w' W → RelV γ X v → R (.returned v) w') → LeavesInM (Fr none) 0 E.P fn a.tmps R (ds.map coll) .returning w
 | [], w, _, _, hW, hsl, hsz, hfin => by
  have hS : St E (fun _ => false) n γ { a with defers := [] } w A W := ⟨⟨hsz, ⟨[], rfl, List.nodup_nil, by simp⟩, by simp, hsl⟩, hW⟩
  obtain ⟨v, hv, hrel⟩ := resV_sound hS hr hres
  exact ⟨v, hv, hfin v w hW hrel⟩
 | D :: ds, w, hnd, hD, hW, hsl, hsz, hfin => by
  obtain ⟨h1, h2, h3⟩ := hD D (by simp)
  refine ⟨by simp, .inl ⟨D, _, rfl, run_takeDeferred h1, ?_⟩⟩
  refine shut_all hr hres ds (List.nodup_cons.1 hnd).2 (fun D' hD' => ?_) (hW.shut h1 h2 h3 _) hsl hsz hfin
  obtain ⟨g1, g2, g3⟩ := hD D' (List.mem_cons_of_mem _ hD')
  have : D' ≠ D := fun e => (List.nodup_cons.1 hnd).1 (e ▸ hD')
  exact ⟨(World.putObj_heap_other this).trans g1, g2, g3⟩
theorem ACalls.intro {ex : Md} {f : FuncId} {fn : Func} {code : Code} {c : AC} {rs : List RT} {vs : List V} {Q : V → AW → Prop} (hf : E.P.funcs[f]? = some fn) (hb : fn.body = some code) (hname : fn.name ≠ "runtime.NumGoroutine")
  (hc : compC E.P fn.ntmps true ex code = some c) (hr : compR E.P fn.results.toList = some rs) (hn : vs.length ≤ fn.ntmps) (h : V.lensL vs → W.ok → awp E c (retQ rs W.nx Q) (argsA vs) W) : ACalls E f vs W Q := by
 refine ⟨⟨fn, code, hf, hb, hname⟩, fun hE γ w ws hW hws => ?_⟩
 have hwl := hws.length
 have hS : St E γ.dfr fn.ntmps γ { tmps := ws.toArray ++ Array.replicate (fn.ntmps - ws.toArray.size) undef, defers := [] } w (argsA vs) W := by
  refine ⟨⟨by simp; omega, ⟨[], rfl, List.nodup_nil, by simp⟩, fun _ hb => hb, fun i v hv => ?_⟩, hW⟩
  obtain ⟨x, h1, h2⟩ := hws.get hv
  have hi : i < ws.length := (List.getElem?_eq_some_iff.1 h1).1
  exact ⟨x, by rw [Array.getElem?_append_left (by simpa using hi)]; simpa using h1, h2⟩
 refine (callsIn_wide (n := 0)).1 (callsIn_of_wp_marks (F := Fr none) hf hb trivial (Go.wpIn_mono (awp_sound hE hc (fun _ => rfl) (h (RelL.lens _ _ hws) (fun r o ho => ⟨hW.lt r o ho, hW.obel r o ho⟩)) hS) ?_))
 have fin : ∀ e a' w', (e = .normal ∨ e = .ret) → Lift E γ.dfr fn.ntmps γ W.nx (retQ rs W.nx Q) e a' w' → LeavesInM (Fr none) 0 E.P fn a'.tmps (fun e w' => ∃ v γ' X W', e = .returned v ∧ G.le W.nx γ γ' ∧ W.nx ≤ W'.nx ∧ RelW E γ' w' W' ∧ RelV γ' X v ∧ Q X W') a'.defers .returning w' := by
  rintro e a' w' he ⟨γ', A', W', g1, g2, g3, g4⟩
  obtain ⟨X0, hX, X, W2, hw0, hlo, hq⟩ : ∃ X0, resV A' W' rs = some X0 ∧ ∃ X W2, RetV X0 W' X W2 ∧ W.nx ≤ W2.nx ∧ Q X W2 := by rcases he with rfl | rfl <;> exact g4
  obtain ⟨ds, d1, d2, d3⟩ := g3.fr.defers
  rw [d1]
  have hlt : ∀ i v, A' i = some v → v.bel W'.nx = true := fun i v hv => by
   obtain ⟨x, _, h2⟩ := g3.fr.slot i v hv
   exact RelV.bel g3.w.bd _ _ h2
  have hcut : RelW E (γ'.cut W'.nx ds) w' W' := g3.w.cut (fun _ _ h => h) g3.w.lt g3.w.obel g3.w.n0 ds (fun b hb => by
   cases hh : E.γ0.dfr b with
   | false => rfl
   | true => have := hW.ext.dfr b hh; rw [(d3 b hb).2] at this; cases this)
  refine shut_all (W := W') (γ := γ'.cut W'.nx ds) (A := A') (n := fn.ntmps) hr hX ds d2 (fun D hD => ⟨g3.w.dfr D (d3 D hD).1, g3.w.dfrB D (d3 D hD).1, by simp [G.cut, hD]⟩) hcut (fun i v hv => by
   obtain ⟨x, h1, h2⟩ := g3.fr.slot i v hv
   exact ⟨x, h1, RelV.cut _ _ _ (hlt i v hv) h2⟩) g3.fr.size ?_
  intro v w'' hW0 hrel0
  have hle0 : G.le W.nx γ (γ'.cut W'.nx ds) := G.le_cut g1 g2 (fun b hb => (d3 b hb).2)
  obtain ⟨γ5, W5, hle5, hW'', hnx5, hrel, hw⟩ := hw0.sound hW0 hrel0
  have hle' : G.le W.nx γ γ5 := hle0.trans hle5 g2
  exact ⟨v, γ5.cut W2.nx [], X, W2, rfl, G.le_cut hle' hlo (by simp), hlo, hW''.cut hw.sub (hw.lt.elim (fun e r o ho => by rw [e]; exact hW''.lt r o (hw.sub r o ho)) id) (hw.obel.elim (fun e r o ho => by rw [e]; exact hW''.obel r o (hw.sub r o ho)) id) (Nat.le_trans hW.n0 hlo), RelV.cut _ _ _ (hw.bel.elim (fun e => by rw [e]; exact RelV.bel hW''.bd _ _ hrel) id) hrel, hq⟩
 intro e a' w' hl
 cases e with
 | normal => exact fin _ _ _ (.inl rfl) hl
 | ret => exact fin _ _ _ (.inr rfl) hl
 | exit id => obtain ⟨_, _, _, _, _, _, h⟩ := hl; exact h.elim
 | goto l => obtain ⟨_, _, _, _, _, _, h⟩ := hl; exact h.elim
 | panic ch => obtain ⟨_, _, _, _, _, _, h⟩ := hl; exact h.elim
 | outgrown => obtain ⟨_, _, _, _, _, _, h⟩ := hl; exact h.elim
end Go.AL
namespace Go.AL
open RowKit
def compF (P : Program) (fn : Func) (ex : Md := ⟨false, false, []⟩) : Option (AC × List RT × Nat) :=
 if fn.name = "runtime.NumGoroutine" then none else
 match fn.body with
 | none => none
 | some b => match compC P fn.ntmps true ex b, compR P fn.results.toList with
  | some c, some rs => some (c, rs, fn.ntmps)
  | _, _ => none
theorem ACalls.of {E : Env} {W : AW} {P : Program} {f : FuncId} {fn : Func} {ex : Md} {c : AC} {rs : List RT} {n : Nat} {vs : List V} {Q : V → AW → Prop} (hP : E.P = P) (hf : P.funcs[f]? = some fn) (hc : compF P fn ex = some (c, rs, n))
  (hn : vs.length ≤ n) (h : V.lensL vs → W.ok → awp E c (retQ rs W.nx Q) (argsA vs) W) : ACalls E f vs W Q := by
 subst hP
 unfold compF at hc
 split at hc
 ·cases hc
 ·rename_i hname
  split at hc
  ·cases hc
  ·rename_i b hb
   split at hc
   ·rename_i c' rs' h1 h2
    cases hc
    exact ACalls.intro hf hb hname h1 h2 hn h
   ·cases hc
section
variable {E : Env} {A : AFr} {W : AW} {K : V → AW → Prop} {Kf : AFr → AW → Prop} {Q : Exit → AFr → AW → Prop}
theorem awp_cond (c : AX) (x y : AC) : awp E (.cond c x y) Q A W = (match c.ev E A with
  | some (.bool t) => (t = true → awp E x Q A W) ∧ (t = false → awp E y Q A W)
  | _ => False) := rfl
theorem awp_rangef (g : AX) (ps : List Nat) (asg body : AC) : awp E (.rangef g ps asg body) Q A W = (match g.ev E A with
  | some (.fn (.func gf) [] cap) => ∀ (E' : Env), E'.P = E.P → E'.glob = E.glob →
    (∀ vs W1 K, roundY W.nx ps A (awp E asg) (awp E body) vs W1 K → E'.yield W.nx vs W1 K) → (∀ r vs W1 K, r ≠ W.nx → E.yield r vs W1 K → E'.yield r vs W1 K) →
    ACalls E' gf (.yld W.nx :: cap.map W.frz) (W.alloc (.loop .ready none)) (fun _ W' => doneQ W.nx Q A W')
  | _ => False) := rfl
theorem exec1_plain (d : Option Nat) (k : AK) (xs : List AX) : exec1 E ⟨d, k, xs, none⟩ Kf A W = (match evs E A xs with
  | some vs => sem E k vs W (putK d A Kf)
  | none => False) := rfl
theorem exec1_guard (d : Option Nat) (k : AK) (xs : List AX) (t : Nat) (b : Bool) : exec1 E ⟨d, k, xs, some (t, b)⟩ Kf A W = (match A t with
  | some (.bool c) => (c = b → (match evs E A xs with
   | some vs => sem E k vs W (putK d A Kf)
   | none => False)) ∧ (c = !b → Kf (A.putd d .undef) W)
  | some (.tuple []) => Kf (A.putd d .undef) W
  | _ => False) := rfl
end
end Go.AL
