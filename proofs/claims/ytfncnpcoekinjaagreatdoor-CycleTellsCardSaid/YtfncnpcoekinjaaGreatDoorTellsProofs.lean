/- The law's statement CycleTellsCardSaid: it answers true, whatever it is handed, and each argument reads as it did. Conditions: those of the given card (package variables as the program's text lays them). -/
import Derived.Test.YtfncnpcoekinjaaGreatDoorRows
import Derived.Test.YtfncnpcoekinjaaGreatDoorTie
import Derived.Test.YtfncnpcoekinjaaGreatDoorCards
import Derived.Test.YtfncnpcoekinjaaGreatDoorBg
import Derived.LaidSub
import Derived.ChangeSame
import Derived.ChangeVars
import Derived.JoinedOf
import Derived.RowKit
import Derived.RowKitTokens
import Derived.LaidLaws
import Derived.LaidMore
import Derived.OpenShut
import Derived.ProofKit
import Derived.Stop.Joined
import Derived.SevenTiedAt
set_option maxRecDepth 100000
namespace Go.Proofs.YtfncnpcoekinjaaGreatDoor
open Go Go.ChangeShapes Go.WideShapes Go.ChangeAt Go.WideMaps Go.WideElems Go.RowKit

namespace CycleTellsP
theorem own : ownKnob Tryz.prog.godebug = none := by kernel_rfl
theorem pars : Tryz.f6.params = #[22, 5, 58] := by kernel_rfl
theorem ress : Tryz.f6.resultTypes = #[4] := by kernel_rfl
theorem bool4 : Tryz.prog.underlying 4 = some .bool := by kernel_rfl
theorem shape : (AL.S.Sh.sl AL.S.shDe).tyB Tryz.prog 22 = true := by kernel_rfl
theorem shape2 : (AL.S.Sh.int .u8).tyB Tryz.prog 5 = true := by kernel_rfl
theorem shape3 : AL.S.shC2.Ty Tryz.prog 58 := by
  have he : AL.S.shCy.Ty Tryz.prog 34 := AL.S.Sh.ty_of (by kernel_rfl)
  exact .inr ⟨2, AL.S.shCy, 34, rfl, by kernel_rfl, by kernel_rfl, he, he, trivial⟩
theorem laidOut : laidOutB Tryz.prog = true := by kernel_rfl
theorem rowed : mapsRowed Tryz.prog = true := by kernel_rfl
theorem full : ((List.range Tryz.prog.types.size).all fun t => match Tryz.prog.underlying t with | some (.slice e) => decide (0 < Tryz.prog.cellsOf e) | _ => true) = true := by kernel_rfl
theorem small : ∀ t ∈ ([22, 5, 58] : List TypeId), t < Tryz.prog.types.size := by
  intro t ht
  rcases List.mem_cons.1 ht with rfl | ht
  · exact of_decide_eq_true (by kernel_rfl)
  · rcases List.mem_cons.1 ht with rfl | ht
    · exact of_decide_eq_true (by kernel_rfl)
    · rw [List.mem_singleton.1 ht]
      exact of_decide_eq_true (by kernel_rfl)
theorem okWide_array {P : Program} {w : World} {r : Reach} {base : Nat} {t : TypeId} {v : Value} {n : Nat} {e : TypeId} (ht : P.underlying t = some (.array n e)) (h : Value.okWide P w r base t v) : ∃ cs, v = .agg cs ∧ cs.size = P.cellsOf t := by
  simp only [Value.okWide, ht] at h
  obtain ⟨cs, h1, h2, _⟩ := h
  exact ⟨cs, h1, h2⟩
theorem door_met (os : Os) (args : Array Value) : laidMetH Tryz.prog Rows.cycleTellsRow.laid ((World.doorLaid Tryz.prog 400 os).forCall (fun _ _ => 0) ⟨#[], args, []⟩).memory :=
  laidMetH_of_parts3 (fuel := 8) (laidMet_of_run' 8 (by kernel_rfl) (by kernel_rfl)) (by kernel_rfl) (by kernel_rfl)

section
variable {H : Type} {enc : TypeId × Value → H} {P : Program}
theorem post_of_below {f : Func} {s : ChangeSpec} {apart fresh handsOn again : Bool} {W W' : World} {args : Array Value} {v : Value} {ds gs : List (DataW H)} {before pa pv : List MemPlace}
    (hW : DataW.Whole enc P f.params.toList s.vars apart W args.toList ds gs before)
    (hres : ∀ (b : Nat) (sp : Nat → Bool) (hd : Bool), DataW.TrodAll enc P W' b sp hd f.resultTypes.toList (v.resultList f.resultTypes.size) (s.fn H (ds ++ gs)).results [])
    (hargs : ∀ sp : Nat → Bool, (∀ p ∈ before, sp p.block = true) → DataW.TrodAll enc P W' 0 sp true f.params.toList args.toList (s.fn H (ds ++ gs)).args pa)
    (hvars : ∀ sp : Nat → Bool, (∀ p ∈ before, sp p.block = true) → DataW.TrodVars enc P W' sp s.vars (s.fn H (ds ++ gs)).vars pv)
    (hps : before = pa ++ pv) (hb : Below W.heap.size W W')
    (hok : ∀ (j : Nat) (t : TypeId) (r : Value), f.resultTypes[j]? = some t → (v.resultList f.resultTypes.size)[j]? = some r → Value.okWide P W' .any 0 t r) :
    s.post enc P f apart fresh handsOn again W args v W' := by
  have hlt : ∀ p ∈ before, p.block < W.heap.size := fun p hp => hW.lt p hp
  have hold : ∀ p ∈ before, (fun b => decide (b < W.heap.size)) p.block = true := fun p hp => by simpa using hlt p hp
  refine ⟨ds, gs, before, [], pa, pv, hW, hres _ _ _, hargs _ hold, hvars _ hold, World.keptBut_mono (fun p hp => ⟨hp, ?_⟩) (hb.frame (· ∈ before)), fun _ => ?_⟩
  · rw [hps, List.mem_append] at hp
    exact Or.inr hp
  · obtain ⟨_, _, _, _, _, hz, hn⟩ := hW
    refine ⟨hok, _, _, ([] ++ pa) ++ pv, ⟨[] ++ pa, pv, trodAll_append (hargs _ (fun _ _ => rfl)) (hres _ _ _), hvars _ (fun _ _ => rfl), rfl, ?_, ?_⟩, ?_⟩
    · intro b off hp
      have hin : MemPlace.cell b off ∈ before := by rw [hps]; simpa using hp
      rw [hb.frozen (hlt _ hin)]
      exact hz b off hin
    · intro ha
      have := hn ha
      rw [hps] at this
      simpa using this
    · intro p hp _
      rw [hps]
      simpa using hp
/-- What was read before can be read again. -/
theorem again_of {W W' : World} (hl : laidOutB P = true) (hm : mapsRowed P = true) (hz : ∀ t e, t < P.types.size → P.underlying t = some (.slice e) → 0 < P.cellsOf e) (hb : Below W.heap.size W W') : ∀ {ts : List TypeId} {vs : List Value} {ds : List (DataW H)} {ps : List MemPlace}, (∀ t ∈ ts, t < P.types.size) → DataW.TrodAll enc P W 0 (fun _ => true) true ts vs ds ps → (∀ p ∈ ps, p.block < W.heap.size) →
    ∀ sp : Nat → Bool, (∀ p ∈ ps, sp p.block = true) → DataW.TrodAll enc P W' 0 sp true ts vs ds ps
  | [], [], [], _, _, h, _ => fun _ _ => h
  | t :: ts, v :: vs, d :: ds, _, hT, ⟨p, q, ⟨n, h1⟩, h2, e⟩, hlt => fun sp hs => by
    subst e
    have h3 := DataW.trod_carry (w' := W') n t _ _ h1 fun x hx => hb.same (hlt x (List.mem_append_left _ hx))
    exact ⟨p, q, ⟨n, DataW.trod_respare (kids_rows hl hm) hz n t _ _ (hT t (by simp)) h3 fun x hx => hs x (List.mem_append_left _ hx)⟩,
      again_of hl hm hz hb (fun t ht => hT t (by simp [ht])) h2 (fun x hx => hlt x (List.mem_append_right _ hx)) sp (fun x hx => hs x (List.mem_append_right _ hx)), rfl⟩
end

/-- The table of powers of ten lies where the call begins. -/
theorem tab_of {W : World} (h : laidMetH Tryz.prog Rows.cycleTellsRow.laid W) : AL.S.TabP W := by
  have h1 := (laidMetH_iff.1 (h.filter fun x => x.1 == "internal/strconv.uint64pow10")).1
  have e : ((Rows.cycleTellsRow.laid.filter fun x => x.1 == "internal/strconv.uint64pow10").filter fun x => x.2.handleName?.isNone) = [("internal/strconv.uint64pow10", Lib.tabData .u64 Lib.pow10Tab)] := by kernel_rfl
  rw [e] at h1
  exact Lib.tabIs_of_head (g := 0) (t := 266) (e := 243) (n := 20) (by kernel_rfl) (by kernel_rfl) (by kernel_rfl) (by kernel_rfl) (by kernel_rfl) (by kernel_rfl) h1
theorem tab_pos {W : World} (h : AL.S.TabP W) : 0 < W.heap.size := by
  have hg : Tryz.prog.globalNamed "internal/strconv.uint64pow10" = some 0 := by kernel_rfl
  unfold AL.S.TabP Lib.TabIs World.var? at h
  rw [hg] at h
  rcases Nat.eq_zero_or_pos W.heap.size with h0 | h0
  · rw [Option.bind_some, Array.getElem?_eq_none (by omega)] at h
    cases h
  · exact h0
theorem walk (W : World) {a : Option Addr} {len cap : Nat} {n : Int} {ds : Array Value} {vs us zs : List AL.V} (ht : AL.S.TabP W) (h : (AL.S.Sh.sl AL.S.shDe).Is vs) (hr : AL.RelL (AL.S.gIn W) vs (Value.slice a len cap).cells.toList) (h' : (AL.S.Sh.int .u8).Is us) (hr' : AL.RelL (AL.S.gIn W) us (Value.int .u8 n).cells.toList) (h2 : AL.S.shC2.Is zs) (hr2 : AL.RelL (AL.S.gIn W) zs ds.toList) : Calls Tryz.prog 6 #[.slice a len cap, .int .u8 n, .agg ds] W fun e w' => e = .returned (.bool true) ∧ Below W.heap.size W w' := by
  obtain ⟨x, l, rfl, h1, q2, h3⟩ := AL.S.des_of h
  obtain ⟨_, _, e1, r1, r2⟩ := hr
  cases r2
  cases e1
  obtain ⟨m, rfl, hm⟩ := h'
  obtain ⟨_, _, e2, r3, r4⟩ := hr'
  cases r4
  cases e2
  cases r3
  obtain ⟨v1, v2, w1, w2, p, q, rfl, k1, k2, k3, k4, k5, k6⟩ := AL.S.c2_of h2
  exact AL.calls_inp0 (vs := [x, .int .u8 n, .agg [v1, v2, w1, w2]]) (ws := [.slice a len cap, .int .u8 n, .agg ds]) ⟨_, _, rfl, r1, _, _, rfl, rfl, _, _, rfl, ⟨ds.toList, rfl, hr2⟩, rfl⟩ (AL.S.lawTe_c rfl rfl ht (tab_pos ht) AL.AW.empty h1 q2 h3 k1 k2 k3 k4 k5 k6)

theorem lifted (os : Os) (started : os.Started) (H : Type) (enc : TypeId × Value → H) :
    ReturnsInHanded {} Tryz.checked os 6 .any (fun w args => (Rows.cycleTellsSpec.pre enc Tryz.prog Tryz.f6 [] false w args ∧ laidMetH Tryz.prog Rows.cycleTellsRow.laid w) ∧ sizedMet enc Tryz.prog Tryz.f6 (OpenSpec.ofChange Rows.cycleTellsSpec) false w args)
      (Rows.cycleTellsSpec.post enc Tryz.prog Tryz.f6 false true false false) := by
  refine returnsInHanded_of_change_and (C := Tryz.checked) (X := fun w _ => laidMetH Tryz.prog Rows.cycleTellsRow.laid w) (fun _ _ _ hh h => h.of_heap hh) own started (by kernel_rfl) Tryz.func6
    (ChangeSpec.witness_shaped (enc := enc) (C := Tryz.checked) (os := os) (X := fun w _ => laidMetH Tryz.prog Rows.cycleTellsRow.laid w) false (World.doorLaid Tryz.prog 400 os) #[.slice none 0 0, .int .u8 0, .agg #[.slice none 0 0, .slice none 0 0, .slice none 0 0, .slice none 0 0]] 8 rfl (World.shaped_of_RefB (by kernel_rfl) (by kernel_rfl)) (by kernel_rfl) (by kernel_rfl) (by kernel_rfl) (door_met os _)) ?_
  intro W base args ds gs before hval0 hW _ hsz hL _
  have hW' := hW
  have hlt : ∀ p ∈ before, p.block < W.heap.size := fun p hp => hW.lt p hp
  obtain ⟨p, q, hA0, hV, rfl, hfz, hnd⟩ := hW
  obtain ⟨rfl, rfl⟩ := trodVars_none hV
  have hA : DataW.TrodAll enc Tryz.prog W 0 (fun _ => true) true Tryz.f6.params.toList args.toList ds p := hA0
  have hA1 : DataW.TrodAll enc Tryz.prog W 0 (fun _ => true) true [22, 5, 58] args.toList ds p := by
    rw [pars] at hA; exact hA
  obtain ⟨v, v2, v3, d, d2, d3, p1, p2, p3, rfl, rfl, rfl, ⟨fuel, hd⟩, ⟨fuel2, hd2⟩, ⟨fuel3, hd3⟩⟩ := trodAll_three hA1
  have hu : ∃ te, Tryz.prog.underlying 22 = some (.slice te) := by
    obtain ⟨te, h, _⟩ := AL.S.Sh.ty_of shape
    exact ⟨te, h⟩
  obtain ⟨te, hu⟩ := hu
  obtain ⟨a, len, cap, rfl⟩ := okWide_slice hu (hval0 0 22 v (by rw [pars]; rfl) rfl)
  obtain ⟨n, rfl⟩ := okWide_int (P := Tryz.prog) (t := 5) (k := .u8) (by kernel_rfl) (hval0 1 5 v2 (by rw [pars]; rfl) rfl)
  obtain ⟨ds3, rfl, _⟩ := okWide_array (P := Tryz.prog) (t := 58) (n := 2) (e := 34) (by kernel_rfl) (hval0 2 58 v3 (by rw [pars]; rfl) rfl)
  have hws : (d.weights Tryz.prog 22).all (· ≤ reachBytes) = true ∧ (d2.weights Tryz.prog 5).all (· ≤ reachBytes) = true ∧ (d3.weights Tryz.prog 58).all (· ≤ reachBytes) = true := by
    have h : (DataW.weightsEach Tryz.prog ([22, 5, 58] ++ []) ([d, d2, d3] ++ [])).all (· ≤ reachBytes) = true := by
      have := hsz
      rw [pars] at this
      exact this
    simp only [List.append_nil, DataW.weightsEach, List.all_append, Bool.and_eq_true] at h
    exact h
  obtain ⟨vs, hv1, hv2⟩ := AL.S.decode fuel (.sl AL.S.shDe) 22 _ _ (AL.S.Sh.ty_of shape) hws.1 hd
  obtain ⟨us, hu1, hu2⟩ := AL.S.decode fuel2 (.int .u8) 5 _ _ (AL.S.Sh.ty_of shape2) hws.2.1 hd2
  obtain ⟨zs, hz1, hz2⟩ := AL.S.decode fuel3 AL.S.shC2 58 _ _ shape3 hws.2.2 hd3
  refine (walk W (tab_of hL) hv1 hv2 hu1 hu2 hz1 hz2).mono fun e W' ⟨he, hb⟩ => ?_
  subst he
  refine ⟨_, rfl, post_of_below (pa := p1 ++ p2 ++ p3) (pv := []) hW' (fun _ _ _ => ?_) (fun sp hsp => ?_) (fun _ _ => rfl) (by simp) hb ?_⟩
  · rw [ress]
    exact trodAll_mk1 (shut_bool bool4 _)
  · have := again_of laidOut rowed (slices_full_of _ full) hb small hA1 (fun x hx => hlt x (by simpa using hx)) sp (fun x hx => hsp x (by simpa using hx))
    rw [pars]
    exact this
  · exact ok_one ress rfl (okWide_bool_mk bool4 _)

theorem holds : Rows.CycleTellsSaid :=
  OpenClaim.holds_of_wide 6 Tryz.f6 rfl rfl rfl rfl rfl rfl rfl ⟨rfl, rfl, rfl, rfl, rfl⟩ rfl rfl rfl rfl rfl (by kernel_rfl) Tryz.func6 (by kernel_rfl)
    (of_decide_eq_true (by kernel_rfl)) (by unfold Func.isWrapper; first | (rw [if_pos (by decide +kernel)]; kernel_rfl) | (rw [if_neg (by decide +kernel)]; exact ⟨rfl, rfl⟩))
    (fun os started H enc _ => lifted os started H enc)
end CycleTellsP

theorem cycleTells_holds : Rows.CycleTellsCardSaid :=
  Claim7.holds_tied_plain_at .later [] [.data, .data, .data, .data] true (true, "6fa8cccb46f3df1954269f58e9cf3a8659ab2058eb56b99b47be64e708f28132") false
    CycleTellsP.holds (fun _ h => by cases h) (by kernel_rfl) (fun _ h => by cases h) cycleTells_row_tie rfl ⟨rfl, rfl⟩ (by kernel_rfl) rfl
    (fun f fn hf hfn => by
      obtain rfl : f = 6 := Option.some.inj ((show Tryz.prog.funcNamed "umpire/umpirelaw30.CycleTells" = some 6 by kernel_rfl).symm.trans hf) |>.symm
      obtain rfl : fn = Tryz.f6 := (Option.some.inj (Tryz.func6.symm.trans hfn)).symm
      exact ⟨by kernel_rfl, fun j t ht => by
        rw [CycleTellsP.pars] at ht
        cases j with
        | zero =>
          obtain rfl : 22 = t := Option.some.inj ht
          kernel_rfl
        | succ j =>
          cases j with
          | zero =>
            obtain rfl : 5 = t := Option.some.inj ht
            kernel_rfl
          | succ j =>
            cases j with
            | zero =>
              obtain rfl : 58 = t := Option.some.inj ht
              kernel_rfl
            | succ j => cases j <;> cases ht⟩)
    (by kernel_rfl)
#print axioms cycleTells_holds
end Go.Proofs.YtfncnpcoekinjaaGreatDoor
