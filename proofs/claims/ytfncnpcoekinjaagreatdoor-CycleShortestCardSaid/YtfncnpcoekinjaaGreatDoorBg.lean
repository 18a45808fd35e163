/- What the program's functions do, part 7. Conditions: none. -/
import Derived.Test.YtfncnpcoekinjaaGreatDoorBf
open Nat renaming reduceEqDiff → nE, reduceLeDiff → nL, reduceAdd → nA, reduceLT → nT, le_refl → lr
open List renaming getElem?_eq_getElem → gEg, length_map → lmp, getElem_mem → gmm, length_append → lap, length_cons → lcs, mem_singleton → msg, append_nil → apn, mem_append → map', take_length → tkl, map_cons → mcs, map_append → mpp, mem_map → mmp, any_eq_true → aet, length_replicate → lrp, take_add_one → tao, length_take → ltk, mem_filter → mfl
set_option maxRecDepth 100000
namespace Go.AL.S
open Go Go.AL Go.AL.SE Go.Proofs
structure TK (so : Str × Ods) (k : Int) : Prop where
 ok : SOk so.1
 ol : so.2.length = 8
 id : ∀ t ∈ so.1, t.id ≤ k
 ks : ∀ j : Int, 0 ≤ j → (keyO so.2 j).length ≤ 32
theorem map_ok {s : Str} {i : Int} {f : Tx → Tx} (hs : SOk s) (hid : ∀ t, (f t).id = t.id) (hf : ∀ t, t.ok → (f t).ok) : SOk (mapId s i f) := by
 refine ⟨fun t ht => ?_, mapId_lt hs.lt i hid⟩
 obtain ⟨x, hx, rfl⟩ := List.mem_map.1 ht
 split
 ·exact hf x (hs.ok x hx)
 ·exact hs.ok x hx
theorem endT_ok {st : Int} (h : 0 ≤ st ∧ st < 4) (t : Tx) (ht : t.ok) : (endT st t).ok := by
 unfold endT
 split
 ·exact ⟨ht.id0, ht.id1, ht.cl0, ht.cl1, ht.ms, ht.msl, ht.lsl, ht.ls, h⟩
 ·exact ht
theorem comT_ok {ls : List (Option (List Int))} (h : ∀ o ∈ ls, ∀ n ∈ nums o, 0 ≤ n ∧ n < 65536) (t : Tx) (ht : t.ok) : (comT ls t).ok := by
 unfold comT
 split
 ·rename_i hc
  have hc := hc.2.1
  simp only [okC, Bool.and_eq_true, decide_eq_true_eq, Bool.not_eq_true', List.any_eq_false] at hc
  refine ⟨ht.id0, ht.id1, ht.cl0, ht.cl1, ht.ms, ht.msl, hc.1, fun o ho => ⟨?_, h o ho⟩, by show (0 : Int) ≤ 1 ∧ (1 : Int) < 4; decide⟩
  have := hc.2 o ho
  simp only [longL, decide_eq_true_eq] at this
  omega
 ·exact ht
theorem build_same {s : Str} {o o' : Ods} (hs : SOk s) (ho : ∀ j : Int, 0 ≤ j → keyO o j <+: keyO o' j) {x : Ek} (hx : x ∈ buildP s o) : x ∈ buildP s o' :=
 build_mono hs (fun _ _ _ => rfl) (fun _ _ h => h) ho (fun t ht r hr => ⟨t, ht, rfl, by rw [readsR_st hr]; decide, hr⟩) hx
theorem build_app {s : Str} {o : Ods} (hs : SOk s) (t : Tx) {x : Ek} (hx : x ∈ buildP s o) : x ∈ buildP (s ++ [t]) o := by
 refine build_mono hs (fun k v h => ?_) (fun k v h => ?_) (fun j _ => List.prefix_refl _) (fun t ht r hr => ⟨t, by simp [ht], rfl, by rw [readsR_st hr]; decide, hr⟩) hx
 ·unfold wrR at h ⊢
  rw [who_app]
  cases hw : who s k v with
  | none => rw [hw] at h; simp at h
  | some t => rfl
 ·rw [who_app]
  cases hw : who s k v with
  | none => rw [hw] at h; simp at h
  | some t => rfl
theorem endD_TK {s : Str} {o : Ods} {i : Int} {d : De} (hs : SOk s) (hd : ∀ o ∈ d.rl, ∀ n ∈ nums o, 0 ≤ n ∧ n < 65536) : SOk (endD s i d) ∧ (∀ t ∈ endD s i d, ∃ x ∈ s, t.id = x.id) ∧ ∀ x ∈ buildP s o, x.1 ≠ i → x.2.1 ≠ i → x ∈ buildP (endD s i d) o := by
 have hm : ∀ {f : Tx → Tx}, (∀ t, (f t).id = t.id) → ∀ t ∈ mapId s i f, ∃ x ∈ s, t.id = x.id := fun {f} hid t ht => by
  obtain ⟨x, hx, rfl⟩ := List.mem_map.1 ht
  refine ⟨x, hx, ?_⟩
  split <;> simp [hid]
 unfold endD
 split
 ·rw [commitR_map hs.lt]
  exact ⟨map_ok hs (comT_id _) (comT_ok hd), hm (comT_id _), fun x hx _ _ => build_map hs i (comT_id _) (comT_ms _) (comT_st _) (fun t r hr => comT_reads hr) (fun j _ => List.prefix_refl _) hx⟩
 ·split
  ·by_cases he : (endR s i 2).2 = 0
   ·obtain ⟨t, c1, c2⟩ := endR_ok.1 he
    rw [endR_map hs.lt]
    exact ⟨map_ok hs (endT_id _) (endT_ok (by decide)), hm (endT_id _), fun x hx h1 h2 => (build_abort hs.lt c1 c2).2 ⟨hx, h1, h2⟩⟩
   ·rw [endR_err he]
    exact ⟨hs, fun t ht => ⟨t, ht, rfl⟩, fun x hx _ _ => hx⟩
  ·split
   ·rw [endR_map hs.lt]
    exact ⟨map_ok hs (endT_id _) (endT_ok (by decide)), hm (endT_id _), fun x hx _ _ => build_map hs i (endT_id _) (endT_ms _) endT3_st (fun t r hr => endT_reads hr) (fun j _ => List.prefix_refl _) hx⟩
   ·exact ⟨hs, fun t ht => ⟨t, ht, rfl⟩, fun x hx _ _ => hx⟩
theorem node_in {s : Str} {a : Int} (h : a ∈ nodesR s) : ∃ t ∈ s, a = t.id := by
 obtain ⟨t, ht, rfl⟩ := List.mem_map.1 h
 exact ⟨t, (List.mem_filter.1 ht).1, rfl⟩
theorem TK.step {so : Str × Ods} {k : Nat} {d : De} (h : TK so k) (hd : d.ok) (hk : k + 1 < 65536) : TK (stepD so ((k + 1 : Nat) : Int) d) ((k + 1 : Nat) : Int) ∧ ∀ x ∈ buildP so.1 so.2, x ∈ buildP (stepD so ((k + 1 : Nat) : Int) d).1 (stepD so ((k + 1 : Nat) : Int) d).2 := by
 obtain ⟨s, o⟩ := so
 obtain ⟨hs, ho, hid, hks⟩ := h
 simp only at hs ho hid hks
 unfold stepD
 simp only
 by_cases he : (beginR s 0 ((k + 1 : Nat) : Int) d.ml).2 = 0
 ·rw [if_neg (fun h => h he)]
  have hb : okB 0 d.ml = true ∧ lastId s < ((k + 1 : Nat) : Int) ∧ (beginR s 0 ((k + 1 : Nat) : Int) d.ml).1 = s ++ [⟨((k + 1 : Nat) : Int), 0, d.ml, [], 0⟩] := by
   unfold beginR at he ⊢
   split at he
   ·rename_i h1
    split at he
    ·cases he
    ·rename_i h2
     split at he
     ·rename_i h3
      rw [if_pos h1, if_neg h2, if_pos h3]
      exact ⟨h1, by omega, rfl⟩
     ·cases he
   ·cases he
  obtain ⟨b1, b2, b3⟩ := hb
  rw [b3]
  simp only [okB, Bool.and_eq_true, decide_eq_true_eq] at b1
  have hs1 : SOk (s ++ [⟨((k + 1 : Nat) : Int), 0, d.ml, [], 0⟩]) := app_ok hs ⟨by simp only; omega, by simp only; omega, Int.le_refl _, by show (0 : Int) < 256; decide, hd.mi, b1.1.1.2, by simp, by simp, by show (0 : Int) ≤ 0 ∧ (0 : Int) < 4; decide⟩ b2
  obtain ⟨e1, e2, e3⟩ := endD_TK (o := o) (i := ((k + 1 : Nat) : Int)) (d := d) hs1 hd.ns
  generalize endD (s ++ [⟨((k + 1 : Nat) : Int), 0, d.ml, [], 0⟩]) ((k + 1 : Nat) : Int) d = s2 at e1 e2 e3 ⊢
  have hr : ∀ r ∈ readsR ((find s2 ((k + 1 : Nat) : Int)).getD Tx.zero), 0 ≤ r.1 ∧ (nums r.2).length ≤ 32 := by
   cases hf : find s2 ((k + 1 : Nat) : Int) with
   | none => intro r hr; simp [readsR, Tx.zero] at hr
   | some t => exact fun r hr => ⟨(readsR_key (find_ok e1 hf).2.2.ms r hr).1, (readsR_nums (find_ok e1 hf).2.2 r hr).1⟩
  obtain ⟨t1, t2, t3, _⟩ := takes_grow ho fun r h => (hr r h).1
  refine ⟨⟨e1, t1, fun t ht => ?_, fun j hj => ?_⟩, fun x hx => build_same e1 t2 (e3 x (build_app hs _ hx) ?_ ?_)⟩
  ·obtain ⟨x, hx, e⟩ := e2 t ht
   rw [e]
   rcases List.mem_append.1 hx with hx | hx
   ·have := hid x hx; omega
   ·rw [List.mem_singleton.1 hx]; exact Int.le_refl _
  ·rcases t3 j hj with e | ⟨r, h1, _, h2⟩
   ·rw [e]; exact hks j hj
   ·rw [← h2]; exact (hr r h1).2
  ·obtain ⟨t, ht, e⟩ := node_in (build_ends s o x hx).1
   have := hid t ht
   rw [e]; omega
  ·obtain ⟨t, ht, e⟩ := node_in (build_ends s o x hx).2
   have := hid t ht
   rw [e]; omega
 ·rw [if_pos he]
  have hb : (beginR s 0 ((k + 1 : Nat) : Int) d.ml).1 = s := by
   rcases beginR_cases s 0 ((k + 1 : Nat) : Int) d.ml with ⟨_, h⟩ | ⟨h, _⟩
   ·exact h
   ·exact absurd h he
  rw [hb]
  exact ⟨⟨hs, ho, fun t ht => by have := hid t ht; omega, hks⟩, fun x hx => hx⟩
theorem os0_none : ∀ j : Int, keyO os0 j = [] := by
 intro j
 unfold keyO os0
 split
 ·rfl
 ·rename_i h
  have : j.toNat < 8 := by omega
  generalize j.toNat = n at this
  rcases n with _ | _ | _ | _ | _ | _ | _ | _ | n <;> first | rfl | omega
theorem told_step {l : List De} {k : Nat} (hk : k < l.length) : toldR (l.take (k + 1)) = stepD (toldR (l.take k)) ((k + 1 : Nat) : Int) l[k] := told_take hk
theorem told_TK {l : List De} (h : ∀ d ∈ l, d.ok) (hl : l.length < 65535) : ∀ k : Nat, k ≤ l.length → TK (toldR (l.take k)) k
 | 0, _ => ⟨⟨by simp [toldR], by simp [toldR]⟩, rfl, by simp [toldR], fun j _ => by show (keyO os0 j).length ≤ 32; rw [os0_none]; simp⟩
 | k + 1, hk => by
  rw [told_step (by omega)]
  exact ((told_TK h hl k (by omega)).step (h _ (gmm _)) (by omega)).1
theorem keyP_len' {s : Str} {os : Ods} (k : Int) (h : (keyO os k).length ≤ 32) : (keyP s os k).length ≤ 32 := by
 have := flat_len (f := kf s k) (n := 1) (l := (keyO os k).zip (keyO os k).tail) fun x _ => by
  unfold kf
  split
  ·exact edgeP_len _ _ _
  ·simp
 have h2 : ((keyO os k).zip (keyO os k).tail).length ≤ 32 := by rw [List.length_zip]; omega
 have h3 : keyP s os k = ((keyO os k).zip (keyO os k).tail).flatMap (kf s k) := rfl
 rw [h3]; omega
theorem TK.len {so : Str × Ods} {k : Int} (h : TK so k) : (buildP so.1 so.2).length < 2 ^ 21 := by
 have h1 := flat_len (f := fun (k : Nat) => keyP so.1 so.2 (k : Int)) (n := 32) (l := List.range 8) fun k _ => keyP_len' k (h.ks k (by omega))
 have h2 := flat_len (f := txnP so.1 so.2) (n := 16) (l := so.1) fun t ht => txnP_len (h.ok.ok t ht)
 have h3 := st_len h.ok
 have h4 : (List.range 8).length = 8 := rfl
 rw [buildP, keysP, lap]
 omega
theorem SOk.nodes {s : Str} (h : SOk s) : ∀ x ∈ nodesR s, 0 ≤ x ∧ x < 65536 := fun x hx => by
 obtain ⟨t, ht, rfl⟩ := node_in hx
 exact ⟨(h.ok t ht).id0, (h.ok t ht).id1⟩
set_option maxHeartbeats 8000000
variable {E : Env}
theorem edgeP_ne {a b k : Int} : ∀ x ∈ edgeP a b k, x.1 ≠ x.2.1 := by
 intro x hx
 unfold edgeP at hx
 split at hx
 ·cases hx
 ·rename_i h; rw [List.mem_singleton.1 hx]; exact h
theorem build_ne (s : Str) (o : Ods) : ∀ x ∈ buildP s o, x.1 ≠ x.2.1 := by
 intro x hx
 rcases List.mem_append.1 hx with hx | hx
 ·obtain ⟨k, _, hx⟩ := List.mem_flatMap.1 hx
  obtain ⟨y, _, hx⟩ := List.mem_flatMap.1 hx
  split at hx
  ·exact edgeP_ne x hx
  ·cases hx
 ·obtain ⟨t, ht, hx⟩ := List.mem_flatMap.1 hx
  unfold txnP at hx
  split at hx
  ·cases hx
  ·obtain ⟨r, _, hx⟩ := List.mem_flatMap.1 hx
   split at hx
   ·rcases List.mem_append.1 hx with hx | hx
    ·unfold lastP at hx
     split at hx
     ·split at hx
      ·exact edgeP_ne x hx
      ·cases hx
     ·cases hx
    ·unfold nextP at hx
     split at hx
     ·split at hx
      ·exact edgeP_ne x hx
      ·cases hx
     ·cases hx
   ·cases hx
theorem eqvB {W : AW} {K : V → AW → Prop} {a b : Bool} : sem E (.eqv true (false, [.b])) [.bool a, .bool b] W K = K (.bool (a != b)) W := by
 cases a <;> cases b <;> rfl
def c_lawSh_0 : AC := (.seq (.r [.m 33 9,.a 34 (.bin .lss) 33 4] (.w 34 0)) (.seq (.block 1 (.r [.m 38 5,.m 39 9,.b 40 (.idxa 4 1) 8 39,.u 41 (.load false 1) 40,.b 42 (.call 12) 38 41,.m 37 42,.u 43 (.ext 0) 37,.u 44 (.ext 1) 37,.p 10 (.alloc [.nilsl,.nilsl]) [],⟨none,.store 2, [.t 10,.t 43], none⟩,.m 11 44] (.seq (.par (.step 0 (.m 46 6) (.step 1 (.m 47 5) (.step 3 (.m 49 9) (.step 4 (.b 50 (.idxa 4 1) 8 49) (.alt (.step 2 (.u 48 (.pcall 14) 47) (.alt (.step 5 (.u 51 (.load false 1) 50) (.alt (.step 6 (.p 52 (.pcall 13) [.t 46,.t 48,.t 51]) (.step 7 (.m 45 52) (.step 8 (.u 53 (.ext 0) 45) (.step 9 (.u 54 (.ext 1) 45) (.step 10 (.p 12 (.alloc [.nilsl,.nilsl]) []) (.step 11 ⟨none,.store 2, [.t 12,.t 53], none⟩ (.step 12 (.m 13 54) .done))))))) (.step 10 (.p 12 (.alloc [.nilsl,.nilsl]) []) (.step 6 (.p 52 (.pcall 13) [.t 46,.t 48,.t 51]) (.step 7 (.m 45 52) (.step 8 (.u 53 (.ext 0) 45) (.step 9 (.u 54 (.ext 1) 45) (.step 11 ⟨none,.store 2, [.t 12,.t 53], none⟩ (.step 12 (.m 13 54) .done))))))))) (.step 10 (.p 12 (.alloc [.nilsl,.nilsl]) []) (.step 5 (.u 51 (.load false 1) 50) (.step 6 (.p 52 (.pcall 13) [.t 46,.t 48,.t 51]) (.step 7 (.m 45 52) (.step 8 (.u 53 (.ext 0) 45) (.step 9 (.u 54 (.ext 1) 45) (.step 11 ⟨none,.store 2, [.t 12,.t 53], none⟩ (.step 12 (.m 13 54) .done)))))))))) (.alt (.step 5 (.u 51 (.load false 1) 50) (.alt (.step 2 (.u 48 (.pcall 14) 47) (.alt (.step 6 (.p 52 (.pcall 13) [.t 46,.t 48,.t 51]) (.step 7 (.m 45 52) (.step 8 (.u 53 (.ext 0) 45) (.step 9 (.u 54 (.ext 1) 45) (.step 10 (.p 12 (.alloc [.nilsl,.nilsl]) []) (.step 11 ⟨none,.store 2, [.t 12,.t 53], none⟩ (.step 12 (.m 13 54) .done))))))) (.step 10 (.p 12 (.alloc [.nilsl,.nilsl]) []) (.step 6 (.p 52 (.pcall 13) [.t 46,.t 48,.t 51]) (.step 7 (.m 45 52) (.step 8 (.u 53 (.ext 0) 45) (.step 9 (.u 54 (.ext 1) 45) (.step 11 ⟨none,.store 2, [.t 12,.t 53], none⟩ (.step 12 (.m 13 54) .done))))))))) (.step 10 (.p 12 (.alloc [.nilsl,.nilsl]) []) (.step 2 (.u 48 (.pcall 14) 47) (.step 6 (.p 52 (.pcall 13) [.t 46,.t 48,.t 51]) (.step 7 (.m 45 52) (.step 8 (.u 53 (.ext 0) 45) (.step 9 (.u 54 (.ext 1) 45) (.step 11 ⟨none,.store 2, [.t 12,.t 53], none⟩ (.step 12 (.m 13 54) .done)))))))))) (.step 10 (.p 12 (.alloc [.nilsl,.nilsl]) []) (.step 2 (.u 48 (.pcall 14) 47) (.step 5 (.u 51 (.load false 1) 50) (.step 6 (.p 52 (.pcall 13) [.t 46,.t 48,.t 51]) (.step 7 (.m 45 52) (.step 8 (.u 53 (.ext 0) 45) (.step 9 (.u 54 (.ext 1) 45) (.step 11 ⟨none,.store 2, [.t 12,.t 53], none⟩ (.step 12 (.m 13 54) .done)))))))))))))))) (.r [.m 55 11,.m 56 13,.b 57 (.eqv true (false, [.b])) 55 56,.m 58 57,.U 59 (.load true 2) 10 58 false,.U 60 (.load true 2) 12 58 false,.B 61 (.call 15) 59 60 58 false,.U 62 (.un .not) 61 58 false,.p 63 .pick [.t 58,.T,.t 62]] (.cond (.t 63) (.r [.v 4 (.bool false)] .ret) .skip))))) (.reg [.m 35 9,.a 36 (.bin .add) 35 1,.m 9 36])))
def c_lawSh : AC := (.r [.v 4 (.bool false)] (.seq (.r [.m 14 0,.u 15 (.call 8) 14,.u 16 (.un .not) 15] (.cond (.t 16) (.r [.p 17 (.call 9) [],.m 4 17] .ret) .skip)) (.r [.m 18 0,.u 19 (.call 10) 18,.m 5 19] (.r [.m 21 5,.u 22 (.call 11) 21,.m 20 22,.u 23 (.ext 0) 20,.u 24 (.ext 1) 20,.m 6 23,.m 7 24] (.seq (.r [.m 25 5,.p 26 (.eqn false 0) [.t 25,.c (.nilptr)],.m 27 26,.M 28 7 27 false,.U 29 (.un .not) 28 27 false,.p 30 .pick [.t 27,.T,.t 29]] (.cond (.t 30) (.r [.v 4 (.bool false)] .ret) .skip)) (.r [.m 31 1,.p 32 (.build [.int .u8 0,.int .u8 0,.int .u8 0,.int .u8 0] [(0, 1), (1, 1), (2, 1), (3, 1)]) [.c (.int .u8 1),.c (.int .u8 8),.c (.int .u8 16),.t 31],.p 8 (.alloc [.int .u8 0,.int .u8 0,.int .u8 0,.int .u8 0]) [],⟨none,.store 4, [.t 8,.t 32], none⟩] (.seq (.r [.v 9 (.int .i64 0)] (.block 0 (.loop c_lawSh_0))) (.r [.p 64 (.call 9) [],.m 4 64] .ret))))))))
theorem ok_lawShe : compF Tryz.prog Tryz.f3 ⟨false, false, []⟩ = some (c_lawSh, [.tmp 4], 65) := by kernel_rfl
theorem ov_S1 {b : Option Cyc} : isS 1 (ovV (bv1 b)) (intsV (b.getD ([], [])).1) := by
 cases b with
 | none => exact .nil
 | some c => exact .mk
theorem ov_S2 {b : Option Cyc} : isS 1 (ovV (bv2 b)) (u8s (b.getD ([], [])).2) := by
 cases b with
 | none => exact .nil
 | some c => exact .mk
theorem short_len {es : List Ed} {N : List Int} {k : Int} (hl : es.length < 2 ^ 30) : ((shortR es N k).getD ([], [])).1.length < 2 ^ 32 ∧ ((shortR es N k).getD ([], [])).2.length < 2 ^ 32 := by
 unfold shortR
 cases ownR k with
 | none => simp
 | some own =>
  simp only
  split
  ·simp
  ·have h : (bestR es N own).length < 2 ^ 32 := best_len (own := own) hl (N := N) (b := []) (by simp)
   exact ⟨h, by rw [Option.getD_some, kinds_len]; exact h⟩
theorem lawSh_c (hP : PE E) (hd0 : E.w0.drawn = 0) (W : AW) {v : V} {l : List De} (hv : isS 3 v (l.map De.V)) (ha : ∀ d ∈ l, d.ok) (hl : l.length < 2 ^ 48) {class_ : Int} (_ : 0 ≤ class_ ∧ class_ < 256) :
  ACalls E 3 [v, .int .u8 class_] W fun Y _ => Y = .bool true := by
 refine ACalls.of hP Tryz.func3 ok_lawShe (by simp) fun _ hok => ?_
 refine awp_start hok ?_
 simp (maxSteps:=9^9) (disch:=omega) only [BZ, ↓reduceIte, reduceCtorEq, c_lawSh, hv.frz]
 refine (fewD_c hP _ hv ha hl).mono ?_
 rintro _ _ ⟨rfl, b, rfl, hb⟩
 cases b with
 | false =>
  simp (maxSteps:=9^9) (disch:=omega) only [BX, ↓reduceIte, BD]
  refine pc (works_c hP hd0 _) ?_
  simp (maxSteps:=9^9) (disch:=omega) only [BS, BC, ↓reduceIte, ]
  exact ⟨_, rfl, _, W, backX hok rfl, lr _, rfl⟩
 | true =>
  obtain ⟨h30, hf⟩ := hb rfl
  simp (maxSteps:=9^9) (disch:=omega) only [BX, ↓reduceIte, reduceCtorEq, BD, hv.frz]
  have hd : ∀ d ∈ l, d.ok ∧ d.small := fun d h => ⟨ha d h, (hf d h).small⟩
  refine (told_c hP _ hv hd (by omega)).mono ?_
  rintro _ W1 ⟨g, m, h, rfl, hG, hS, hE⟩
  rw [← X_start hok] at hE
  have en : eqNil 0 (.ptr g 0) .nilptr = some false := rfl
  have hTK := told_TK ha (by omega) l.length (lr _)
  rw [tkl] at hTK
  have hlen : (edL (buildP (toldR l).1 (toldR l).2)).length < 2 ^ 30 := by have := hTK.len; have := edL_le (buildP (toldR l).1 (toldR l).2); omega
  have hNs := nodes_pw hS
  have hPN := build_ends (toldR l).1 (toldR l).2
  have hne := build_ne (toldR l).1 (toldR l).2
  have hN := hS.nodes
  generalize buildP (toldR l).1 (toldR l).2 = P at hG hlen hPN hne
  generalize nodesR (toldR l).1 = N at hG hNs hPN hN
  rw [hE.cl.start]
  simp (maxSteps:=9^9) (disch:=omega) only [BZ, ↓reduceIte, ]
  refine pc (edges30_c hP _ (hG.ex ((Ex.refl hE.cl).X))) ?_
  have hed := edsV_S (edL P)
  simp (maxSteps:=9^9) (disch:=omega) only [BZ, ↓reduceIte, nE, BM, en]
  repeat (rw [guard_if]; simp (maxSteps:=9^9) (disch:=omega) only [BX, ↓reduceIte, nE, BM, BD, nA, nL, nT])
  obtain ⟨WB, hWB⟩ : ∃ WB, WB = X W1 W1.nx [.row [.int .u8 1, .int .u8 8, .int .u8 16, .int .u8 class_]] := ⟨_, rfl⟩
  have gA : WB.get (rf W1.nx 0) = some (.row [.int .u8 1, .int .u8 8, .int .u8 16, .int .u8 class_]) := by rw [hWB, X_get]; rfl
  have lA : rf W1.nx 0 < WB.nx := by rw [hWB]; simp [X_nx, rf]
  have hE0 : Ex W1 WB := by rw [hWB]; exact (Ex.refl hE.cl).X
  have hEB := hE.trans hE0
  have hGB := hG.ex hE0
  rw [← hWB]
  clear hWB
  generalize rf W1.nx 0 = ra at gA lA
  have hPe : ∀ e ∈ edL P, e.fr ∈ N ∧ e.to ∈ N := fun e he => hPN _ (edL_mem.1 he)
  have hek : ∀ e ∈ edL P, ekOk (ofEd e) := fun e he => hG.pk _ (edL_mem.1 he)
  have hlp : ∀ e ∈ edL P, e.fr ≠ e.to := fun e he => hne _ (edL_mem.1 he)
  have hnow := nowGS_S 1 (intsV N)
  rw [e_loop]
  refine alp (fun (i : Nat) A1 W3 => A1 5 = some (.ptr g 0) ∧ A1 6 = some (edsV (edL P)) ∧ A1 8 = some (.ptr ra 0) ∧ A1 9 = some (.int .i64 (i : Nat)) ∧ i ≤ 4 ∧ Ex WB W3) (fun i => 4 - i) 0
   ⟨tt, tt, tt, tt, by omega, Ex.refl hEB.cl⟩ ?_
  rintro i A1 W3 ⟨q5, q6, q8, q9, qi, qE⟩ hbs
  have hi4 : decide (((i : Nat) : Int) < 4) = decide (i < 4) := by simp; omega
  by_cases hi : i < 4
  ·have gA3 := (qE.get _ lA).trans gA
   obtain ⟨kk, hkk⟩ : ∃ kk : Int, [V.int .u8 1, .int .u8 8, .int .u8 16, .int .u8 class_][i]? = some (.int .u8 kk) := by
    obtain rfl | rfl | rfl | rfl : i = 0 ∨ i = 1 ∨ i = 2 ∨ i = 3 := by omega
    all_goals exact ⟨_, rfl⟩
   have hxa : ∀ (W : AW) (K : V → AW → Prop), sem E (.idxa 4 1) [.ptr ra 0, .int .i64 (i : Nat)] W K = K (.ptr ra i) W := fun W K => by
    obtain rfl | rfl | rfl | rfl : i = 0 ∨ i = 1 ∨ i = 2 ∨ i = 3 := by omega
    all_goals simp [sem, rsem, tsem]
   have hld : ∀ l (K : V → AW → Prop), sem E (.load false 1) [.ptr ra i] (X W3 W3.nx l) K = K (.int .u8 kk) (X W3 W3.nx l) := fun l K => sem_load_row (by rw [X_old (by have := qE.nx; omega)]; exact gA3) hkk
   have hG3 := hGB.ex qE
   have hX3 : ∀ l, Gr (X W3 W3.nx l) g m h P N _ := fun l => hG3.ex ((Ex.refl qE.cl).X)
   refine awp_startC qE.cl ?_
   rw [c_lawSh_0, e_seq, e_seq]
   simp (maxSteps:=9^9) (disch:=omega) only [BS, cond_if, ↓reduceIte, q9, hi4, hi, dT]
   rw [e_seq]
   simp (maxSteps:=9^9) (disch:=omega) only [BS, ]
   rw [e_seq]
   simp (maxSteps:=9^9) (disch:=omega) only [BS, BC, ↓reduceIte, nE, q5, q8, q9, hxa, hld]
   refine (cshort_c hP _ (hX3 _) hN (by omega) _).mono ?_
   rintro _ _ ⟨v1, v2, rfl, i1, i2, rfl⟩
   simp (maxSteps:=9^9) (disch:=omega) only [BS, BC, ↓reduceIte, nE, BM, BD, nA, nL, nT, i1.one, i2.one]
   rw [e_seq]
   have hsl := short_len (es := edL P) (N := N) (k := kk) hlen
   generalize hsr : shortR (edL P) N kk = r at i1 i2 hsl
   have hwant : ∀ l, ACalls E 13 [edsV (edL P), nowGS 1 (intsV N), .int .u8 kk] (X W3 W3.nx l) fun Y W' => Y = bvT r ∧ W' = X W3 W3.nx l := fun l => by rw [← hsr]; exact rShort_c hP _ kk hed hnow hek (by omega) hPe hNs hN hG.nl hlp
   refine awp_mono (Q := fun z A' W' => z = .normal ∧ A' 5 = some (.ptr g 0) ∧ A' 6 = some (edsV (edL P)) ∧ A' 8 = some (.ptr ra 0) ∧ A' 9 = some (.int .i64 (i : Nat)) ∧ A' 10 = some (.ptr (rf W3.nx 0) 0) ∧ A' 11 = some (.bool r.isSome) ∧ A' 12 = some (.ptr (rf W3.nx 1) 0) ∧ A' 13 = some (.bool r.isSome) ∧ W' = X W3 W3.nx [.row [v1, v2], .row [ovV (bv1 r), ovV (bv2 r)]]) _ ?_ ?_
   ·rintro _ A2 _ ⟨rfl, z5, z6, z8, z9, z10, z11, z12, z13, rfl⟩
    show awp E _ _ A2 _
    have c1 : sem E (.eqv true (false, [.b])) [.bool r.isSome, .bool r.isSome] = fun W K => K (.bool false) W := by
     funext W K; rw [eqvB, bne_self_eq_false]
    simp (maxSteps:=9^9) (disch:=omega) only [BS, e_seq, ↓reduceIte, nE, z11, z13, eqvB, bne_self_eq_false]
    repeat (rw [guard_if]; simp (maxSteps:=9^9) (disch:=omega) only [BS, BC, ↓reduceIte, nE, BM, BD, nA, nL, z10, z12])
    refine pc (same30_c hP _ (a := r.getD ([], [])) (b := r.getD ([], [])) i1 i2 ov_S1 ov_S2 (by omega) (by omega)) ?_
    simp (maxSteps:=9^9) (disch:=omega) only [BS, dT]
    repeat (rw [guard_if]; simp (maxSteps:=9^9) (disch:=omega) only [BS, BC, cond_if, ↓reduceIte, nE, BM, BD, nA, z5, z6, z8, z9, wadd1])
    exact ⟨i + 1, ⟨tt, tt, tt, tt, hi, qE.trans (Ex.refl qE.cl).X⟩, by omega, by have := qE.nx; simp only [rf]; omega⟩
   ·simp (maxSteps:=9^9) (disch:=omega) only [BS, ↓reduceIte, nE, BM, BD, q5, q6, q8, q9, hxa, gA3, hkk]
    repeat' first
     | trivial
     | rfl
     | (refine pcall_go (ws := [.ptr g 0]) rfl (nodes_c hP _ (hX3 _)) ?_; simp (maxSteps:=9^9) (disch:=omega) only [BS, ↓reduceIte, nE, BM, BD, gA3, hkk])
     | (refine pcall_go (by simp only [mcs, List.map_nil, hed.frz, hnow.frz]; rfl) (hwant _) ?_; simp (maxSteps:=9^9) (disch:=omega) only [BS, BC, ↓reduceIte, nE, BM, BD, nA, nL, nT, q5, q6, q8, q9, ov_one, bvT])
     | refine ⟨?_, ?_⟩
  ·simp (maxSteps:=9^9) (disch:=omega) only [BX, ↓reduceIte, c_lawSh_0, q9, hi4, hi, dF]
   refine pc (works_c hP hd0 _) ?_
   simp (maxSteps:=9^9) (disch:=omega) only [BS, BC, ↓reduceIte, ]
   exact ⟨_, rfl, _, W, .weak (weak_back hok rfl fun y hy => (hEB.trans qE).get y hy), lr _, rfl⟩
end Go.AL.S
namespace Go.AL
open Go Go.AL Go.Proofs
variable {E : Env}
theorem calls_inp0 {P : Program} {f : FuncId} {W : World} {vs : List V} {ws : List Value} (hr : RelL (S.gIn W) vs ws) (h : ACalls (S.Env.inp P { W with drawn := 0 }) f vs AW.empty fun Y _ => Y = .bool true) :
  Calls P f ws.toArray W fun e w' => e = .returned (.bool true) ∧ RowKit.Below W.heap.size W w' := by
 have hW : RelW (S.Env.inp P { W with drawn := 0 }) (S.gIn W) W AW.empty := (S.Env.inp_rel P { W with drawn := 0 }).grow ⟨⟨rfl, rfl, rfl, lr _, fun _ _ => rfl⟩, Nat.zero_le _⟩ (fun _ _ => rfl) (lr _)
 refine (h.2 (S.Env.inp_sound P _) _ _ ws hW hr).mono ?_
 rintro e w' ⟨v, γ', Y, W', rfl, _, _, h4, h5, rfl⟩
 cases h5
 have hb := h4.below.row
 exact ⟨rfl, ⟨hb.os, hb.tape, hb.output, hb.size, hb.block⟩⟩
end Go.AL
namespace Go.AL.S
open Go Go.AL Go.RowKit
mutual
def Sh.tyB (P : Program) : Sh → TypeId → Bool
 | .bool, t => (match P.underlying t with | some .bool => true | _ => false) && decide (P.cellsOf t = 1)
 | .int k, t => (match P.underlying t with | some (.int k') => decide (k' = k) | _ => false) && decide (P.cellsOf t = 1)
 | .sl e, t => (match P.underlying t with | some (.slice te) => e.tyB P te && decide (0 < e.n) && decide (0 < P.bytesOf te) | _ => false) && decide (P.cellsOf t = 1)
 | .st l, t => (match P.underlying t with | some (.struct fs) => decide (P.cellsOf t = Sh.nL l) && Sh.tyLB P l 0 fs.toList | _ => false)
def Sh.tyLB (P : Program) : List Sh → Nat → List Field → Bool
 | [], _, [] => true
 | s :: l, off, f :: r => decide (f.offset = off) && s.tyB P f.type && Sh.tyLB P l (off + s.n) r
 | _, _, _ => false
end
mutual
theorem Sh.ty_of {P : Program} : ∀ {s : Sh} {t : TypeId}, s.tyB P t = true → s.Ty P t
 | .bool, t, h => by
  simp only [Sh.tyB, Bool.and_eq_true, decide_eq_true_eq] at h
  refine ⟨?_, h.2⟩
  have h1 := h.1
  split at h1
  ·assumption
  ·cases h1
 | .int k, t, h => by
  simp only [Sh.tyB, Bool.and_eq_true, decide_eq_true_eq] at h
  refine ⟨?_, h.2⟩
  have h1 := h.1
  split at h1
  ·rename_i k' hk; rw [decide_eq_true_eq] at h1; rw [hk, h1]
  ·cases h1
 | .sl e, t, h => by
  simp only [Sh.tyB, Bool.and_eq_true, decide_eq_true_eq] at h
  have h1 := h.1
  split at h1
  ·rename_i te hk
   simp only [Bool.and_eq_true, decide_eq_true_eq] at h1
   exact ⟨te, hk, Sh.ty_of h1.1.1, h1.1.2, h.2, h1.2⟩
  ·cases h1
 | .st l, t, h => by
  simp only [Sh.tyB] at h
  split at h
  ·rename_i fs hk
   simp only [Bool.and_eq_true, decide_eq_true_eq] at h
   exact .inl ⟨fs, hk, h.1, Sh.tyL_of h.2⟩
  ·cases h
theorem Sh.tyL_of {P : Program} : ∀ {l : List Sh} {off : Nat} {fs : List Field}, Sh.tyLB P l off fs = true → Sh.TyL P l off fs
 | [], _, [], _ => rfl
 | s :: l, off, f :: r, h => by
  simp only [Sh.tyLB, Bool.and_eq_true, decide_eq_true_eq] at h
  exact ⟨f, r, rfl, h.1.1, Sh.ty_of h.1.2, Sh.tyL_of h.2⟩
 | [], _, _ :: _, h => by simp [Sh.tyLB] at h
 | _ :: _, _, [], h => by simp [Sh.tyLB] at h
end
theorem relL_app {γ : G} : ∀ {a b : List V} {l m : List Value}, RelL γ a l → RelL γ b m → RelL γ (a ++ b) (l ++ m)
 | [], _, _, _, h, h' => by rw [show _ = ([] : List Value) from h]; exact h'
 | x :: a, b, _, m, ⟨v, l', e, h1, h2⟩, h' => ⟨v, l' ++ m, by rw [e]; rfl, h1, relL_app h2 h'⟩
theorem relL_len {γ : G} : ∀ {a : List V} {l : List Value}, RelL γ a l → l.length = a.length
 | [], l, h => by obtain rfl : l = [] := h; rfl
 | x :: a, _, ⟨v, l', e, _, h2⟩ => by rw [e, lcs, lcs, relL_len h2]
theorem el_of {γ : G} {e : Sh} {ws : List V} {l : List Value} (h : e.Is ws) (hr : RelL γ ws l) : ∃ v : Value, v.cells.toList = l ∧ v.cells.size = e.n ∧ RelV γ (e.val ws) v := by
 have hl := (relL_len hr).trans h.len
 cases e with
 | st sh => exact ⟨.agg l.toArray, by simp [Value.cells], by simpa [Value.cells] using hl, l, rfl, hr⟩
 | bool =>
  obtain ⟨b, rfl⟩ := h
  obtain ⟨v, l', e, h1, h2⟩ := hr
  obtain rfl : l' = [] := h2
  have h1' : v = .bool b := h1
  subst h1' e
  exact ⟨_, rfl, rfl, rfl⟩
 | int k =>
  obtain ⟨n, rfl, hw⟩ := h
  obtain ⟨v, l', e, h1, h2⟩ := hr
  obtain rfl : l' = [] := h2
  have h1' : v = .int k n := h1
  subst h1' e
  exact ⟨_, rfl, rfl, rfl⟩
 | sl e' =>
  obtain ⟨x, xs, rfl, hs, _⟩ := h
  obtain ⟨v, l', e, h1, h2⟩ := hr
  obtain rfl : l' = [] := h2
  subst e
  have hc : v.cells = #[v] := by
   rcases hs with ⟨rfl, _⟩ | ⟨rfl, _⟩ | ⟨f, rfl⟩
   ·have h1' : v = .slice none 0 0 := h1
    subst h1'; rfl
   ·obtain ⟨a, rfl⟩ := h1; rfl
   ·obtain ⟨b, pre, l, post, sz, cap, _, _, rfl, _⟩ := h1; rfl
  exact ⟨v, by rw [hc], by rw [hc]; rfl, h1⟩
theorem relE_of {γ : G} {e : Sh} : ∀ (m : Nat) (l : List Value), l.length = m * e.n → (∀ i, i < m → ∃ ws, e.Is ws ∧ RelL γ ws ((l.drop (i * e.n)).take e.n)) →
  ∃ xs, xs.length = m ∧ RelE γ e.n xs l ∧ ∀ x ∈ xs, ∃ ws, e.Is ws ∧ x = e.val ws
 | 0, l, hl, _ => by
  have : l = [] := List.length_eq_zero_iff.1 (by omega)
  subst this
  exact ⟨[], rfl, rfl, by simp⟩
 | m + 1, l, hl, h => by
  obtain ⟨ws, h1, h2⟩ := h 0 (by omega)
  rw [Nat.zero_mul, List.drop_zero] at h2
  obtain ⟨v, hv1, hv2, hv3⟩ := el_of h1 h2
  have hl' : (l.drop e.n).length = m * e.n := by
   rw [List.length_drop, hl, Nat.add_mul]; omega
  obtain ⟨xs, x1, x2, x3⟩ := relE_of m (l.drop e.n) hl' fun i hi => by
   obtain ⟨ws, a, b⟩ := h (i + 1) (by omega)
   refine ⟨ws, a, ?_⟩
   rw [List.drop_drop]
   rwa [Nat.add_mul, Nat.one_mul, Nat.add_comm] at b
  refine ⟨e.val ws :: xs, by simp [x1], ⟨v, l.drop e.n, by rw [hv1, List.take_append_drop], hv2, hv3, x2⟩, ?_⟩
  intro x hx
  rcases List.mem_cons.1 hx with rfl | hx
  ·exact ⟨ws, h1, rfl⟩
  ·exact x3 x hx
section
variable {H : Type} {enc : TypeId × Value → H} {P : Program} {W : World}
theorem chunk_of {c : List Value} {a : Addr} {n : Nat} {cs : List Value} {o : Nat} (hc : ∀ i, W.cell? ⟨a.block, i, none⟩ = c[i]?) (hs : a.spot = none) (h : W.cells? 0 (a.add o) n = some cs) : (c.drop (a.off + o)).take n = cs := by
 obtain ⟨_, h2, h3⟩ := World.cells?_some h
 refine List.ext_getElem? fun i => ?_
 by_cases hi : i < n
 ·rw [List.getElem?_take_of_lt hi, List.getElem?_drop, ← h3 i hi, ← hc]
  congr 1
  have hb : ∀ (a : Addr) (m : Nat), a.spot = none → a.add m = ⟨a.block, a.off + m, none⟩ := by
   intro a m h
   unfold Addr.add
   split
   ·rename_i h0; subst h0; cases a; simp at h ⊢; exact h
   ·rfl
  rw [hb a o hs, hb _ i rfl, Nat.add_assoc]
 ·rw [List.getElem?_eq_none (by simp; omega), List.getElem?_eq_none (by omega)]
theorem wAll {e : TypeId} {p : Nat → Bool} : ∀ {l : List (DataW H)}, (DataW.weightsAll P e l).all p = true → ∀ d ∈ l, (d.weights P e).all p = true
 | [], _, _, h => by simp at h
 | x :: l, h, d, hd => by
  simp only [DataW.weightsAll, List.all_append, Bool.and_eq_true] at h
  rcases List.mem_cons.1 hd with rfl | hd
  ·exact h.1
  ·exact wAll h.2 d hd
theorem wEach {p : Nat → Bool} : ∀ {ts : List TypeId} {l : List (DataW H)}, (DataW.weightsEach P ts l).all p = true → ∀ (i : Nat) (t : TypeId) (d : DataW H), ts[i]? = some t → l[i]? = some d → (d.weights P t).all p = true
 | [], _, _, _, _, _, h, _ => by simp at h
 | _ :: _, [], _, _, _, _, _, h => by simp at h
 | t :: ts, x :: l, h, i, t', d, h1, h2 => by
  simp only [DataW.weightsEach, List.all_append, Bool.and_eq_true] at h
  cases i with
  | zero => simp at h1 h2; subst h1 h2; exact h.1
  | succ i => simp at h1 h2; exact wEach h.2 i t' d h1 h2
theorem decode : ∀ (fuel : Nat) (s : Sh) (t : TypeId) (cs : List Value) (x : DataW H × List MemPlace), s.Ty P t → (x.1.weights P t).all (· ≤ reachBytes) = true → DataW.trod enc P W 0 (fun _ => true) true fuel t cs = some x → ∃ vs, s.Is vs ∧ RelL (gIn W) vs cs := by
 intro fuel
 induction fuel with
 | zero => intro s t cs x _ _ h; simp [DataW.trod] at h
 | succ fuel ih =>
  intro s t cs x ht hwt h
  cases s with
  | bool =>
   obtain ⟨b, rfl, _⟩ := DataW.trod_bool ht.1 h
   exact ⟨[.bool b], ⟨b, rfl⟩, _, _, rfl, rfl, rfl⟩
  | int k =>
   obtain ⟨n, rfl, _, hw⟩ := DataW.trod_int ht.1 h
   exact ⟨[.int k n], ⟨n, rfl, hw⟩, _, _, rfl, rfl, rfl⟩
  | sl e =>
   obtain ⟨te, hu, hte, hn, hc, hby⟩ := ht
   have hce := hte.cells
   rcases DataW.trod_slice hu h with ⟨rfl, _⟩ | ⟨a, len, cap, elems, rest, n', hf, rfl, rfl, _, hlc, hcap, hel, he, hr, _⟩
   ·exact ⟨[.nilsl], ⟨.nilsl, [], rfl, .nil, by simp, by simp⟩, _, _, rfl, rfl, rfl⟩
   ·obtain rfl : fuel = n' := by omega
    rw [hce] at he hr
    simp only [DataW.weights, hu, List.all_cons, List.all_append, Bool.and_eq_true, decide_eq_true_eq, lmp] at hwt
    obtain ⟨hw1, hw2, _⟩ := hwt
    by_cases h0 : cap = 0
    ·obtain rfl : len = 0 := by omega
     subst h0
     exact ⟨[.slz], ⟨.slz, [], rfl, .inr (.inl ⟨rfl, rfl⟩), by simp, by simp⟩, _, _, rfl, ⟨a, rfl⟩, rfl⟩
    ·have h1 : ∃ cs0, W.cells? 0 (a.add 0) e.n = some cs0 := by
      by_cases hl0 : 0 < len
      ·have := he 0 hl0
       rw [Nat.zero_mul, gEg (by omega)] at this
       obtain ⟨cs0, q, _⟩ := Option.bind_eq_some_iff.1 this
       exact ⟨cs0, q⟩
      ·obtain rfl : len = 0 := by omega
       obtain ⟨r1, r2⟩ := hr rfl
       have := r2 0 (by omega)
       rw [Nat.zero_add, Nat.zero_mul, gEg (by omega)] at this
       obtain ⟨cs0, q, _⟩ := Option.bind_eq_some_iff.1 this
       exact ⟨cs0, q⟩
     obtain ⟨cs0, hcs0⟩ := h1
     obtain ⟨_, q2, q3⟩ := World.cells?_some hcs0
     have q4 := q3 0 hn
     rw [gEg (by omega)] at q4
     have q5 : W.cell? a = some (cs0[0]'(by omega)) := by simpa [Addr.add] using q4
     obtain ⟨c, c1, c2, c3, c4⟩ := gIn_con q5
     have hch : ∀ i, i < len → ∃ ws, e.Is ws ∧ RelL (gIn W) ws ((c.drop (a.off + i * e.n)).take e.n) := by
      intro i hi
      have := he i hi
      rw [gEg (by omega)] at this
      obtain ⟨csi, p1, p2⟩ := Option.bind_eq_some_iff.1 this
      rw [chunk_of c4 c2 p1]
      exact ih e te csi _ hte (wAll hw2 _ (List.mem_map.2 ⟨_, gmm _, rfl⟩)) p2
     have hlen : ((c.drop a.off).take (len * e.n)).length = len * e.n := by
      by_cases hl0 : 0 < len
      ·have := he (len - 1) (by omega)
       rw [gEg (by omega)] at this
       obtain ⟨csi, p1, p2⟩ := Option.bind_eq_some_iff.1 this
       have p3 := chunk_of c4 c2 p1
       have p4 := congrArg List.length p3
       rw [ltk, List.length_drop, (World.cells?_some p1).2.1] at p4
       have : (len - 1) * e.n + e.n = len * e.n := by rw [← Nat.succ_mul]; congr 1; omega
       rw [ltk, List.length_drop]
       omega
      ·have : len = 0 := by omega
       subst this; simp
     obtain ⟨xs, x1, x2, x3⟩ := relE_of (γ := gIn W) (e := e) len ((c.drop a.off).take (len * e.n)) hlen fun i hi => by
      obtain ⟨ws, w1, w2⟩ := hch i hi
      refine ⟨ws, w1, ?_⟩
      have : (((c.drop a.off).take (len * e.n)).drop (i * e.n)).take e.n = (c.drop (a.off + i * e.n)).take e.n := by
       rw [List.drop_take, List.take_take, List.drop_drop, Nat.min_eq_left]
       have : i * e.n + e.n ≤ len * e.n := by rw [← Nat.succ_mul]; exact Nat.mul_le_mul_right _ hi
       omega
      rw [this]; exact w2
     have h48 : len < 2 ^ 48 := by
      have h1 : reachBytes < 2 ^ 48 := by decide
      have h2 : (elems.length + rest.length) * 1 ≤ (elems.length + rest.length) * P.bytesOf te := Nat.mul_le_mul_left _ hby
      omega
     refine ⟨[.sl e.n false xs], ⟨.sl e.n false xs, xs, rfl, .mk, by omega, x3⟩, _, _, rfl, ?_, rfl⟩
     refine ⟨a.block, c.take a.off, (c.drop a.off).take (len * e.n), (c.drop a.off).drop (len * e.n), c.length, cap, ?_, x2, ?_, by omega, by simp, by omega⟩
     ·rw [List.append_assoc, List.take_append_drop, List.take_append_drop]; exact c1
     ·rw [x1, ltk, Nat.min_eq_left (by omega)]
      cases a; simp at c2; subst c2; rfl
  | st l =>
   have hall : ∀ (l : List Sh) (off : Nat) (fs : List Field), Sh.TyL P l off fs → (∀ f ∈ fs, ∃ y, (y.1.weights P f.type).all (· ≤ reachBytes) = true ∧ DataW.trod enc P W 0 (fun _ => true) true fuel f.type ((cs.drop f.offset).take (P.cellsOf f.type)) = some y) → off + Sh.nL l ≤ cs.length → ∃ vs, Sh.IsL l vs ∧ RelL (gIn W) vs ((cs.drop off).take (Sh.nL l)) := by
    intro l
    induction l with
    | nil => intro off fs hl _ _; exact ⟨[], rfl, by simp [Sh.nL, RelL]⟩
    | cons s l ihl =>
     intro off fs hl hf hlen
     obtain ⟨f, r, rfl, rfl, hs, hl'⟩ := hl
     obtain ⟨y, hyw, hy⟩ := hf f (by simp)
     rw [hs.cells] at hy
     obtain ⟨a, a1, a2⟩ := ih s f.type _ y hs hyw hy
     obtain ⟨b, b1, b2⟩ := ihl (f.offset + s.n) r hl' (fun g hg => hf g (by simp [hg])) (by simp only [Sh.nL] at hlen; omega)
     refine ⟨a ++ b, ⟨a, b, rfl, a1, b1⟩, ?_⟩
     have := relL_app a2 b2
     rw [← List.drop_drop, ← List.take_add] at this
     exact this
   rcases ht with ⟨fs, hu, hc, htl⟩ | ⟨n, e, te, rfl, hu, hc, htr⟩
   ·obtain ⟨xs, n', hf, rfl, hl, hxl, hx⟩ := DataW.trod_struct hu h
    obtain rfl : fuel = n' := by omega
    simp only [DataW.weights, hu] at hwt
    obtain ⟨vs, v1, v2⟩ := hall l 0 fs.toList htl (fun f hf => by
     obtain ⟨i, hi, rfl⟩ := List.mem_iff_getElem.1 hf
     have hi' : i < fs.size := by simpa using hi
     have := hx i fs[i] (by simp [hi'])
     rw [gEg (by omega)] at this
     exact ⟨_, wEach hwt i _ _ (by simp [hi']) (by simp [show i < xs.length by omega]; rfl), by simpa using this⟩) (by omega)
    rw [List.drop_zero, List.take_of_length_le (by omega)] at v2
    exact ⟨vs, v1, v2⟩
   ·obtain ⟨xs, n', hf, rfl, hl, hxl, hx⟩ := DataW.trod_array hu h
    obtain rfl : fuel = n' := by omega
    simp only [DataW.weights, hu] at hwt
    have hgo : ∀ (m i : Nat), i + m = n → ∃ vs, Sh.IsL (List.replicate m e) vs ∧ RelL (gIn W) vs ((cs.drop (i * e.n)).take (m * e.n)) := by
     intro m
     induction m with
     | zero => intro i _; exact ⟨[], rfl, by simp [RelL]⟩
     | succ m ihm =>
      intro i hi
      have hte : e.Ty P te := by
       obtain ⟨k, rfl⟩ : ∃ k, n = k + 1 := ⟨n - 1, by omega⟩
       exact htr.1
      have := hx i (by omega)
      rw [hte.cells, gEg (by omega)] at this
      obtain ⟨a, a1, a2⟩ := ih e te _ _ hte (wAll hwt _ (List.mem_map.2 ⟨_, gmm _, rfl⟩)) this
      obtain ⟨b, b1, b2⟩ := ihm (i + 1) (by omega)
      refine ⟨a ++ b, ⟨a, b, rfl, a1, b1⟩, ?_⟩
      have := relL_app a2 b2
      rw [Nat.add_mul, Nat.one_mul, ← List.drop_drop, ← List.take_add] at this
      rw [Nat.add_mul, Nat.one_mul, Nat.add_comm (m * e.n)]
      exact this
    have hnl : Sh.nL (List.replicate n e) = n * e.n := by
     clear hgo hx hxl hc hu htr
     induction n with
     | zero => simp [Sh.nL]
     | succ n ih => simp only [List.replicate_succ, Sh.nL, ih, Nat.succ_mul]; omega
    obtain ⟨vs, v1, v2⟩ := hgo n 0 (by omega)
    rw [Nat.zero_mul, List.drop_zero, List.take_of_length_le (by omega)] at v2
    exact ⟨vs, v1, v2⟩
end
end Go.AL.S
namespace Go.AL.S
open Go Go.AL
def shMi : Sh := .st [.bool, .int .u8, .int .u16]
def shDe : Sh := .st [.sl shMi, .sl (.sl (.int .u16)), .int .u8]
theorem wf_u8 {n : Int} (h : (Lit.int .u8 n).wf = true) : 0 ≤ n ∧ n < 256 := by
 simp [Lit.wf, IntKind.min, IntKind.max, IntKind.signed, IntKind.bits] at h; omega
theorem wf_u16 {n : Int} (h : (Lit.int .u16 n).wf = true) : 0 ≤ n ∧ n < 65536 := by
 simp [Lit.wf, IntKind.min, IntKind.max, IntKind.signed, IntKind.bits] at h; omega
theorem list_of {α : Type} {f : α → V} {p : α → Prop} : ∀ {xs : List V}, (∀ x ∈ xs, ∃ a, x = f a ∧ p a) → ∃ l : List α, xs = l.map f ∧ ∀ a ∈ l, p a
 | [], _ => ⟨[], rfl, by simp⟩
 | x :: xs, h => by
  obtain ⟨a, rfl, ha⟩ := h x (by simp)
  obtain ⟨l, rfl, hl⟩ := list_of (xs := xs) fun y hy => h y (by simp [hy])
  refine ⟨a :: l, rfl, fun b hb => ?_⟩
  rcases List.mem_cons.1 hb with rfl | hb
  ·exact ha
  ·exact hl b hb
theorem mi_of {ws : List V} (h : shMi.Is ws) : ∃ m : Mi, shMi.val ws = m.V ∧ m.ok := by
 obtain ⟨_, _, rfl, ⟨b, rfl⟩, _, _, rfl, ⟨k, rfl, hk⟩, _, _, rfl, ⟨n, rfl, hn⟩, rfl⟩ := h
 have h1 := wf_u8 hk
 have h2 := wf_u16 hn
 exact ⟨⟨b, k, n⟩, rfl, h1.1, h1.2, h2.1, h2.2⟩
theorem mis_of {ws : List V} (h : (Sh.sl shMi).Is ws) : ∃ v l, ws = [v] ∧ isMs v l ∧ ∀ m ∈ l, m.ok := by
 obtain ⟨v, xs, rfl, hs, _, hx⟩ := h
 obtain ⟨l, rfl, hl⟩ := list_of (f := Mi.V) (p := Mi.ok) fun x hxm => by
  obtain ⟨ws, h1, rfl⟩ := hx x hxm
  obtain ⟨m, h2, h3⟩ := mi_of h1
  exact ⟨m, h2, h3⟩
 exact ⟨v, l, rfl, hs, hl⟩
theorem ints_of {ws : List V} (h : (Sh.sl (.int .u16)).Is ws) : ∃ v o, ws = [v] ∧ isEl v o ∧ ∀ n ∈ nums o, 0 ≤ n ∧ n < 65536 := by
 obtain ⟨v, xs, rfl, hs, _, hx⟩ := h
 obtain ⟨l, rfl, hl⟩ := list_of (f := V.int .u16) (p := fun n => 0 ≤ n ∧ n < 65536) fun x hxm => by
  obtain ⟨ws, ⟨n, rfl, hn⟩, rfl⟩ := hx x hxm
  exact ⟨n, rfl, wf_u16 hn⟩
 rcases hs with ⟨rfl, _⟩ | ⟨rfl, _⟩ | ⟨f, rfl⟩
 ·exact ⟨_, none, rfl, .inl ⟨rfl, rfl⟩, by simp [nums]⟩
 ·exact ⟨_, some [], rfl, .inr (.inl ⟨rfl, rfl⟩), by simp [nums]⟩
 ·exact ⟨_, some l, rfl, .inr (.inr ⟨f, l, rfl, rfl⟩), hl⟩
theorem lists_of {ws : List V} (h : (Sh.sl (.sl (.int .u16))).Is ws) : ∃ v ls, ws = [v] ∧ isLs v ls ∧ ∀ o ∈ ls, ∀ n ∈ nums o, 0 ≤ n ∧ n < 65536 := by
 obtain ⟨v, xs, rfl, hs, _, hx⟩ := h
 have hgo : ∀ xs : List V, (∀ x ∈ xs, ∃ ws, (Sh.sl (.int .u16)).Is ws ∧ x = (Sh.sl (.int .u16)).val ws) → ∃ ls : List (Option (List Int)), xs.length = ls.length ∧ (∀ k (h : k < xs.length) (h' : k < ls.length), isEl xs[k] ls[k]) ∧ ∀ o ∈ ls, ∀ n ∈ nums o, 0 ≤ n ∧ n < 65536 := by
  intro xs
  induction xs with
  | nil => intro _; exact ⟨[], rfl, fun k h => by simp at h, by simp⟩
  | cons x xs ih =>
   intro h
   obtain ⟨ws, h1, rfl⟩ := h x (by simp)
   obtain ⟨v, o, rfl, h2, h3⟩ := ints_of h1
   obtain ⟨ls, l1, l2, l3⟩ := ih fun y hy => h y (by simp [hy])
   refine ⟨o :: ls, by simp [l1], fun k hk hk' => ?_, fun o' ho' => ?_⟩
   ·cases k with
    | zero => exact h2
    | succ k => exact l2 k (by simpa using hk) (by simpa using hk')
   ·rcases List.mem_cons.1 ho' with rfl | ho'
    ·exact h3
    ·exact l3 o' ho'
 obtain ⟨ls, l1, l2, l3⟩ := hgo xs hx
 exact ⟨v, ls, rfl, ⟨xs, hs, l1, l2⟩, l3⟩
theorem de_of {ws : List V} (h : shDe.Is ws) : ∃ d : De, shDe.val ws = d.V ∧ d.ok := by
 obtain ⟨ws1, _, rfl, h1, ws2, _, rfl, h2, _, _, rfl, ⟨w, rfl, hw⟩, rfl⟩ := h
 have hb := h2.bel (n := 0)
 obtain ⟨t, l, rfl, t1, t2⟩ := mis_of h1
 obtain ⟨r, ls, rfl, r1, r2⟩ := lists_of h2
 refine ⟨⟨t, l, r, ls, w⟩, rfl, t1, t2, r1, r2, ?_, wf_u8 hw⟩
 simpa [V.belL] using hb
theorem des_of {ws : List V} (h : (Sh.sl shDe).Is ws) : ∃ v, ∃ l : List De, ws = [v] ∧ isS 3 v (l.map De.V) ∧ (∀ d ∈ l, d.ok) ∧ l.length < 2 ^ 48 := by
 obtain ⟨v, xs, rfl, hs, hl, hx⟩ := h
 obtain ⟨l, rfl, hl'⟩ := list_of (f := De.V) (p := De.ok) fun x hxm => by
  obtain ⟨ws, h1, rfl⟩ := hx x hxm
  obtain ⟨a, h2, h3⟩ := de_of h1
  exact ⟨a, h2, h3⟩
 exact ⟨v, l, rfl, hs, hl', by simpa using hl⟩
end Go.AL.S
