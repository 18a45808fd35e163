/- What the program's functions do, part 6. Conditions: none. -/
import Derived.Test.YtfncnpcoekinjaaGreatDoorBe
open Nat renaming reduceEqDiff → nE, reduceLeDiff → nL, reduceAdd → nA, reduceLT → nT, le_refl → lr
open List renaming getElem?_eq_getElem → gEg, length_map → lmp, getElem_mem → gmm, length_append → lap, length_cons → lcs, mem_singleton → msg, append_nil → apn, mem_append → map', take_length → tkl, map_cons → mcs, map_append → mpp, mem_map → mmp, any_eq_true → aet, length_replicate → lrp, take_add_one → tao, length_take → ltk, mem_filter → mfl
set_option maxRecDepth 100000
set_option maxHeartbeats 8000000
namespace Go.AL.S
open Go Go.AL Go.AL.SE Go.Proofs
variable {E : Env}
theorem remQ {W : AW} {K : V → AW → Prop} {k : IntKind} {a b : Nat} (h : 0 < b) : sem E (.bin .rem) [.int k (a : Int), .int k (b : Int)] W K = K (.int k ((a % b : Nat) : Int)) W := by
 have : (b : Int) ≠ 0 := by omega
 have h2 : (b : Int) = 0 ↔ False := iff_false_intro this
 simp only [sem, rsem, tsem, if_true, binI, h2, if_false, Int.ofNat_tmod]
end Go.AL.S
set_option maxHeartbeats 4000000
namespace Go.AL.S
open Go Go.AL Go.Proofs Go.Sort Go.Shelf Go.RowKit
variable {E : Env}
end Go.AL.S
namespace Go.AL.S
open Go Go.AL Go.AL.SE Go.Proofs
variable {E : Env}
theorem wr_node {s : Str} {k v : Int} (h : (wrR s k v).2 = true) : (wrR s k v).1 ∈ nodesR s := by
 unfold wrR at h ⊢
 cases hw : who s k v with
 | none => rw [hw] at h; cases h
 | some t =>
  rw [hw] at h
  have h2 : t.st ≠ 2 := of_decide_eq_true h
  exact List.mem_map.2 ⟨t, List.mem_filter.2 ⟨(who_mem hw).1, by simpa using h2⟩, rfl⟩
theorem edgeP_ends {a b k : Int} {N : List Int} (ha : a ∈ N) (hb : b ∈ N) : ∀ x ∈ edgeP a b k, x.1 ∈ N ∧ x.2.1 ∈ N := by
 intro x hx
 unfold edgeP at hx
 split at hx
 ·cases hx
 ·rw [List.mem_singleton.1 hx]; exact ⟨ha, hb⟩
theorem build_ends (s : Str) (o : Ods) : ∀ x ∈ buildP s o, x.1 ∈ nodesR s ∧ x.2.1 ∈ nodesR s := by
 intro x hx
 rcases List.mem_append.1 hx with hx | hx
 ·obtain ⟨k, _, hx⟩ := List.mem_flatMap.1 hx
  obtain ⟨y, _, hx⟩ := List.mem_flatMap.1 hx
  split at hx
  ·rename_i h; exact edgeP_ends (wr_node h.1) (wr_node h.2) x hx
  ·cases hx
 ·obtain ⟨t, ht, hx⟩ := List.mem_flatMap.1 hx
  unfold txnP at hx
  split at hx
  ·cases hx
  ·rename_i h2
   have htn : t.id ∈ nodesR s := List.mem_map.2 ⟨t, List.mem_filter.2 ⟨ht, by simpa using h2⟩, rfl⟩
   obtain ⟨r, _, hx⟩ := List.mem_flatMap.1 hx
   split at hx
   ·rcases List.mem_append.1 hx with hx | hx
    ·unfold lastP at hx
     split at hx
     ·split at hx
      ·rename_i h; exact edgeP_ends (wr_node h) htn x hx
      ·cases hx
     ·cases hx
    ·unfold nextP at hx
     split at hx
     ·split at hx
      ·rename_i h; exact edgeP_ends htn (wr_node h) x hx
      ·cases hx
     ·cases hx
   ·cases hx
theorem nodes_pw {s : Str} (h : SOk s) : (nodesR s).Pairwise fun a b => a < b := List.pairwise_map.2 (List.Pairwise.filter _ h.lt)
structure TK (so : Str × Ods) (k : Int) : Prop where
 ok : SOk so.1
 ol : so.2.length = 8
 id : ∀ t ∈ so.1, t.id ≤ k
 ks : ∀ j : Int, 0 ≤ j → (keyO so.2 j).length ≤ 32
theorem map_ok {s : Str} {i : Int} {f : Tx → Tx} (hs : SOk s) (hid : ∀ t, (f t).id = t.id) (hf : ∀ t, t.ok → (f t).ok) : SOk (mapId s i f) := by
 refine ⟨fun t ht => ?_, mapId_lt hs.lt i hid⟩
 obtain ⟨x, hx, rfl⟩ := List.mem_map.1 ht
 split
 ·exact hf x (hs.ok x hx)
 ·exact hs.ok x hx
theorem endT_ok {st : Int} (h : 0 ≤ st ∧ st < 4) (t : Tx) (ht : t.ok) : (endT st t).ok := by
 unfold endT
 split
 ·exact ⟨ht.id0, ht.id1, ht.cl0, ht.cl1, ht.ms, ht.msl, ht.lsl, ht.ls, h⟩
 ·exact ht
theorem comT_ok {ls : List (Option (List Int))} (h : ∀ o ∈ ls, ∀ n ∈ nums o, 0 ≤ n ∧ n < 65536) (t : Tx) (ht : t.ok) : (comT ls t).ok := by
 unfold comT
 split
 ·rename_i hc
  have hc := hc.2.1
  simp only [okC, Bool.and_eq_true, decide_eq_true_eq, Bool.not_eq_true', List.any_eq_false] at hc
  refine ⟨ht.id0, ht.id1, ht.cl0, ht.cl1, ht.ms, ht.msl, hc.1, fun o ho => ⟨?_, h o ho⟩, by show (0 : Int) ≤ 1 ∧ (1 : Int) < 4; decide⟩
  have := hc.2 o ho
  simp only [longL, decide_eq_true_eq] at this
  omega
 ·exact ht
theorem build_same {s : Str} {o o' : Ods} (hs : SOk s) (ho : ∀ j : Int, 0 ≤ j → keyO o j <+: keyO o' j) {x : Ek} (hx : x ∈ buildP s o) : x ∈ buildP s o' :=
 build_mono hs (fun _ _ _ => rfl) (fun _ _ h => h) ho (fun t ht r hr => ⟨t, ht, rfl, by rw [readsR_st hr]; decide, hr⟩) hx
theorem build_app {s : Str} {o : Ods} (hs : SOk s) (t : Tx) {x : Ek} (hx : x ∈ buildP s o) : x ∈ buildP (s ++ [t]) o := by
 refine build_mono hs (fun k v h => ?_) (fun k v h => ?_) (fun j _ => List.prefix_refl _) (fun t ht r hr => ⟨t, by simp [ht], rfl, by rw [readsR_st hr]; decide, hr⟩) hx
 ·unfold wrR at h ⊢
  rw [who_app]
  cases hw : who s k v with
  | none => rw [hw] at h; simp at h
  | some t => rfl
 ·rw [who_app]
  cases hw : who s k v with
  | none => rw [hw] at h; simp at h
  | some t => rfl
theorem endD_TK {s : Str} {o : Ods} {i : Int} {d : De} (hs : SOk s) (hd : ∀ o ∈ d.rl, ∀ n ∈ nums o, 0 ≤ n ∧ n < 65536) : SOk (endD s i d) ∧ (∀ t ∈ endD s i d, ∃ x ∈ s, t.id = x.id) ∧ ∀ x ∈ buildP s o, x.1 ≠ i → x.2.1 ≠ i → x ∈ buildP (endD s i d) o := by
 have hm : ∀ {f : Tx → Tx}, (∀ t, (f t).id = t.id) → ∀ t ∈ mapId s i f, ∃ x ∈ s, t.id = x.id := fun {f} hid t ht => by
  obtain ⟨x, hx, rfl⟩ := List.mem_map.1 ht
  refine ⟨x, hx, ?_⟩
  split <;> simp [hid]
 unfold endD
 split
 ·rw [commitR_map hs.lt]
  exact ⟨map_ok hs (comT_id _) (comT_ok hd), hm (comT_id _), fun x hx _ _ => build_map hs i (comT_id _) (comT_ms _) (comT_st _) (fun t r hr => comT_reads hr) (fun j _ => List.prefix_refl _) hx⟩
 ·split
  ·by_cases he : (endR s i 2).2 = 0
   ·obtain ⟨t, c1, c2⟩ := endR_ok.1 he
    rw [endR_map hs.lt]
    exact ⟨map_ok hs (endT_id _) (endT_ok (by decide)), hm (endT_id _), fun x hx h1 h2 => (build_abort hs.lt c1 c2).2 ⟨hx, h1, h2⟩⟩
   ·rw [endR_err he]
    exact ⟨hs, fun t ht => ⟨t, ht, rfl⟩, fun x hx _ _ => hx⟩
  ·split
   ·rw [endR_map hs.lt]
    exact ⟨map_ok hs (endT_id _) (endT_ok (by decide)), hm (endT_id _), fun x hx _ _ => build_map hs i (endT_id _) (endT_ms _) endT3_st (fun t r hr => endT_reads hr) (fun j _ => List.prefix_refl _) hx⟩
   ·exact ⟨hs, fun t ht => ⟨t, ht, rfl⟩, fun x hx _ _ => hx⟩
theorem node_in {s : Str} {a : Int} (h : a ∈ nodesR s) : ∃ t ∈ s, a = t.id := by
 obtain ⟨t, ht, rfl⟩ := List.mem_map.1 h
 exact ⟨t, (List.mem_filter.1 ht).1, rfl⟩
theorem TK.step {so : Str × Ods} {k : Nat} {d : De} (h : TK so k) (hd : d.ok) (hk : k + 1 < 65536) : TK (stepD so ((k + 1 : Nat) : Int) d) ((k + 1 : Nat) : Int) ∧ ∀ x ∈ buildP so.1 so.2, x ∈ buildP (stepD so ((k + 1 : Nat) : Int) d).1 (stepD so ((k + 1 : Nat) : Int) d).2 := by
 obtain ⟨s, o⟩ := so
 obtain ⟨hs, ho, hid, hks⟩ := h
 simp only at hs ho hid hks
 unfold stepD
 simp only
 by_cases he : (beginR s 0 ((k + 1 : Nat) : Int) d.ml).2 = 0
 ·rw [if_neg (fun h => h he)]
  have hb : okB 0 d.ml = true ∧ lastId s < ((k + 1 : Nat) : Int) ∧ (beginR s 0 ((k + 1 : Nat) : Int) d.ml).1 = s ++ [⟨((k + 1 : Nat) : Int), 0, d.ml, [], 0⟩] := by
   unfold beginR at he ⊢
   split at he
   ·rename_i h1
    split at he
    ·cases he
    ·rename_i h2
     split at he
     ·rename_i h3
      rw [if_pos h1, if_neg h2, if_pos h3]
      exact ⟨h1, by omega, rfl⟩
     ·cases he
   ·cases he
  obtain ⟨b1, b2, b3⟩ := hb
  rw [b3]
  simp only [okB, Bool.and_eq_true, decide_eq_true_eq] at b1
  have hs1 : SOk (s ++ [⟨((k + 1 : Nat) : Int), 0, d.ml, [], 0⟩]) := app_ok hs ⟨by simp only; omega, by simp only; omega, Int.le_refl _, by show (0 : Int) < 256; decide, hd.mi, b1.1.1.2, by simp, by simp, by show (0 : Int) ≤ 0 ∧ (0 : Int) < 4; decide⟩ b2
  obtain ⟨e1, e2, e3⟩ := endD_TK (o := o) (i := ((k + 1 : Nat) : Int)) (d := d) hs1 hd.ns
  generalize endD (s ++ [⟨((k + 1 : Nat) : Int), 0, d.ml, [], 0⟩]) ((k + 1 : Nat) : Int) d = s2 at e1 e2 e3 ⊢
  have hr : ∀ r ∈ readsR ((find s2 ((k + 1 : Nat) : Int)).getD Tx.zero), 0 ≤ r.1 ∧ (nums r.2).length ≤ 32 := by
   cases hf : find s2 ((k + 1 : Nat) : Int) with
   | none => intro r hr; simp [readsR, Tx.zero] at hr
   | some t => exact fun r hr => ⟨(readsR_key (find_ok e1 hf).2.2.ms r hr).1, (readsR_nums (find_ok e1 hf).2.2 r hr).1⟩
  obtain ⟨t1, t2, t3, _⟩ := takes_grow ho fun r h => (hr r h).1
  refine ⟨⟨e1, t1, fun t ht => ?_, fun j hj => ?_⟩, fun x hx => build_same e1 t2 (e3 x (build_app hs _ hx) ?_ ?_)⟩
  ·obtain ⟨x, hx, e⟩ := e2 t ht
   rw [e]
   rcases List.mem_append.1 hx with hx | hx
   ·have := hid x hx; omega
   ·rw [List.mem_singleton.1 hx]; exact Int.le_refl _
  ·rcases t3 j hj with e | ⟨r, h1, _, h2⟩
   ·rw [e]; exact hks j hj
   ·rw [← h2]; exact (hr r h1).2
  ·obtain ⟨t, ht, e⟩ := node_in (build_ends s o x hx).1
   have := hid t ht
   rw [e]; omega
  ·obtain ⟨t, ht, e⟩ := node_in (build_ends s o x hx).2
   have := hid t ht
   rw [e]; omega
 ·rw [if_pos he]
  have hb : (beginR s 0 ((k + 1 : Nat) : Int) d.ml).1 = s := by
   rcases beginR_cases s 0 ((k + 1 : Nat) : Int) d.ml with ⟨_, h⟩ | ⟨h, _⟩
   ·exact h
   ·exact absurd h he
  rw [hb]
  exact ⟨⟨hs, ho, fun t ht => by have := hid t ht; omega, hks⟩, fun x hx => hx⟩
theorem os0_none : ∀ j : Int, keyO os0 j = [] := by
 intro j
 unfold keyO os0
 split
 ·rfl
 ·rename_i h
  have : j.toNat < 8 := by omega
  generalize j.toNat = n at this
  rcases n with _ | _ | _ | _ | _ | _ | _ | _ | n <;> first | rfl | omega
theorem told_step {l : List De} {k : Nat} (hk : k < l.length) : toldR (l.take (k + 1)) = stepD (toldR (l.take k)) ((k + 1 : Nat) : Int) l[k] := told_take hk
theorem told_TK {l : List De} (h : ∀ d ∈ l, d.ok) (hl : l.length < 65535) : ∀ k : Nat, k ≤ l.length → TK (toldR (l.take k)) k
 | 0, _ => ⟨⟨by simp [toldR], by simp [toldR]⟩, rfl, by simp [toldR], fun j _ => by show (keyO os0 j).length ≤ 32; rw [os0_none]; simp⟩
 | k + 1, hk => by
  rw [told_step (by omega)]
  exact ((told_TK h hl k (by omega)).step (h _ (gmm _)) (by omega)).1
theorem told_up {l : List De} (h : ∀ d ∈ l, d.ok) (hl : l.length < 65535) {j : Nat} : ∀ n, j + n ≤ l.length → ∀ x ∈ buildP (toldR (l.take j)).1 (toldR (l.take j)).2, x ∈ buildP (toldR (l.take (j + n))).1 (toldR (l.take (j + n))).2
 | 0, _, x, hx => hx
 | n + 1, hn, x, hx => by
  have := told_up h hl n (by omega) x hx
  rw [← Nat.add_assoc, told_step (by omega)]
  exact ((told_TK h hl (j + n) (by omega)).step (h _ (gmm _)) (by omega)).2 x this
theorem told_grows {l : List De} (h : ∀ d ∈ l, d.ok) (hl : l.length < 65535) {j : Nat} (hj : j ≤ l.length) {x : Ek} (hx : x ∈ buildP (toldR (l.take j)).1 (toldR (l.take j)).2) : x ∈ buildP (toldR l).1 (toldR l).2 := by
 have := told_up h hl (l.length - j) (by omega) x hx
 rwa [show j + (l.length - j) = l.length by omega, tkl] at this
theorem keyP_len' {s : Str} {os : Ods} (k : Int) (h : (keyO os k).length ≤ 32) : (keyP s os k).length ≤ 32 := by
 have := flat_len (f := kf s k) (n := 1) (l := (keyO os k).zip (keyO os k).tail) fun x _ => by
  unfold kf
  split
  ·exact edgeP_len _ _ _
  ·simp
 have h2 : ((keyO os k).zip (keyO os k).tail).length ≤ 32 := by rw [List.length_zip]; omega
 have h3 : keyP s os k = ((keyO os k).zip (keyO os k).tail).flatMap (kf s k) := rfl
 rw [h3]; omega
theorem TK.len {so : Str × Ods} {k : Int} (h : TK so k) : (buildP so.1 so.2).length < 2 ^ 21 := by
 have h1 := flat_len (f := fun (k : Nat) => keyP so.1 so.2 (k : Int)) (n := 32) (l := List.range 8) fun k _ => keyP_len' k (h.ks k (by omega))
 have h2 := flat_len (f := txnP so.1 so.2) (n := 16) (l := so.1) fun t ht => txnP_len (h.ok.ok t ht)
 have h3 := st_len h.ok
 have h4 : (List.range 8).length = 8 := rfl
 rw [buildP, keysP, lap]
 omega
theorem SOk.nodes {s : Str} (h : SOk s) : ∀ x ∈ nodesR s, 0 ≤ x ∧ x < 65536 := fun x hx => by
 obtain ⟨t, ht, rfl⟩ := node_in hx
 exact ⟨(h.ok t ht).id0, (h.ok t ht).id1⟩
theorem best_more {P Q : List Ek} (hs : ∀ x ∈ P, x ∈ Q) {N M : List Int} (hM : ∀ x ∈ Q, x.1 ∈ M ∧ x.2.1 ∈ M) {own : Int} (h : bestR (edL P) N own ≠ []) : bestR (edL Q) M own ≠ [] ∧ (bestR (edL Q) M own).length ≤ (bestR (edL P) N own).length := by
 obtain ⟨N1, f, N2, h1, h2, h3, h4⟩ := (best_S (edL P) own N).at_ h
 obtain ⟨m, m1, m2⟩ := sd_mono (es' := edL Q) (fun e he => edL_mem.2 (hs _ (edL_mem.1 he))) h2
 have hf : f ∈ M := by
  have hw := far_walk m2
  cases hw with
  | cons a _ =>
   obtain ⟨e, he, _, h5, _⟩ := a
   have := (hM _ (edL_mem.1 he)).1
   rw [show (ofEd e).1 = e.fr from rfl, h5] at this
   exact this
 obtain ⟨a, b⟩ := (best_S (edL Q) own M).le f hf m m2
 exact ⟨a, by omega⟩
def c_lawLe_1 : AC := (.seq (.r [.m 70 13,.m 71 5,.u 72 (.call 14) 71,.u 73 (.len 1 0) 72,.b 74 (.bin .lss) 70 73,.m 75 74,.M 76 10 75 true,.p 77 .pick [.t 75,.t 76,.F]] (.w 77 2)) (.seq (.block 3 (.r [.m 80 5,.m 81 8,.m 82 13,.u 83 (.fld 0) 9,.u 84 (.load false 1) 83,.u 85 (.len 1 0) 84,.a 86 (.bin .sub) 85 1,.p 87 (.call 23) [.t 80,.t 81,.t 82,.t 86]] (.cond (.t 87) (.r [.v 4 (.bool false)] .ret) .skip))) (.reg [.m 78 13,.a 79 (.bin .add) 78 1,.m 13 79])))
def c_lawLe_0 : AC := (.seq (.r [.m 36 8,.p 37 (.bin .lss) [.t 36,.c (.int .u8 3)]] (.w 37 0)) (.seq (.block 1 (.r [.m 41 5,.m 42 8,.b 43 (.idxa 3 1) 7 42,.u 44 (.load false 1) 43,.b 45 (.call 12) 41 44,.m 40 45,.u 46 (.ext 0) 40,.u 47 (.ext 1) 40,.p 9 (.alloc [.nilsl,.nilsl]) [],⟨none,.store 2, [.t 9,.t 46], none⟩,.m 10 47] (.r [.m 49 6,.m 50 8,.b 51 (.idxa 3 1) 7 50,.u 52 (.load false 1) 51,.b 53 (.call 12) 49 52,.m 48 53,.u 54 (.ext 0) 48,.u 55 (.ext 1) 48,.p 11 (.alloc [.nilsl,.nilsl]) [],⟨none,.store 2, [.t 11,.t 54], none⟩,.m 12 55] (.seq (.r [.m 56 12,.m 57 56,.M 58 10 57 true,.U 59 (.un .not) 58 57 true,.M 60 59 57 true,.U 61 (.fld 0) 9 60 false,.U 62 (.load false 1) 61 60 false,.U 63 (.len 1 0) 62 60 false,.U 64 (.fld 0) 11 60 false,.U 65 (.load false 1) 64 60 false,.U 66 (.len 1 0) 65 60 false,.B 67 (.bin .gtr) 63 66 60 false,.P 68 .pick [.t 60,.T,.t 67] 57 true,.p 69 .pick [.t 57,.t 68,.F]] (.cond (.t 69) (.r [.v 4 (.bool false)] .ret) .skip)) (.r [.v 13 (.int .i64 0)] (.block 2 (.loop c_lawLe_1))))))) (.reg [.m 38 8,.p 39 (.bin .add) [.t 38,.c (.int .u8 1)],.m 8 39])))
def c_lawLe : AC := (.r [.v 4 (.bool false)] (.seq (.r [.m 14 0,.u 15 (.call 22) 14,.u 16 (.un .not) 15] (.cond (.t 16) (.r [.p 17 (.call 9) [],.m 4 17] .ret) .skip)) (.r [.m 18 0,.u 19 (.call 10) 18,.m 5 19] (.r [.m 20 0,.m 21 1,.u 22 (.conv .i64) 21,.m 23 0,.u 24 (.len 1 0) 23,.a 25 (.bin .add) 24 1,.b 26 (.bin .rem) 22 25,.b 27 (.slc 3 false true false) 20 26,.u 28 (.call 10) 27,.m 6 28] (.seq (.r [.m 29 5,.p 30 (.eqn false 0) [.t 29,.c (.nilptr)],.m 31 30,.M 32 6 31 false,.P 33 (.eqn false 0) [.t 32,.c (.nilptr)] 31 false,.p 34 .pick [.t 31,.T,.t 33]] (.cond (.t 34) (.r [.v 4 (.bool false)] .ret) .skip)) (.r [.p 35 (.build [.int .u8 0,.int .u8 0,.int .u8 0] [(0, 1), (1, 1), (2, 1)]) [.c (.int .u8 1),.c (.int .u8 8),.c (.int .u8 16)],.p 7 (.alloc [.int .u8 0,.int .u8 0,.int .u8 0]) [],⟨none,.store 3, [.t 7,.t 35], none⟩] (.seq (.r [.v 8 (.int .u8 0)] (.block 0 (.loop c_lawLe_0))) (.r [.p 88 (.call 9) [],.m 4 88] .ret))))))))
theorem ok_lawLee : compF Tryz.prog Tryz.f5 ⟨false, false, []⟩ = some (c_lawLe, [.tmp 4], 89) := by kernel_rfl
theorem no_less {P : List Ek} {N : List Int} {own : Int} {i k : Nat} (hi : i < N.length) (hw : Wk (edL P) own k (N.getD i 0, false) (N.getD i 0, true)) : bestR (edL P) N own ≠ [] ∧ (bestR (edL P) N own).length ≤ k := by
 obtain ⟨d, h1, h2⟩ := far_le hw
 have hm : N.getD i 0 ∈ N := by rw [List.getD_eq_getElem?_getD, gEg hi]; exact gmm _
 obtain ⟨a, b⟩ := (best_S (edL P) own N).le _ hm d h2
 exact ⟨a, by omega⟩
theorem short_of {es : List Ed} {N : List Int} {k own : Int} (h : ownR k = some own) : shortR es N k = if bestR es N own = [] then none else some (bestR es N own, kindsR es own (bestR es N own)) := by
 unfold shortR
 rw [h]
theorem le_in (hP : PE E) {W0 : AW} {g m lo rc : Nat} {h v1 v2 : V} {P : List Ek} {N : List Int} (hG : Gr W0 g m h P N lo) (hNs : N.Pairwise fun a b => a < b) (hPN : ∀ x ∈ P, x.1 ∈ N ∧ x.2.1 ∈ N) {own : Int} (ho : own = 0 ∨ own = 1 ∨ own = 2) (hC : Cl W0) (hc : W0.get rc = some (.row [v1, v2])) (hrc : rc < W0.nx) (i1 : isS 1 v1 (intsV (bestR (edL P) N own))) (hbl : (bestR (edL P) N own).length < 2 ^ 32)
  {r6 r7 : Nat} {A : AFr} {Q : Exit → AFr → AW → Prop} (a5 : A 5 = some (.ptr g 0)) (a6 : A 6 = some (.ptr r6 0)) (a7 : A 7 = some (.ptr r7 0)) (a8 : A 8 = some (.int .u8 own)) (a9 : A 9 = some (.ptr rc 0)) (a10 : A 10 = some (.bool (!decide (bestR (edL P) N own = [])))) (a13 : A 13 = some (.int .i64 0))
  (hQ : ∀ A' W', A' 5 = some (.ptr g 0) → A' 6 = some (.ptr r6 0) → A' 7 = some (.ptr r7 0) → A' 8 = some (.int .u8 own) → Ex W0 W' → Q (.exit 2) A' W') : awp E (.loop c_lawLe_1) Q A W0 := by
 have hns := nowGS_S 1 (intsV N)
 have hnl := hG.nl
 rw [e_loop]
 refine alp (fun (i : Nat) A1 W1 => A1 5 = some (.ptr g 0) ∧ A1 6 = some (.ptr r6 0) ∧ A1 7 = some (.ptr r7 0) ∧ A1 8 = some (.int .u8 own) ∧ A1 9 = some (.ptr rc 0) ∧ A1 10 = some (.bool (!decide (bestR (edL P) N own = []))) ∧ A1 13 = some (.int .i64 (i : Nat)) ∧ i ≤ N.length ∧ Ex W0 W1) (fun i => N.length - i) 0
  ⟨a5, a6, a7, a8, a9, a10, a13, Nat.zero_le _, Ex.refl hC⟩ ?_
 rintro i A1 W1 ⟨q5, q6, q7, q8, q9, q10, q13, qi, qE⟩ hbs
 have hG1 := hG.ex qE
 simp (maxSteps:=9^9) (disch:=omega) only [BZ, ↓reduceIte, nE, c_lawLe_1, q5, q13]
 refine pc (nodes_c hP _ hG1) ?_
 by_cases hi : i < N.length
 ·by_cases hb : bestR (edL P) N own = []
  ·simp (maxSteps:=9^9) (disch:=omega) only [BS, ↓reduceIte, nE, hns.len, ints_len, clt, hi, dT]
   repeat (rw [guard_if]; simp (maxSteps:=9^9) (disch:=omega) only [BS, BC, cond_if, ↓reduceIte, nE, BD, q10, hb, dT])
   exact hQ _ _ tt tt tt tt qE
  ·have hpos : 0 < (bestR (edL P) N own).length := List.length_pos_iff.2 hb
   obtain ⟨n, hn⟩ : ∃ n, (bestR (edL P) N own).length = n + 1 := ⟨_, (Nat.succ_pred_eq_of_pos hpos).symm⟩
   have hsub := sub1 (k := n) (by omega)
   have gc := (qE.get _ hrc).trans hc
   simp (maxSteps:=9^9) (disch:=omega) only [BS, ↓reduceIte, nE, hns.len, ints_len, clt, hi, dT]
   repeat (rw [guard_if]; simp (maxSteps:=9^9) (disch:=omega) only [BX, ↓reduceIte, nE, BM, BD, q5, q8, q9, q10, q13, hb, dF, gc, i1.len, ints_len, hn, hsub])
   refine (closes_c hP _ hG1 hNs hPN ho hi (n : Int) (by omega)).mono ?_
   rintro _ _ ⟨rfl, b, rfl, hb'⟩
   cases b with
   | true =>
    exfalso
    obtain ⟨k, k1, k2⟩ := hb' rfl
    have := (no_less hi k2).2
    omega
   | false =>
    rw [qE.cl.start]
    simp (maxSteps:=9^9) (disch:=omega) only [BS, BC, cond_if, ↓reduceIte, nE, BM, BD, q5, q6, q7, q8, q9, q10, q13, wadd1]
    exact ⟨i + 1, ⟨tt, tt, tt, tt, tt, by rw [decide_eq_false hb]; rfl, tt, hi, qE.X⟩, by omega, qE.nx⟩
 ·simp (maxSteps:=9^9) (disch:=omega) only [BS, ↓reduceIte, nE, hns.len, ints_len, clt, hi, dF]
  repeat (rw [guard_if]; simp (maxSteps:=9^9) (disch:=omega) only [BS, BC, cond_if, ↓reduceIte, nE, BM])
  exact hQ _ _ tt tt tt tt qE
def clsR (own : Int) : Int := if own = 0 then 1 else if own = 1 then 8 else 16
theorem own_cls {own : Int} (ho : own = 0 ∨ own = 1 ∨ own = 2) : ownR (clsR own) = some own := by
 rcases ho with rfl | rfl | rfl <;> rfl
theorem lawLe_c (hP : PE E) (hd0 : E.w0.drawn = 0) (W : AW) {v : V} {l : List De} (hv : isS 3 v (l.map De.V)) (ha : ∀ d ∈ l, d.ok) (hl : l.length < 2 ^ 48) {ahead : Int} (hah : 0 ≤ ahead ∧ ahead < 256) :
  ACalls E 5 [v, .int .u8 ahead] W fun Y _ => Y = .bool true := by
 refine ACalls.of hP Tryz.func5 ok_lawLee (by simp) fun _ hok => ?_
 refine awp_start hok ?_
 simp (maxSteps:=9^9) (disch:=omega) only [BZ, ↓reduceIte, reduceCtorEq, c_lawLe, hv.frz]
 refine (manyD_c hP _ hv ha hl).mono ?_
 rintro _ _ ⟨rfl, b, rfl, hb⟩
 cases b with
 | false =>
  simp (maxSteps:=9^9) (disch:=omega) only [BX, ↓reduceIte, BD]
  refine pc (works_c hP hd0 _) ?_
  simp (maxSteps:=9^9) (disch:=omega) only [BS, BC, ↓reduceIte, ]
  exact ⟨_, rfl, _, W, backX hok rfl, lr _, rfl⟩
 | true =>
  obtain ⟨h30, hf⟩ := hb rfl
  simp (maxSteps:=9^9) (disch:=omega) only [BX, ↓reduceIte, reduceCtorEq, BD, hv.frz]
  obtain ⟨a, rfl⟩ := Int.eq_ofNat_of_zero_le hah.1
  have hd : ∀ d ∈ l, d.ok ∧ d.small := fun d h => ⟨ha d h, (hf d h).small⟩
  refine (told_c hP _ hv hd (by omega)).mono ?_
  rintro _ W1 ⟨g, m, h, rfl, hG, hS, hE⟩
  rw [← X_start hok] at hE
  have hlt := Nat.mod_lt a (Nat.succ_pos l.length)
  obtain ⟨n, hn⟩ : ∃ n, a % (l.length + 1) = n := ⟨_, rfl⟩
  have hnl : n ≤ l.length := by rw [← hn]; exact Nat.le_of_lt_succ hlt
  have ht : isS 3 (takeV v n) ((l.take n).map De.V) := by rw [List.map_take]; exact hv.take n
  have hrm : ∀ W K, sem E (.bin .rem) [.int .i64 (a : Int), .int .i64 ((l.length + 1 : Nat) : Int)] W K = K (.int .i64 (n : Int)) W := fun W K => by rw [← hn]; exact remQ (by omega)
  have hsl : ∀ W K, sem E (.slc 3 false true false) [v, .int .i64 (n : Int)] W K = K (takeV v n) W := fun W K => hv.slc (by rw [lmp]; exact hnl)
  have hwa : IntKind.i64.wrap (a : Int) = (a : Int) := IntWalk.i64_in _ (by omega)
  simp (maxSteps:=9^9) (disch:=omega) only [BZ, ↓reduceIte, nE, reduceCtorEq, hv.len, lmp, wadd1, hwa, hrm, hsl, ht.frz]
  refine (told_c hP _ ht (fun d h => hd d (List.mem_of_mem_take h)) (by rw [ltk]; omega)).mono ?_
  rintro _ W2 ⟨g2, m2, h2, rfl, hG2, hS2, hE2⟩
  have hEW := hE.trans hE2
  have hGw := hG.ex hE2
  have n2 := hEW.nx
  have en : eqNil 0 (.ptr g 0) .nilptr = some false := rfl
  have en2 : eqNil 0 (.ptr g2 0) .nilptr = some false := rfl
  rw [hEW.cl.start]
  simp (maxSteps:=9^9) (disch:=omega) only [BZ, ↓reduceIte, nE, BM, en]
  repeat (rw [guard_if]; simp (maxSteps:=9^9) (disch:=omega) only [BX, ↓reduceIte, nE, BM, BD, nA, nL, nT, en2])
  have hTK := told_TK ha (by omega) l.length (lr _)
  have hTK2 := told_TK ha (by omega) n hnl
  rw [tkl] at hTK
  have hlen : (edL (buildP (toldR l).1 (toldR l).2)).length < 2 ^ 30 := by have := hTK.len; have := edL_le (buildP (toldR l).1 (toldR l).2); omega
  have hlen2 : (edL (buildP (toldR (l.take n)).1 (toldR (l.take n)).2)).length < 2 ^ 30 := by have := hTK2.len; have := edL_le (buildP (toldR (l.take n)).1 (toldR (l.take n)).2); omega
  have hgr : ∀ x ∈ buildP (toldR (l.take n)).1 (toldR (l.take n)).2, x ∈ buildP (toldR l).1 (toldR l).2 := fun x hx => told_grows ha (by omega) hnl hx
  have hNs := nodes_pw hS
  have hPN := build_ends (toldR l).1 (toldR l).2
  have hN := hS.nodes
  have hN2 := hS2.nodes
  generalize buildP (toldR l).1 (toldR l).2 = P at hG hGw hlen hgr hPN
  generalize nodesR (toldR l).1 = N at hG hGw hNs hPN hN
  generalize buildP (toldR (l.take n)).1 (toldR (l.take n)).2 = P2 at hG2 hlen2 hgr
  generalize nodesR (toldR (l.take n)).1 = N2 at hG2 hN2
  obtain ⟨WB, hWB⟩ : ∃ WB, WB = X W2 W2.nx [.row [.int .u8 1, .int .u8 8, .int .u8 16]] := ⟨_, rfl⟩
  have gA : WB.get (rf W2.nx 0) = some (.row [.int .u8 1, .int .u8 8, .int .u8 16]) := by rw [hWB, X_get]; rfl
  have lA : rf W2.nx 0 < WB.nx := by rw [hWB]; simp [X_nx, rf]
  have hE0 : Ex W2 WB := by rw [hWB]; exact (Ex.refl hEW.cl).X
  have hEB := hEW.trans hE0
  have hGB := hGw.ex hE0
  have hGB2 := hG2.ex hE0
  rw [← hWB]
  clear hWB
  generalize rf W2.nx 0 = ra at gA lA
  rw [e_loop]
  refine alp (fun (i : Nat) A1 W3 => A1 5 = some (.ptr g 0) ∧ A1 6 = some (.ptr g2 0) ∧ A1 7 = some (.ptr ra 0) ∧ A1 8 = some (.int .u8 (i : Nat)) ∧ i ≤ 3 ∧ Ex WB W3) (fun i => 3 - i) 0
   ⟨tt, tt, tt, tt, by omega, Ex.refl hEB.cl⟩ ?_
  rintro i A1 W3 ⟨q5, q6, q7, q8, qi, qE⟩ hbs
  have hi3 : decide (((i : Nat) : Int) < 3) = decide (i < 3) := by simp; omega
  by_cases hi : i < 3
  ·have ho : ((i : Nat) : Int) = 0 ∨ ((i : Nat) : Int) = 1 ∨ ((i : Nat) : Int) = 2 := by omega
   have hcls := own_cls ho
   have gA3 := (qE.get _ lA).trans gA
   have hxa : ∀ (W : AW) (K : V → AW → Prop), sem E (.idxa 3 1) [.ptr ra 0, .int .u8 (i : Nat)] W K = K (.ptr ra i) W := fun W K => by
    obtain rfl | rfl | rfl : i = 0 ∨ i = 1 ∨ i = 2 := by omega
    all_goals simp [sem, rsem, tsem]
   have hld : ∀ l (K : V → AW → Prop), sem E (.load false 1) [.ptr ra i] (X W3 W3.nx l) K = K (.int .u8 (clsR (i : Nat))) (X W3 W3.nx l) := fun l K => by
    have : (X W3 W3.nx l).get ra = some (.row [.int .u8 1, .int .u8 8, .int .u8 16]) := by rw [X_old (by have := qE.nx; omega)]; exact gA3
    obtain rfl | rfl | rfl : i = 0 ∨ i = 1 ∨ i = 2 := by omega
    all_goals simp [sem, rsem, this, clsR, partV]
   have hG3 := hGB.ex qE
   have hG32 := hGB2.ex qE
   refine awp_startC qE.cl ?_
   simp (maxSteps:=9^9) (disch:=omega) only [BX, ↓reduceIte, nE, c_lawLe_0, q5, q7, q8, hi3, hi, dT, hxa, hld]
   refine (cshort_c hP _ (hG3.ex ((Ex.refl qE.cl).X)) hN hlen _).mono ?_
   rintro _ _ ⟨v1, v2, rfl, i1, i2, rfl⟩
   rw [short_of hcls] at i1 i2 ⊢
   have hbt : (bestR (edL P) N (i : Nat)).length < 2 ^ 32 := best_len (own := ((i : Nat) : Int)) hlen (N := N) (b := []) (by simp)
   have hmore := best_more hgr (N := N2) hPN (own := ((i : Nat) : Int))
   have e1 : (if bestR (edL P) N (i : Nat) = [] then none else some (bestR (edL P) N (i : Nat), kindsR (edL P) (i : Nat) (bestR (edL P) N (i : Nat)))).isSome = !decide (bestR (edL P) N (i : Nat) = []) := by split <;> simp [*]
   rw [e1]
   have j1 : isS 1 v1 (intsV (bestR (edL P) N (i : Nat))) := by
    by_cases h0 : bestR (edL P) N (i : Nat) = []
    ·rw [if_pos h0] at i1
     rw [h0]; exact i1
    ·rw [if_neg h0] at i1; exact i1
   obtain ⟨t1, ht1⟩ : ∃ t1, t1 = bestR (edL P) N (i : Nat) := ⟨_, rfl⟩
   simp (maxSteps:=9^9) (disch:=omega) only [BZ, ↓reduceIte, nE, BM, BD, nA, nL, nT, q6, q7, q8, i1.one, i2.one, hxa, hld]
   refine (cshort_c hP _ (hG32.ex ((Ex.refl qE.cl).X)) hN2 hlen2 _).mono ?_
   rintro _ _ ⟨v3, v4, rfl, i3, i4, rfl⟩
   rw [short_of hcls] at i3 i4 ⊢
   have e2 : (if bestR (edL P2) N2 (i : Nat) = [] then none else some (bestR (edL P2) N2 (i : Nat), kindsR (edL P2) (i : Nat) (bestR (edL P2) N2 (i : Nat)))).isSome = !decide (bestR (edL P2) N2 (i : Nat) = []) := by split <;> simp [*]
   rw [e2]
   have j3 : isS 1 v3 (intsV (bestR (edL P2) N2 (i : Nat))) := by
    by_cases h0 : bestR (edL P2) N2 (i : Nat) = []
    ·rw [if_pos h0] at i3
     rw [h0]; exact i3
    ·rw [if_neg h0] at i3; exact i3
   have w8 : IntKind.u8.wrap (((i : Nat) : Int) + 1) = ((i + 1 : Nat) : Int) := by
    obtain rfl | rfl | rfl : i = 0 ∨ i = 1 ∨ i = 2 := by omega
    all_goals rfl
   have fin : ∀ A', A' 5 = some (.ptr g 0) → A' 6 = some (.ptr g2 0) → A' 7 = some (.ptr ra 0) → A' 8 = some (.int .u8 (i : Nat)) → A' 9 = some (.ptr (rf W3.nx 0) 0) → A' 10 = some (.bool (!decide (bestR (edL P) N (i : Nat) = []))) → A' 13 = some (.int .i64 0) → ∀ Qf : Exit → AFr → AW → Prop, (∀ A'' W'', A'' 5 = some (.ptr g 0) → A'' 6 = some (.ptr g2 0) → A'' 7 = some (.ptr ra 0) → A'' 8 = some (.int .u8 (i : Nat)) → Ex (X W3 W3.nx [.row [v1, v2], .row [v3, v4]]) W'' → Qf (.exit 2) A'' W'') → awp E (.loop c_lawLe_1) Qf A' (X W3 W3.nx [.row [v1, v2], .row [v3, v4]]) := fun A' z5 z6 z7 z8 z9 z10 z13 Qf hQf =>
    le_in hP (hG3.ex ((Ex.refl qE.cl).X)) hNs hPN ho Cl.X (by rw [X_get]; rfl) (by simp [rf, X_nx]) j1 hbt z5 z6 z7 z8 z9 z10 z13 hQf
   by_cases h2 : bestR (edL P2) N2 (i : Nat) = []
   ·simp (maxSteps:=9^9) (disch:=omega) only [BZ, ↓reduceIte, nE, BM, BD, nA, nL, nT, i3.one, i4.one]
    repeat (rw [guard_if]; simp (maxSteps:=9^9) (disch:=omega) only [BX, ↓reduceIte, nE, BM, BD, h2, dT])
    refine fin _ tt tt tt tt tt tt tt _ ?_
    intro A4 W4 z5 z6 z7 z8 hE4
    simp (maxSteps:=9^9) (disch:=omega) only [BS, ↓reduceIte, nE, z5, z6, z7, z8, w8]
    have hE5 := (Ex.refl qE.cl).X.trans hE4
    exact ⟨i + 1, ⟨tt, tt, tt, tt, hi, qE.trans hE5⟩, by omega, (qE.trans hE5).nx⟩
   ·obtain ⟨m1, m2⟩ := hmore h2
    have hcmp : decide (((bestR (edL P) N (i : Nat)).length : Int) > ((bestR (edL P2) N2 (i : Nat)).length : Int)) = false := decide_eq_false (by omega)
    simp (maxSteps:=9^9) (disch:=omega) only [BZ, ↓reduceIte, nE, BM, BD, nA, nL, nT, i3.one, i4.one]
    repeat (rw [guard_if]; simp (maxSteps:=9^9) (disch:=omega) only [BX, ↓reduceIte, nE, BM, BD, h2, m1, dF, j1.len, j3.len, ints_len, hcmp])
    refine fin _ tt tt tt tt tt (by rw [decide_eq_false m1]; rfl) tt _ ?_
    intro A4 W4 z5 z6 z7 z8 hE4
    simp (maxSteps:=9^9) (disch:=omega) only [BS, ↓reduceIte, nE, z5, z6, z7, z8, w8]
    have hE5 := (Ex.refl qE.cl).X.trans hE4
    exact ⟨i + 1, ⟨tt, tt, tt, tt, hi, qE.trans hE5⟩, by omega, (qE.trans hE5).nx⟩
  ·simp (maxSteps:=9^9) (disch:=omega) only [BX, ↓reduceIte, c_lawLe_0, q8, hi3, hi, dF]
   refine pc (works_c hP hd0 _) ?_
   simp (maxSteps:=9^9) (disch:=omega) only [BS, BC, ↓reduceIte, ]
   exact ⟨_, rfl, _, W, .weak (weak_back hok rfl fun y hy => (hEB.trans qE).get y hy), lr _, rfl⟩
end Go.AL.S
namespace Go.AL
open Go Go.AL Go.Proofs
variable {E : Env}
theorem calls_inp0 {P : Program} {f : FuncId} {W : World} {vs : List V} {ws : List Value} (hr : RelL (S.gIn W) vs ws) (h : ACalls (S.Env.inp P { W with drawn := 0 }) f vs AW.empty fun Y _ => Y = .bool true) :
  Calls P f ws.toArray W fun e w' => e = .returned (.bool true) ∧ RowKit.Below W.heap.size W w' := by
 have hW : RelW (S.Env.inp P { W with drawn := 0 }) (S.gIn W) W AW.empty := (S.Env.inp_rel P { W with drawn := 0 }).grow ⟨⟨rfl, rfl, rfl, lr _, fun _ _ => rfl⟩, Nat.zero_le _⟩ (fun _ _ => rfl) (lr _)
 refine (h.2 (S.Env.inp_sound P _) _ _ ws hW hr).mono ?_
 rintro e w' ⟨v, γ', Y, W', rfl, _, _, h4, h5, rfl⟩
 cases h5
 have hb := h4.below.row
 exact ⟨rfl, ⟨hb.os, hb.tape, hb.output, hb.size, hb.block⟩⟩
end Go.AL
namespace Go.AL.S
open Go Go.AL Go.RowKit
mutual
def Sh.tyB (P : Program) : Sh → TypeId → Bool
 | .bool, t => (match P.underlying t with | some .bool => true | _ => false) && decide (P.cellsOf t = 1)
 | .int k, t => (match P.underlying t with | some (.int k') => decide (k' = k) | _ => false) && decide (P.cellsOf t = 1)
 | .sl e, t => (match P.underlying t with | some (.slice te) => e.tyB P te && decide (0 < e.n) && decide (0 < P.bytesOf te) | _ => false) && decide (P.cellsOf t = 1)
 | .st l, t => (match P.underlying t with | some (.struct fs) => decide (P.cellsOf t = Sh.nL l) && Sh.tyLB P l 0 fs.toList | _ => false)
def Sh.tyLB (P : Program) : List Sh → Nat → List Field → Bool
 | [], _, [] => true
 | s :: l, off, f :: r => decide (f.offset = off) && s.tyB P f.type && Sh.tyLB P l (off + s.n) r
 | _, _, _ => false
end
mutual
theorem Sh.ty_of {P : Program} : ∀ {s : Sh} {t : TypeId}, s.tyB P t = true → s.Ty P t
 | .bool, t, h => by
  simp only [Sh.tyB, Bool.and_eq_true, decide_eq_true_eq] at h
  refine ⟨?_, h.2⟩
  have h1 := h.1
  split at h1
  ·assumption
  ·cases h1
 | .int k, t, h => by
  simp only [Sh.tyB, Bool.and_eq_true, decide_eq_true_eq] at h
  refine ⟨?_, h.2⟩
  have h1 := h.1
  split at h1
  ·rename_i k' hk; rw [decide_eq_true_eq] at h1; rw [hk, h1]
  ·cases h1
 | .sl e, t, h => by
  simp only [Sh.tyB, Bool.and_eq_true, decide_eq_true_eq] at h
  have h1 := h.1
  split at h1
  ·rename_i te hk
   simp only [Bool.and_eq_true, decide_eq_true_eq] at h1
   exact ⟨te, hk, Sh.ty_of h1.1.1, h1.1.2, h.2, h1.2⟩
  ·cases h1
 | .st l, t, h => by
  simp only [Sh.tyB] at h
  split at h
  ·rename_i fs hk
   simp only [Bool.and_eq_true, decide_eq_true_eq] at h
   exact .inl ⟨fs, hk, h.1, Sh.tyL_of h.2⟩
  ·cases h
theorem Sh.tyL_of {P : Program} : ∀ {l : List Sh} {off : Nat} {fs : List Field}, Sh.tyLB P l off fs = true → Sh.TyL P l off fs
 | [], _, [], _ => rfl
 | s :: l, off, f :: r, h => by
  simp only [Sh.tyLB, Bool.and_eq_true, decide_eq_true_eq] at h
  exact ⟨f, r, rfl, h.1.1, Sh.ty_of h.1.2, Sh.tyL_of h.2⟩
 | [], _, _ :: _, h => by simp [Sh.tyLB] at h
 | _ :: _, _, [], h => by simp [Sh.tyLB] at h
end
theorem relL_app {γ : G} : ∀ {a b : List V} {l m : List Value}, RelL γ a l → RelL γ b m → RelL γ (a ++ b) (l ++ m)
 | [], _, _, _, h, h' => by rw [show _ = ([] : List Value) from h]; exact h'
 | x :: a, b, _, m, ⟨v, l', e, h1, h2⟩, h' => ⟨v, l' ++ m, by rw [e]; rfl, h1, relL_app h2 h'⟩
theorem relL_len {γ : G} : ∀ {a : List V} {l : List Value}, RelL γ a l → l.length = a.length
 | [], l, h => by obtain rfl : l = [] := h; rfl
 | x :: a, _, ⟨v, l', e, _, h2⟩ => by rw [e, lcs, lcs, relL_len h2]
theorem el_of {γ : G} {e : Sh} {ws : List V} {l : List Value} (h : e.Is ws) (hr : RelL γ ws l) : ∃ v : Value, v.cells.toList = l ∧ v.cells.size = e.n ∧ RelV γ (e.val ws) v := by
 have hl := (relL_len hr).trans h.len
 cases e with
 | st sh => exact ⟨.agg l.toArray, by simp [Value.cells], by simpa [Value.cells] using hl, l, rfl, hr⟩
 | bool =>
  obtain ⟨b, rfl⟩ := h
  obtain ⟨v, l', e, h1, h2⟩ := hr
  obtain rfl : l' = [] := h2
  have h1' : v = .bool b := h1
  subst h1' e
  exact ⟨_, rfl, rfl, rfl⟩
 | int k =>
  obtain ⟨n, rfl, hw⟩ := h
  obtain ⟨v, l', e, h1, h2⟩ := hr
  obtain rfl : l' = [] := h2
  have h1' : v = .int k n := h1
  subst h1' e
  exact ⟨_, rfl, rfl, rfl⟩
 | sl e' =>
  obtain ⟨x, xs, rfl, hs, _⟩ := h
  obtain ⟨v, l', e, h1, h2⟩ := hr
  obtain rfl : l' = [] := h2
  subst e
  have hc : v.cells = #[v] := by
   rcases hs with ⟨rfl, _⟩ | ⟨rfl, _⟩ | ⟨f, rfl⟩
   ·have h1' : v = .slice none 0 0 := h1
    subst h1'; rfl
   ·obtain ⟨a, rfl⟩ := h1; rfl
   ·obtain ⟨b, pre, l, post, sz, cap, _, _, rfl, _⟩ := h1; rfl
  exact ⟨v, by rw [hc], by rw [hc]; rfl, h1⟩
theorem relE_of {γ : G} {e : Sh} : ∀ (m : Nat) (l : List Value), l.length = m * e.n → (∀ i, i < m → ∃ ws, e.Is ws ∧ RelL γ ws ((l.drop (i * e.n)).take e.n)) →
  ∃ xs, xs.length = m ∧ RelE γ e.n xs l ∧ ∀ x ∈ xs, ∃ ws, e.Is ws ∧ x = e.val ws
 | 0, l, hl, _ => by
  have : l = [] := List.length_eq_zero_iff.1 (by omega)
  subst this
  exact ⟨[], rfl, rfl, by simp⟩
 | m + 1, l, hl, h => by
  obtain ⟨ws, h1, h2⟩ := h 0 (by omega)
  rw [Nat.zero_mul, List.drop_zero] at h2
  obtain ⟨v, hv1, hv2, hv3⟩ := el_of h1 h2
  have hl' : (l.drop e.n).length = m * e.n := by
   rw [List.length_drop, hl, Nat.add_mul]; omega
  obtain ⟨xs, x1, x2, x3⟩ := relE_of m (l.drop e.n) hl' fun i hi => by
   obtain ⟨ws, a, b⟩ := h (i + 1) (by omega)
   refine ⟨ws, a, ?_⟩
   rw [List.drop_drop]
   rwa [Nat.add_mul, Nat.one_mul, Nat.add_comm] at b
  refine ⟨e.val ws :: xs, by simp [x1], ⟨v, l.drop e.n, by rw [hv1, List.take_append_drop], hv2, hv3, x2⟩, ?_⟩
  intro x hx
  rcases List.mem_cons.1 hx with rfl | hx
  ·exact ⟨ws, h1, rfl⟩
  ·exact x3 x hx
section
variable {H : Type} {enc : TypeId × Value → H} {P : Program} {W : World}
theorem chunk_of {c : List Value} {a : Addr} {n : Nat} {cs : List Value} {o : Nat} (hc : ∀ i, W.cell? ⟨a.block, i, none⟩ = c[i]?) (hs : a.spot = none) (h : W.cells? 0 (a.add o) n = some cs) : (c.drop (a.off + o)).take n = cs := by
 obtain ⟨_, h2, h3⟩ := World.cells?_some h
 refine List.ext_getElem? fun i => ?_
 by_cases hi : i < n
 ·rw [List.getElem?_take_of_lt hi, List.getElem?_drop, ← h3 i hi, ← hc]
  congr 1
  have hb : ∀ (a : Addr) (m : Nat), a.spot = none → a.add m = ⟨a.block, a.off + m, none⟩ := by
   intro a m h
   unfold Addr.add
   split
   ·rename_i h0; subst h0; cases a; simp at h ⊢; exact h
   ·rfl
  rw [hb a o hs, hb _ i rfl, Nat.add_assoc]
 ·rw [List.getElem?_eq_none (by simp; omega), List.getElem?_eq_none (by omega)]
theorem wAll {e : TypeId} {p : Nat → Bool} : ∀ {l : List (DataW H)}, (DataW.weightsAll P e l).all p = true → ∀ d ∈ l, (d.weights P e).all p = true
 | [], _, _, h => by simp at h
 | x :: l, h, d, hd => by
  simp only [DataW.weightsAll, List.all_append, Bool.and_eq_true] at h
  rcases List.mem_cons.1 hd with rfl | hd
  ·exact h.1
  ·exact wAll h.2 d hd
theorem wEach {p : Nat → Bool} : ∀ {ts : List TypeId} {l : List (DataW H)}, (DataW.weightsEach P ts l).all p = true → ∀ (i : Nat) (t : TypeId) (d : DataW H), ts[i]? = some t → l[i]? = some d → (d.weights P t).all p = true
 | [], _, _, _, _, _, h, _ => by simp at h
 | _ :: _, [], _, _, _, _, _, h => by simp at h
 | t :: ts, x :: l, h, i, t', d, h1, h2 => by
  simp only [DataW.weightsEach, List.all_append, Bool.and_eq_true] at h
  cases i with
  | zero => simp at h1 h2; subst h1 h2; exact h.1
  | succ i => simp at h1 h2; exact wEach h.2 i t' d h1 h2
theorem decode : ∀ (fuel : Nat) (s : Sh) (t : TypeId) (cs : List Value) (x : DataW H × List MemPlace), s.Ty P t → (x.1.weights P t).all (· ≤ reachBytes) = true → DataW.trod enc P W 0 (fun _ => true) true fuel t cs = some x → ∃ vs, s.Is vs ∧ RelL (gIn W) vs cs := by
 intro fuel
 induction fuel with
 | zero => intro s t cs x _ _ h; simp [DataW.trod] at h
 | succ fuel ih =>
  intro s t cs x ht hwt h
  cases s with
  | bool =>
   obtain ⟨b, rfl, _⟩ := DataW.trod_bool ht.1 h
   exact ⟨[.bool b], ⟨b, rfl⟩, _, _, rfl, rfl, rfl⟩
  | int k =>
   obtain ⟨n, rfl, _, hw⟩ := DataW.trod_int ht.1 h
   exact ⟨[.int k n], ⟨n, rfl, hw⟩, _, _, rfl, rfl, rfl⟩
  | sl e =>
   obtain ⟨te, hu, hte, hn, hc, hby⟩ := ht
   have hce := hte.cells
   rcases DataW.trod_slice hu h with ⟨rfl, _⟩ | ⟨a, len, cap, elems, rest, n', hf, rfl, rfl, _, hlc, hcap, hel, he, hr, _⟩
   ·exact ⟨[.nilsl], ⟨.nilsl, [], rfl, .nil, by simp, by simp⟩, _, _, rfl, rfl, rfl⟩
   ·obtain rfl : fuel = n' := by omega
    rw [hce] at he hr
    simp only [DataW.weights, hu, List.all_cons, List.all_append, Bool.and_eq_true, decide_eq_true_eq, lmp] at hwt
    obtain ⟨hw1, hw2, _⟩ := hwt
    by_cases h0 : cap = 0
    ·obtain rfl : len = 0 := by omega
     subst h0
     exact ⟨[.slz], ⟨.slz, [], rfl, .inr (.inl ⟨rfl, rfl⟩), by simp, by simp⟩, _, _, rfl, ⟨a, rfl⟩, rfl⟩
    ·have h1 : ∃ cs0, W.cells? 0 (a.add 0) e.n = some cs0 := by
      by_cases hl0 : 0 < len
      ·have := he 0 hl0
       rw [Nat.zero_mul, gEg (by omega)] at this
       obtain ⟨cs0, q, _⟩ := Option.bind_eq_some_iff.1 this
       exact ⟨cs0, q⟩
      ·obtain rfl : len = 0 := by omega
       obtain ⟨r1, r2⟩ := hr rfl
       have := r2 0 (by omega)
       rw [Nat.zero_add, Nat.zero_mul, gEg (by omega)] at this
       obtain ⟨cs0, q, _⟩ := Option.bind_eq_some_iff.1 this
       exact ⟨cs0, q⟩
     obtain ⟨cs0, hcs0⟩ := h1
     obtain ⟨_, q2, q3⟩ := World.cells?_some hcs0
     have q4 := q3 0 hn
     rw [gEg (by omega)] at q4
     have q5 : W.cell? a = some (cs0[0]'(by omega)) := by simpa [Addr.add] using q4
     obtain ⟨c, c1, c2, c3, c4⟩ := gIn_con q5
     have hch : ∀ i, i < len → ∃ ws, e.Is ws ∧ RelL (gIn W) ws ((c.drop (a.off + i * e.n)).take e.n) := by
      intro i hi
      have := he i hi
      rw [gEg (by omega)] at this
      obtain ⟨csi, p1, p2⟩ := Option.bind_eq_some_iff.1 this
      rw [chunk_of c4 c2 p1]
      exact ih e te csi _ hte (wAll hw2 _ (List.mem_map.2 ⟨_, gmm _, rfl⟩)) p2
     have hlen : ((c.drop a.off).take (len * e.n)).length = len * e.n := by
      by_cases hl0 : 0 < len
      ·have := he (len - 1) (by omega)
       rw [gEg (by omega)] at this
       obtain ⟨csi, p1, p2⟩ := Option.bind_eq_some_iff.1 this
       have p3 := chunk_of c4 c2 p1
       have p4 := congrArg List.length p3
       rw [ltk, List.length_drop, (World.cells?_some p1).2.1] at p4
       have : (len - 1) * e.n + e.n = len * e.n := by rw [← Nat.succ_mul]; congr 1; omega
       rw [ltk, List.length_drop]
       omega
      ·have : len = 0 := by omega
       subst this; simp
     obtain ⟨xs, x1, x2, x3⟩ := relE_of (γ := gIn W) (e := e) len ((c.drop a.off).take (len * e.n)) hlen fun i hi => by
      obtain ⟨ws, w1, w2⟩ := hch i hi
      refine ⟨ws, w1, ?_⟩
      have : (((c.drop a.off).take (len * e.n)).drop (i * e.n)).take e.n = (c.drop (a.off + i * e.n)).take e.n := by
       rw [List.drop_take, List.take_take, List.drop_drop, Nat.min_eq_left]
       have : i * e.n + e.n ≤ len * e.n := by rw [← Nat.succ_mul]; exact Nat.mul_le_mul_right _ hi
       omega
      rw [this]; exact w2
     have h48 : len < 2 ^ 48 := by
      have h1 : reachBytes < 2 ^ 48 := by decide
      have h2 : (elems.length + rest.length) * 1 ≤ (elems.length + rest.length) * P.bytesOf te := Nat.mul_le_mul_left _ hby
      omega
     refine ⟨[.sl e.n false xs], ⟨.sl e.n false xs, xs, rfl, .mk, by omega, x3⟩, _, _, rfl, ?_, rfl⟩
     refine ⟨a.block, c.take a.off, (c.drop a.off).take (len * e.n), (c.drop a.off).drop (len * e.n), c.length, cap, ?_, x2, ?_, by omega, by simp, by omega⟩
     ·rw [List.append_assoc, List.take_append_drop, List.take_append_drop]; exact c1
     ·rw [x1, ltk, Nat.min_eq_left (by omega)]
      cases a; simp at c2; subst c2; rfl
  | st l =>
   have hall : ∀ (l : List Sh) (off : Nat) (fs : List Field), Sh.TyL P l off fs → (∀ f ∈ fs, ∃ y, (y.1.weights P f.type).all (· ≤ reachBytes) = true ∧ DataW.trod enc P W 0 (fun _ => true) true fuel f.type ((cs.drop f.offset).take (P.cellsOf f.type)) = some y) → off + Sh.nL l ≤ cs.length → ∃ vs, Sh.IsL l vs ∧ RelL (gIn W) vs ((cs.drop off).take (Sh.nL l)) := by
    intro l
    induction l with
    | nil => intro off fs hl _ _; exact ⟨[], rfl, by simp [Sh.nL, RelL]⟩
    | cons s l ihl =>
     intro off fs hl hf hlen
     obtain ⟨f, r, rfl, rfl, hs, hl'⟩ := hl
     obtain ⟨y, hyw, hy⟩ := hf f (by simp)
     rw [hs.cells] at hy
     obtain ⟨a, a1, a2⟩ := ih s f.type _ y hs hyw hy
     obtain ⟨b, b1, b2⟩ := ihl (f.offset + s.n) r hl' (fun g hg => hf g (by simp [hg])) (by simp only [Sh.nL] at hlen; omega)
     refine ⟨a ++ b, ⟨a, b, rfl, a1, b1⟩, ?_⟩
     have := relL_app a2 b2
     rw [← List.drop_drop, ← List.take_add] at this
     exact this
   rcases ht with ⟨fs, hu, hc, htl⟩ | ⟨n, e, te, rfl, hu, hc, htr⟩
   ·obtain ⟨xs, n', hf, rfl, hl, hxl, hx⟩ := DataW.trod_struct hu h
    obtain rfl : fuel = n' := by omega
    simp only [DataW.weights, hu] at hwt
    obtain ⟨vs, v1, v2⟩ := hall l 0 fs.toList htl (fun f hf => by
     obtain ⟨i, hi, rfl⟩ := List.mem_iff_getElem.1 hf
     have hi' : i < fs.size := by simpa using hi
     have := hx i fs[i] (by simp [hi'])
     rw [gEg (by omega)] at this
     exact ⟨_, wEach hwt i _ _ (by simp [hi']) (by simp [show i < xs.length by omega]; rfl), by simpa using this⟩) (by omega)
    rw [List.drop_zero, List.take_of_length_le (by omega)] at v2
    exact ⟨vs, v1, v2⟩
   ·obtain ⟨xs, n', hf, rfl, hl, hxl, hx⟩ := DataW.trod_array hu h
    obtain rfl : fuel = n' := by omega
    simp only [DataW.weights, hu] at hwt
    have hgo : ∀ (m i : Nat), i + m = n → ∃ vs, Sh.IsL (List.replicate m e) vs ∧ RelL (gIn W) vs ((cs.drop (i * e.n)).take (m * e.n)) := by
     intro m
     induction m with
     | zero => intro i _; exact ⟨[], rfl, by simp [RelL]⟩
     | succ m ihm =>
      intro i hi
      have hte : e.Ty P te := by
       obtain ⟨k, rfl⟩ : ∃ k, n = k + 1 := ⟨n - 1, by omega⟩
       exact htr.1
      have := hx i (by omega)
      rw [hte.cells, gEg (by omega)] at this
      obtain ⟨a, a1, a2⟩ := ih e te _ _ hte (wAll hwt _ (List.mem_map.2 ⟨_, gmm _, rfl⟩)) this
      obtain ⟨b, b1, b2⟩ := ihm (i + 1) (by omega)
      refine ⟨a ++ b, ⟨a, b, rfl, a1, b1⟩, ?_⟩
      have := relL_app a2 b2
      rw [Nat.add_mul, Nat.one_mul, ← List.drop_drop, ← List.take_add] at this
      rw [Nat.add_mul, Nat.one_mul, Nat.add_comm (m * e.n)]
      exact this
    have hnl : Sh.nL (List.replicate n e) = n * e.n := by
     clear hgo hx hxl hc hu htr
     induction n with
     | zero => simp [Sh.nL]
     | succ n ih => simp only [List.replicate_succ, Sh.nL, ih, Nat.succ_mul]; omega
    obtain ⟨vs, v1, v2⟩ := hgo n 0 (by omega)
    rw [Nat.zero_mul, List.drop_zero, List.take_of_length_le (by omega)] at v2
    exact ⟨vs, v1, v2⟩
end
end Go.AL.S
namespace Go.AL.S
open Go Go.AL
def shMi : Sh := .st [.bool, .int .u8, .int .u16]
def shDe : Sh := .st [.sl shMi, .sl (.sl (.int .u16)), .int .u8]
theorem wf_u8 {n : Int} (h : (Lit.int .u8 n).wf = true) : 0 ≤ n ∧ n < 256 := by
 simp [Lit.wf, IntKind.min, IntKind.max, IntKind.signed, IntKind.bits] at h; omega
theorem wf_u16 {n : Int} (h : (Lit.int .u16 n).wf = true) : 0 ≤ n ∧ n < 65536 := by
 simp [Lit.wf, IntKind.min, IntKind.max, IntKind.signed, IntKind.bits] at h; omega
theorem list_of {α : Type} {f : α → V} {p : α → Prop} : ∀ {xs : List V}, (∀ x ∈ xs, ∃ a, x = f a ∧ p a) → ∃ l : List α, xs = l.map f ∧ ∀ a ∈ l, p a
 | [], _ => ⟨[], rfl, by simp⟩
 | x :: xs, h => by
  obtain ⟨a, rfl, ha⟩ := h x (by simp)
  obtain ⟨l, rfl, hl⟩ := list_of (xs := xs) fun y hy => h y (by simp [hy])
  refine ⟨a :: l, rfl, fun b hb => ?_⟩
  rcases List.mem_cons.1 hb with rfl | hb
  ·exact ha
  ·exact hl b hb
theorem mi_of {ws : List V} (h : shMi.Is ws) : ∃ m : Mi, shMi.val ws = m.V ∧ m.ok := by
 obtain ⟨_, _, rfl, ⟨b, rfl⟩, _, _, rfl, ⟨k, rfl, hk⟩, _, _, rfl, ⟨n, rfl, hn⟩, rfl⟩ := h
 have h1 := wf_u8 hk
 have h2 := wf_u16 hn
 exact ⟨⟨b, k, n⟩, rfl, h1.1, h1.2, h2.1, h2.2⟩
theorem mis_of {ws : List V} (h : (Sh.sl shMi).Is ws) : ∃ v l, ws = [v] ∧ isMs v l ∧ ∀ m ∈ l, m.ok := by
 obtain ⟨v, xs, rfl, hs, _, hx⟩ := h
 obtain ⟨l, rfl, hl⟩ := list_of (f := Mi.V) (p := Mi.ok) fun x hxm => by
  obtain ⟨ws, h1, rfl⟩ := hx x hxm
  obtain ⟨m, h2, h3⟩ := mi_of h1
  exact ⟨m, h2, h3⟩
 exact ⟨v, l, rfl, hs, hl⟩
theorem ints_of {ws : List V} (h : (Sh.sl (.int .u16)).Is ws) : ∃ v o, ws = [v] ∧ isEl v o ∧ ∀ n ∈ nums o, 0 ≤ n ∧ n < 65536 := by
 obtain ⟨v, xs, rfl, hs, _, hx⟩ := h
 obtain ⟨l, rfl, hl⟩ := list_of (f := V.int .u16) (p := fun n => 0 ≤ n ∧ n < 65536) fun x hxm => by
  obtain ⟨ws, ⟨n, rfl, hn⟩, rfl⟩ := hx x hxm
  exact ⟨n, rfl, wf_u16 hn⟩
 rcases hs with ⟨rfl, _⟩ | ⟨rfl, _⟩ | ⟨f, rfl⟩
 ·exact ⟨_, none, rfl, .inl ⟨rfl, rfl⟩, by simp [nums]⟩
 ·exact ⟨_, some [], rfl, .inr (.inl ⟨rfl, rfl⟩), by simp [nums]⟩
 ·exact ⟨_, some l, rfl, .inr (.inr ⟨f, l, rfl, rfl⟩), hl⟩
theorem lists_of {ws : List V} (h : (Sh.sl (.sl (.int .u16))).Is ws) : ∃ v ls, ws = [v] ∧ isLs v ls ∧ ∀ o ∈ ls, ∀ n ∈ nums o, 0 ≤ n ∧ n < 65536 := by
 obtain ⟨v, xs, rfl, hs, _, hx⟩ := h
 have hgo : ∀ xs : List V, (∀ x ∈ xs, ∃ ws, (Sh.sl (.int .u16)).Is ws ∧ x = (Sh.sl (.int .u16)).val ws) → ∃ ls : List (Option (List Int)), xs.length = ls.length ∧ (∀ k (h : k < xs.length) (h' : k < ls.length), isEl xs[k] ls[k]) ∧ ∀ o ∈ ls, ∀ n ∈ nums o, 0 ≤ n ∧ n < 65536 := by
  intro xs
  induction xs with
  | nil => intro _; exact ⟨[], rfl, fun k h => by simp at h, by simp⟩
  | cons x xs ih =>
   intro h
   obtain ⟨ws, h1, rfl⟩ := h x (by simp)
   obtain ⟨v, o, rfl, h2, h3⟩ := ints_of h1
   obtain ⟨ls, l1, l2, l3⟩ := ih fun y hy => h y (by simp [hy])
   refine ⟨o :: ls, by simp [l1], fun k hk hk' => ?_, fun o' ho' => ?_⟩
   ·cases k with
    | zero => exact h2
    | succ k => exact l2 k (by simpa using hk) (by simpa using hk')
   ·rcases List.mem_cons.1 ho' with rfl | ho'
    ·exact h3
    ·exact l3 o' ho'
 obtain ⟨ls, l1, l2, l3⟩ := hgo xs hx
 exact ⟨v, ls, rfl, ⟨xs, hs, l1, l2⟩, l3⟩
theorem de_of {ws : List V} (h : shDe.Is ws) : ∃ d : De, shDe.val ws = d.V ∧ d.ok := by
 obtain ⟨ws1, _, rfl, h1, ws2, _, rfl, h2, _, _, rfl, ⟨w, rfl, hw⟩, rfl⟩ := h
 have hb := h2.bel (n := 0)
 obtain ⟨t, l, rfl, t1, t2⟩ := mis_of h1
 obtain ⟨r, ls, rfl, r1, r2⟩ := lists_of h2
 refine ⟨⟨t, l, r, ls, w⟩, rfl, t1, t2, r1, r2, ?_, wf_u8 hw⟩
 simpa [V.belL] using hb
theorem des_of {ws : List V} (h : (Sh.sl shDe).Is ws) : ∃ v, ∃ l : List De, ws = [v] ∧ isS 3 v (l.map De.V) ∧ (∀ d ∈ l, d.ok) ∧ l.length < 2 ^ 48 := by
 obtain ⟨v, xs, rfl, hs, hl, hx⟩ := h
 obtain ⟨l, rfl, hl'⟩ := list_of (f := De.V) (p := De.ok) fun x hxm => by
  obtain ⟨ws, h1, rfl⟩ := hx x hxm
  obtain ⟨a, h2, h3⟩ := de_of h1
  exact ⟨a, h2, h3⟩
 exact ⟨v, l, rfl, hs, hl', by simpa using hl⟩
end Go.AL.S
