/- What the program's functions do, part 4. Conditions: none. -/
import Derived.Test.YtjkmnbdfpednfaaGreatDoorBc
open Nat renaming reduceEqDiff → nE, reduceLeDiff → nL, reduceAdd → nA, reduceLT → nT, le_refl → lr
open List renaming getElem?_eq_getElem → gEg, length_map → lmp, getElem_mem → gmm, length_append → lap, length_cons → lcs, mem_singleton → msg, append_nil → apn, mem_append → map', take_length → tkl, map_cons → mcs, map_append → mpp, mem_map → mmp, any_eq_true → aet, length_replicate → lrp, take_add_one → tao, length_take → ltk, mem_filter → mfl
set_option maxRecDepth 100000
set_option maxHeartbeats 2000000
namespace Go.AL.S
open Go Go.AL Go.Proofs
def c_cloneI : AC := (.r [.v 2 (.nilsl)] (.seq (.r [.m 3 0,.p 4 (.eqn false 1) [.t 3,.c (.nilsl)]] (.cond (.t 4) (.r [.v 2 (.nilsl)] .ret) .skip)) (.r [.p 5 (.bslice 1 0 (.int .i64 0) []) [],.m 6 0,.b 7 (.appendx 1 8 [.int .i64 0]) 5 6,.m 2 7] .ret)))
theorem ok_cloneIe : compF Tryz.prog Tryz.f236 ⟨true, false, []⟩ = some (c_cloneI, [.tmp 2], 8) := by kernel_rfl
def c_leaveS_0 : AC := (.r [.b 101 (.bin .lss) 100 99] (.seq (.w 101 0) (.seq (.block 1 (.r [.b 102 (.idxp 1) 98 100,.u 103 (.load false 1) 102,.m 8 103] (.reg [.m 104 0,.u 105 .nilck 104,.u 106 (.fld 1) 105,.u 107 (.load false 1) 106,.m 108 8,.b 109 (.idxp 4) 107 108,.u 110 (.fld 0) 109,.u 111 (.fld 2) 110,⟨none,.store 1, [.t 111,.c (.bool false)], none⟩]))) (.reg [.a 112 (.bin .add) 100 1,.m 100 112]))))
def c_leaveS : AC := (.seq (.par (.step 0 (.m 9 0) (.step 1 (.u 10 .nilck 9) (.step 2 (.u 11 (.fld 2) 10) (.step 4 (.m 13 0) (.step 5 (.u 14 .nilck 13) (.step 6 (.u 15 (.fld 2) 14) (.step 3 (.u 12 (.load false 1) 11) (.step 7 (.u 16 (.load false 1) 15) (.step 8 (.u 17 (.len 1 0) 16) (.step 9 (.a 18 (.bin .sub) 17 1) (.step 10 (.b 19 (.idxp 1) 12 18) (.step 11 (.u 20 (.load false 1) 19) (.step 12 (.m 2 20) .done)))))))))))))) (.seq (.par (.step 0 (.m 21 0) (.step 1 (.m 22 0) (.step 2 (.u 23 .nilck 22) (.step 3 (.u 24 (.fld 2) 23) (.step 5 (.m 26 0) (.step 6 (.u 27 .nilck 26) (.step 7 (.u 28 (.fld 2) 27) (.step 4 (.u 25 (.load false 1) 24) (.step 8 (.u 29 (.load false 1) 28) (.step 9 (.u 30 (.len 1 0) 29) (.step 10 (.a 31 (.bin .sub) 30 1) (.step 11 (.b 32 (.slc 1 false true false) 25 31) (.step 12 (.u 33 .nilck 21) (.step 13 (.u 34 (.fld 2) 33) (.step 14 ⟨none,.store 1, [.t 34,.t 32], none⟩ .done)))))))))))))))) (.r [.m 35 0,.u 36 .nilck 35,.u 37 (.fld 1) 36,.u 38 (.load false 1) 37,.m 39 2,.b 40 (.idxp 4) 38 39,.u 41 (.load true 4) 40,.p 3 (.alloc [.int .i64 0,.int .i64 0,.bool false,.int .i64 0]) [],⟨none,.store 4, [.t 3,.t 41], none⟩] (.seq (.r [.m 42 0,.u 43 .nilck 42,.u 44 (.fld 2) 43,.u 45 (.load false 1) 44,.u 46 (.len 1 0) 45,.a 47 (.bin .gtr) 46 0] (.cond (.t 47) (.seq (.par (.step 0 (.m 48 0) (.step 1 (.u 49 .nilck 48) (.step 2 (.u 50 (.fld 1) 49) (.step 4 (.m 52 0) (.step 5 (.u 53 .nilck 52) (.step 6 (.u 54 (.fld 2) 53) (.step 8 (.m 56 0) (.step 9 (.u 57 .nilck 56) (.step 10 (.u 58 (.fld 2) 57) (.step 3 (.u 51 (.load false 1) 50) (.step 7 (.u 55 (.load false 1) 54) (.step 11 (.u 59 (.load false 1) 58) (.step 12 (.u 60 (.len 1 0) 59) (.step 13 (.a 61 (.bin .sub) 60 1) (.step 14 (.b 62 (.idxp 1) 55 61) (.step 15 (.u 63 (.load false 1) 62) (.step 16 (.b 64 (.idxp 4) 51 63) (.step 17 (.m 4 64) .done))))))))))))))))))) (.par (.step 0 (.m 65 4) (.step 1 (.m 66 4) (.step 2 (.u 67 .nilck 66) (.step 3 (.u 68 (.fld 0) 67) (.step 4 (.u 69 (.fld 1) 68) (.step 6 (.u 71 (.fld 0) 3) (.step 7 (.u 72 (.fld 1) 71) (.step 5 (.u 70 (.load false 1) 69) (.step 8 (.u 73 (.load false 1) 72) (.step 9 (.b 74 (.len 5 0) 70 73) (.step 10 (.u 75 .nilck 65) (.step 11 (.u 76 (.fld 0) 75) (.step 12 (.u 77 (.fld 1) 76) (.step 13 ⟨none,.store 1, [.t 77,.t 74], none⟩ .done)))))))))))))))) .skip)) (.seq (.r [.u 78 (.fld 0) 3,.u 79 (.fld 1) 78,.u 80 (.load false 1) 79,.u 81 (.fld 0) 3,.u 82 (.fld 0) 81,.u 83 (.load false 1) 82,.b 84 (.bin .neq) 80 83] (.cond (.t 84) .ret .skip)) (.r [.m 85 0,.u 86 .nilck 85,.u 87 (.fld 3) 86,.u 88 (.load false 1) 87,.m 89 2,.b 90 (.call 131) 88 89,.m 5 90] (.r [.m 91 0,.u 92 .nilck 91,.u 93 (.fld 3) 92,.u 94 (.load false 1) 93,.m 95 5,.b 96 (.slc 1 true false false) 94 95,.u 97 (.call 236) 96,.m 6 97] (.seq (.r [.m 98 6,.u 99 (.len 1 0) 98,.v 100 (.int .i64 0)] (.block 0 (.loop c_leaveS_0))) (.r [.m 113 0,.m 114 0,.u 115 .nilck 114,.u 116 (.fld 3) 115,.u 117 (.load false 1) 116,.m 118 5,.b 119 (.slc 1 false true false) 117 118,.u 120 .nilck 113,.u 121 (.fld 3) 120,⟨none,.store 1, [.t 121,.t 119], none⟩] (.r [.m 122 6,.u 123 (.call 237) 122] (.reg [.m 124 0,.m 125 0,.u 126 .nilck 125,.u 127 (.fld 4) 126,.u 128 (.load false 1) 127,.m 129 6,.u 130 (.bslice 1 1 (.nilsl) [0]) 129,.b 131 (.appendx 1 24 [.nilsl]) 128 130,.u 132 .nilck 124,.u 133 (.fld 4) 132,⟨none,.store 1, [.t 133,.t 131], none⟩])))))))))))
theorem ok_leaveSe : compF Tryz.prog Tryz.f210 ⟨true, false, []⟩ = some (c_leaveS, [], 134) := by kernel_rfl
variable {E : Env}
theorem idxS_c (hP : PE E) (W : AW) {r : Nat} {l a b : List Nat} {cs : List V} {i : Nat} (hg : W.get r = some (.vec 1 (natsV l ++ cs))) (hl : l.length < 2 ^ 40) (hs : l = a ++ i :: b) (hna : i ∉ a) :
  ACalls E 131 [.slr r 0 l.length 1, .int .i64 (i : Int)] W fun Y W' => Y = .int .i64 (a.length : Nat) ∧ W' = W := by
 refine ACalls.of hP Tryz.func131 ok_idxIe (by simp) fun _ hok => ?_
 have hla : a.length < l.length := by rw [hs]; simp
 simp only [c_idxI, BZ, ↓reduceIte, reduceCtorEq]
 rw [e_loop]
 refine alp (fun (k : Nat) A1 W1 => A1 0 = some (.slr r 0 l.length 1) ∧ A1 1 = some (.int .i64 (i : Int)) ∧ A1 7 = some (.int .i64 l.length) ∧ A1 8 = some (.int .i64 k) ∧ k ≤ a.length ∧ W1 = W) (fun k => l.length - k) 0
  ⟨rfl, rfl, rfl, rfl, Nat.zero_le _, rfl⟩ ?_
 rintro k A1 W1 ⟨g0, g1, g7, g8, gk, rfl⟩ _
 have hkl : k < l.length := by omega
 have hat : (natsV l ++ cs)[k]? = some (.int .i64 (l[k] : Nat)) := by rw [List.getElem?_append_left (by rw [natsV_len]; exact hkl), natsV_at hkl]
 by_cases he : k = a.length
 ·have hb : ((i : Int) == ((l[k] : Nat) : Int)) = true := by subst he; simp [hs]
  simp (maxSteps:=9^9) (disch:=omega) only [BX, ↓reduceIte, nE, reduceCtorEq, g0, g1, g7, g8, clt, hkl, dT, zx1, mv_load, hg, vl_at hat, hb]
  exact ⟨_, rfl, _, _, .weak weak_id, lr _, by rw [he], rfl⟩
 ·have hlk : l[k] = a[k]'(by omega) := by simp only [hs]; rw [List.getElem_append_left (by omega)]
  have hb : ((i : Int) == ((l[k] : Nat) : Int)) = false := by
   have : i ≠ l[k] := fun e => hna (by rw [e, hlk]; exact gmm _)
   simp; omega
  simp (maxSteps:=9^9) (disch:=omega) only [BX, ↓reduceIte, nE, reduceCtorEq, g0, g1, g7, g8, clt, hkl, dT, zx1, mv_load, hg, vl_at hat, hb, wadd1]
  exact ⟨k + 1, ⟨tt, tt, tt, tt, by omega, tt⟩, by omega, lr _⟩
theorem natsV_ones (l : List Nat) : (natsV l).all V.one = true := by
 induction l with
 | nil => rfl
 | cons x l ih => simp only [natsV, mcs, List.all_cons, Bool.and_eq_true] at ih ⊢; exact ⟨rfl, ih⟩
theorem natsV_flat (l : List Nat) : (natsV l).flatMap V.cells = natsV l := by
 induction l with
 | nil => rfl
 | cons x l ih => simp only [natsV, mcs, List.flatMap_cons] at ih ⊢; rw [ih]; rfl
theorem chunks_pre : ∀ (l cs : List V), chunks 1 l.length (l ++ cs) = l
 | [], _ => rfl
 | x :: l, cs => by
  show _ :: chunks 1 l.length ((x :: l ++ cs).drop 1) = _
  rw [List.cons_append, List.drop_succ_cons, List.drop_zero, chunks_pre l cs]; rfl
theorem eqn_slr {W : AW} {K : V → AW → Prop} {r k n s : Nat} {neg : Bool} : sem E (.eqn neg 1) [.slr r k n s, .nilsl] W K = K (.bool (if neg then !false else false)) W := by
 rw [m_eqn]; rfl
theorem bs0 {W : AW} {K : V → AW → Prop} : sem E (.bslice 1 0 (.int .i64 0) []) [] W K = K (.sl 1 true []) W := by
 simp [sem, rsem, tsem, fillE, V.cells]
theorem cloneS_c (hP : PE E) (W : AW) {r : Nat} {l a b : List Nat} {cs : List V} (hg : W.get r = some (.vec 1 (natsV l ++ cs))) (hl : l.length < 2 ^ 40) (hs : l = a ++ b) (hb : 0 < b.length) :
  ACalls E 236 [.slr r a.length b.length 1] W fun Y W' => Y = .slr W.nx 0 b.length 1 ∧ W' = W.alloc (.vec 1 (natsV b)) := by
 refine ACalls.of hP Tryz.func236 ok_cloneIe (by simp) fun _ hok => ?_
 have hn : natsV l = natsV a ++ natsV b := by rw [hs]; simp [natsV]
 have hlen : l.length = a.length + b.length := by rw [hs]; simp
 have hd : (natsV l ++ cs).drop (a.length * 1) = natsV b ++ cs := by
  rw [hn, Nat.mul_one, List.append_assoc, List.drop_append, List.drop_of_length_le (by rw [natsV_len]; omega), natsV_len, Nat.sub_self, List.drop_zero, List.nil_append]
 have hel : elemsV 1 W (.slr r a.length b.length 1) = some (natsV b) := by
  have c1 : (a.length + b.length) * 1 ≤ (natsV l ++ cs).length := by rw [lap, natsV_len]; omega
  have c2 : (((natsV l ++ cs).drop (a.length * 1)).take (b.length * 1)).all V.one = true := by
   rw [hd, Nat.mul_one, List.take_append_of_le_length (by rw [natsV_len]; omega), List.take_of_length_le (by rw [natsV_len]; omega)]
   exact natsV_ones b
  simp only [elemsV, hg]
  rw [if_pos ⟨tt, tt, c1, c2⟩, hd]
  have := chunks_pre (natsV b) cs
  rw [natsV_len] at this
  rw [this]
 have happ : ∀ K, sem E (.appendx 1 8 [.int .i64 0]) [.sl 1 true [], .slr r a.length b.length 1] W K = K (.slr W.nx 0 b.length 1) (W.alloc (.vec 1 (natsV b))) := fun K => by
  have e : (natsV b).isEmpty = false := by cases b <;> simp_all [natsV]
  simp only [sem, hel, e, List.nil_append, List.length_nil, Nat.zero_add, natsV_len, natsV_flat, Bool.false_eq_true, if_false]
  exact propext ⟨fun h => h.2.2.2, fun h => ⟨by decide, tt, by omega, h⟩⟩
 simp only [c_cloneI, BX, ↓reduceIte, nE, reduceCtorEq, eqn_slr, bs0, happ]
 exact ⟨_, rfl, _, _, .weak weak_id, by rw [alloc_nx]; omega, rfl, rfl⟩
def tailS : AC → Nat → AC
 | .seq _ b, n + 1 => tailS b n
 | c, _ => c
theorem wpred {k : Nat} (h : k < 2 ^ 60) : IntKind.i64.wrap (((k + 1 : Nat) : Int) - 1) = (k : Int) := by
 rw [show ((k + 1 : Nat) : Int) - 1 = k by omega]; exact IntWalk.i64_in _ (by omega)
theorem slcS {W : AW} {K : V → AW → Prop} {r n k : Nat} (h : k ≤ n) : sem E (.slc 1 false true false) [.slr r 0 n 1, .int .i64 (k : Int)] W K = K (.slr r 0 k 1) W := by
 simp [sem, rsem, tsem, slcOp, natV, slcV, h]
theorem slcT {W : AW} {K : V → AW → Prop} {r n k : Nat} (h : k ≤ n) : sem E (.slc 1 true false false) [.slr r 0 n 1, .int .i64 (k : Int)] W K = K (.slr r k (n - k) 1) W := by
 simp [sem, rsem, tsem, slcOp, natV, slcV, h]
theorem bsS {W : AW} {K : V → AW → Prop} {r n : Nat} : sem E (.bslice 1 1 .nilsl [0]) [.slr r 0 n 1] W K = K (.sl 1 true [.slr r 0 n 1]) W := by
 simp [sem, rsem, tsem, fillE, V.cells]
theorem Sw.but {W W' : AW} {n lo rs rn z : Nat} {nv hw ht he : V} {gs : List (Nat × List Nat)} {s : TS} {cz : List V} (h : Sw n lo nv rs rn hw ht he gs s W) (hc : Cl W') (hx : W.nx ≤ W'.nx) (hz : W.get z = some (.vec 1 cz)) (h1 : refH hw ≠ some z) (h2 : refH ht ≠ some z) (h3 : refH he ≠ some z) (h4 : ∀ g ∈ gs, g.1 ≠ z)
  (hg : ∀ x, lo ≤ x → x < W.nx → x ≠ z → W'.get x = W.get x) : Sw n lo nv rs rn hw ht he gs s W' :=
 ⟨(hg _ h.rsl.1 h.rsl.2 (fun e => by have := h.row; rw [e, hz] at this; cases this)).trans h.row, (hg _ h.rnl.1 h.rnl.2 (fun e => by have := h.nod; rw [e, hz] at this; cases this)).trans h.nod,
  h.way.to hx fun r hr a b => hg r a b fun e => h1 (e ▸ hr), h.wtg.to hx fun r hr a b => hg r a b fun e => h2 (e ▸ hr), h.eds.to hx fun r hr a b => hg r a b fun e => h3 (e ▸ hr), fun g hgg => by
  obtain ⟨a, b, c⟩ := h.grp g hgg
  exact ⟨a, by omega, (hg _ a b (h4 g hgg)).trans c⟩, h.eg, ⟨h.rsl.1, by have := h.rsl.2; omega⟩, ⟨h.rnl.1, by have := h.rnl.2; omega⟩, h.d1, h.d2, h.d3, hc⟩
def clrW (wt : Nat → Bool) (l : List Nat) : Nat → Bool := fun j => wt j && !decide (j ∈ l)
theorem clr_snoc {wt : Nat → Bool} {l : List Nat} {x : Nat} : fset (clrW wt l) x false = clrW wt (l ++ [x]) := by
 funext j
 unfold fset clrW
 by_cases e : j = x
 ·subst e; simp
 ·simp [e]
theorem clr_go (_ : E.P = Tryz.prog) {W : AW} {n lo rs rn z : Nat} {nv hw ht he : V} {gs : List (Nat × List Nat)} {s : TS} {g : List Nat} (h : Sw n lo nv rs rn hw ht he gs s W) (hz : W.get z = some (.vec 1 (natsV g))) (_ : lo ≤ z ∧ z < W.nx) (hgn : ∀ i ∈ g, i < n) (hgl : g.length < 2 ^ 40) {v5 : V} {A : AFr} {Q : Exit → AFr → AW → Prop}
  (a0 : A 0 = some (.ptr rs 0)) (a5 : A 5 = some v5) (a6 : A 6 = some (.slr z 0 g.length 1)) (a98 : A 98 = some (.slr z 0 g.length 1)) (a99 : A 99 = some (.int .i64 g.length)) (a100 : A 100 = some (.int .i64 0))
  (hQ : ∀ A' W', A' 0 = some (.ptr rs 0) → A' 5 = some v5 → A' 6 = some (.slr z 0 g.length 1) → Sw n lo nv rs rn hw ht he gs { s with wt := clrW s.wt g } W' → W'.nx = W.nx → W'.get z = some (.vec 1 (natsV g)) → (∀ x, x < lo → W'.get x = W.get x) → Q (.exit 0) A' W') : awp E (.loop c_leaveS_0) Q A W := by
 rw [e_loop]
 refine alp (fun (k : Nat) A1 W1 => A1 0 = some (.ptr rs 0) ∧ A1 5 = some v5 ∧ A1 6 = some (.slr z 0 g.length 1) ∧ A1 98 = some (.slr z 0 g.length 1) ∧ A1 99 = some (.int .i64 g.length) ∧ A1 100 = some (.int .i64 k) ∧ k ≤ g.length ∧ Sw n lo nv rs rn hw ht he gs { s with wt := clrW s.wt (g.take k) } W1 ∧ W1.nx = W.nx ∧ W1.get z = some (.vec 1 (natsV g)) ∧ ∀ x, x < lo → W1.get x = W.get x) (fun k => g.length - k) 0
  ⟨a0, a5, a6, a98, a99, a100, Nat.zero_le _, ?_, rfl, hz, fun _ _ => rfl⟩ ?_
 ·have e : clrW s.wt (g.take 0) = s.wt := by funext j; simp [clrW]
  rw [e]; exact h
 rintro k A1 W1 ⟨g0, g5, g6, g98, g99, g100, gk, gS, gn, gz, gf⟩ _
 by_cases hk : k < g.length
 ·have hat : (natsV g)[k]? = some (.int .i64 (g[k] : Nat)) := natsV_at hk
  have hi := hgn _ (gmm hk)
  have htk : g.take (k + 1) = g.take k ++ [g[k]] := by rw [tao, gEg hk]; rfl
  generalize g[k] = i at hat hi htk
  have hnr : rs ≠ rn := gS.ne
  have l1 := gS.rsl
  have l2 := gS.rnl
  have hzn : z ≠ rn := fun e => by have := gS.nod; rw [← e, gz] at this; cases this
  simp (maxSteps:=9^9) (disch:=omega) only [BX, ↓reduceIte, nE, reduceCtorEq, BM, BD, c_leaveS_0, g0, g5, g6, g98, g99, g100, clt, hk, dT, zx1, mv_load, gz, vl_at hat, gS.row, gS.nod, ix4, mv_store, vsW, wadd1]
  refine ⟨k + 1, ⟨tt, tt, tt, tt, tt, tt, hk, ?_, gn, by rw [put_ne hzn]; exact gz, fun x hx => by rw [put_ne (by omega)]; exact gf x hx⟩, by omega, by rw [put_nx]; omega⟩
  rw [htk, ← clr_snoc]
  exact gS.putn (s' := { s with wt := fset (clrW s.wt (g.take k)) i false }) rfl rfl rfl rfl
 ·obtain rfl : k = g.length := by omega
  rw [tkl] at gS
  simp (maxSteps:=9^9) (disch:=omega) only [BX, ↓reduceIte, c_leaveS_0, g99, g100, clt, hk, dF]
  exact hQ _ _ g0 g5 g6 gS gn gz gf
set_option maxHeartbeats 4000000
theorem slH.slr {W : AW} {h : V} {xs : List V} {lo : Nat} (hn : slH W h xs lo) (hx : 0 < xs.length) : ∃ r cs, h = .slr r 0 xs.length 1 ∧ W.get r = some (.vec 1 (xs ++ cs)) ∧ lo ≤ r ∧ r < W.nx := by
 rcases hn with ⟨rfl, rfl⟩ | ⟨r, cs, h1, h2, h3, h4⟩
 ·simp at hx
 ·exact ⟨r, cs, h3, h4, h1, h2⟩
theorem leave_tail (hP : PE E) {W : AW} {n lo rs rn bn : Nat} {nv hw ht he : V} {gs : List (Nat × List Nat)} {s : TS} {i lw mt : Nat} {wtv : Bool} {gv : Int} (h : Sw n lo nv rs rn hw ht he gs s W) (hbn : W.get bn = some (.row [.int .i64 (mt : Int), .int .i64 (lw : Int), .bool wtv, .int .i64 gv])) (hn : n < 2 ^ 30) (hwn : ∀ j ∈ s.wtg, j < n) (htl : s.wtg.length ≤ n) (hgl : gs.length ≤ 2 ^ 30)
  (hiw : lw = mt → i ∈ s.wtg) {A : AFr} {Q : Exit → AFr → AW → Prop} (a0 : A 0 = some (.ptr rs 0)) (a2 : A 2 = some (.int .i64 (i : Int))) (a3 : A 3 = some (.ptr bn 0))
  (hret : lw ≠ mt → ∀ A', Q .ret A' W)
  (hq : lw = mt → ∀ A' W' a b g ht' he' gs', s.wtg = a ++ i :: b → g.Perm (i :: b) → Sw n lo nv rs rn hw ht' he' gs' { s with wtg := a, wt := clrW s.wt (i :: b), ended := s.ended ++ [g] } W' → gs'.length = gs.length + 1 → W.nx ≤ W'.nx → (∀ x, x < lo → W'.get x = W.get x) → Q .normal A' W') : awp E (tailS c_leaveS 4) Q A W := by
 simp only [tailS, c_leaveS]
 by_cases hlm : lw = mt
 ·have hb : ((lw : Int) != (mt : Int)) = false := by subst hlm; simp
  obtain ⟨a, b, hab⟩ := List.append_of_mem (hiw hlm)
  -- the first place where it stands
  obtain ⟨a, b, hab, hna⟩ : ∃ a b, s.wtg = a ++ i :: b ∧ i ∉ a := by
   have key : ∀ l : List Nat, i ∈ l → ∃ a b, l = a ++ i :: b ∧ i ∉ a := by
    intro l
    induction l with
    | nil => intro h; cases h
    | cons x l ih =>
     intro hm
     by_cases e : x = i
     ·exact ⟨[], l, by rw [e]; rfl, by simp⟩
     ·obtain ⟨a, b, h1, h2⟩ := ih ((List.mem_cons.1 hm).resolve_left fun e' => e e'.symm)
      exact ⟨x :: a, b, by rw [h1]; rfl, fun hm => (List.mem_cons.1 hm).elim (fun e' => e e'.symm) h2⟩
   exact key _ (hiw hlm)
  have hlen : s.wtg.length = a.length + (i :: b).length := by rw [hab]; simp
  have hpos : 0 < (i :: b).length := by simp
  have hib : ∀ j ∈ i :: b, j < n := fun j hj => hwn j (by rw [hab]; exact List.mem_append_right _ hj)
  obtain ⟨rt, ct, rfl, gt, t1, t2⟩ := h.wtg.slr (by rw [natsV_len]; omega)
  rw [natsV_len] at *
  have hidx := idxS_c hP W (i := i) gt (by omega) hab hna
  have hcl := cloneS_c hP W gt (by omega) hab hpos
  have hsub : s.wtg.length - a.length = (i :: b).length := by omega
  obtain ⟨B, hB⟩ : ∃ B, B = i :: b := ⟨_, rfl⟩
  rw [← hB] at hlen hpos hib hcl hsub
  have l1 := h.rsl
  have l2 := h.rnl
  simp (maxSteps:=9^9) (disch:=omega) only [BX, ↓reduceIte, nE, reduceCtorEq, BM, BD, a0, a2, a3, hbn, hb, h.row]
  refine pc hidx ?_
  simp (maxSteps:=9^9) (disch:=omega) only [BZ, ↓reduceIte, nE, reduceCtorEq, BM, BD, a0, h.row, slcT, hsub]
  refine hcl.mono ?_
  rintro Y W1 ⟨rfl, hW1⟩
  have x1 : W1.nx = W.nx + 1 := by rw [hW1]; rfl
  have x2 : ∀ y, y < W.nx → W1.get y = W.get y := fun y hy => by rw [hW1]; exact alloc_lt hy
  have x3 : W1.get W.nx = some (.vec 1 (natsV B)) := by rw [hW1]; exact alloc_at
  have x4 : Cl W1 := fun r hr => by rw [x1] at hr; rw [hW1, al_gets, if_neg (by omega)]; exact h.cl r (by omega)
  clear hW1
  have h1 := h.to x4 (by omega) fun y _ hy => x2 y hy
  simp (maxSteps:=9^9) (disch:=omega) only [BS, e_seq, ↓reduceIte]
  refine clr_go hP (z := W.nx) (v5 := .int .i64 (a.length : Nat)) h1 x3 (by omega) hib (by omega) tt tt tt tt tt tt ?_
  intro A2 W2 b0 b5 b6 h2 n2 z2 f2
  obtain ⟨s2, hs2⟩ : ∃ s2 : TS, s2 = { s with wt := clrW s.wt B } := ⟨_, rfl⟩
  rw [← hs2] at h2
  have y1 : s2.way = s.way := by rw [hs2]
  have y2 : s2.wtg = s.wtg := by rw [hs2]
  have y3 : s2.cnt = s.cnt := by rw [hs2]
  have y4 : s2.ended = s.ended := by rw [hs2]
  simp (maxSteps:=9^9) (disch:=omega) only [BZ, ↓reduceIte, nE, reduceCtorEq, BM, BD, nA, nL, b0, b5, b6, h2.row, slcS, cellsS, oneS, y3]
  have hwt2 := h2.wtg
  obtain ⟨_, _, ct2, e2, gt2⟩ := hwt2.rlt rfl
  have hw3 : slH W2 (.slr rt 0 a.length 1) (natsV a) lo := .inr ⟨rt, natsV B ++ ct2, t1, by omega, by rw [natsV_len], by rw [gt2, y2, hab, ← hB]; simp [natsV]⟩
  have h3 := h2.putr (ht' := .slr rt 0 a.length 1) (s' := { s2 with wtg := a }) (lr _) h2.cl (fun _ _ _ _ _ => rfl) h2.way hw3 h2.eds (fun g hg => .inl hg) h2.eg (fun _ => rfl) h2.d1 h2.d2 h2.d3
  obtain ⟨W3, hW3⟩ : ∃ W3, W3 = W2.put rs (.row [nv, .slr rn 0 n 4, hw, .slr rt 0 a.length 1, he, .int .i64 (s.cnt : Int)]) := ⟨_, rfl⟩
  have h3 : Sw n lo nv rs rn hw (.slr rt 0 a.length 1) he gs { s2 with wtg := a } W3 := by rw [hW3, ← y3]; exact h3
  rw [← hW3]
  have zr : W.nx ≠ rs := by omega
  have z3 : W3.get W.nx = some (.vec 1 (natsV B)) := by rw [hW3, put_ne zr]; exact z2
  have n3 : W3.nx = W2.nx := by rw [hW3]; rfl
  have f3 : ∀ x, x < lo → W3.get x = W.get x := fun x hx => by rw [hW3, put_ne (by omega), f2 x hx, x2 x (by omega)]
  clear hW3
  refine (sortI_c hP W3 z3 hpos (by omega)).mono ?_
  rintro Y W4 ⟨rfl, g, hg, hW4⟩
  have hgl' := hg.length_eq
  have z4 : W4.get W.nx = some (.vec 1 (natsV g)) := by rw [hW4]; exact put_at
  have n4 : W4.nx = W3.nx := by rw [hW4]; rfl
  have f4 : ∀ x, x ≠ W.nx → W4.get x = W3.get x := fun x hx => by rw [hW4]; exact put_ne hx
  have c4 : Cl W4 := by rw [hW4]; exact h3.cl.put (by omega)
  clear hW4
  have q1 := h.way.rne W.nx (lr _)
  have q3 := h.eds.rne W.nx (lr _)
  have q2 : refH (.slr rt 0 a.length 1) ≠ some W.nx := fun e => by have : rt = W.nx := Option.some.inj e; omega
  have q4 : ∀ g ∈ gs, g.1 ≠ W.nx := fun g hg => by have := (h.grp g hg).2.1; omega
  have h4 := h3.but c4 (by omega) z3 q1 q2 q3 q4 fun x _ _ hx => f4 x hx
  simp (maxSteps:=9^9) (disch:=omega) only [BS, BC, ↓reduceIte, nE, reduceCtorEq, BM, BD, b0, b6, h4.row, bsS]
  rw [show B.length = g.length from hgl'.symm]
  refine h4.eds.app h4.cl (by omega) (x := egV (W.nx, g)) ⟨rfl, rfl⟩ (by rw [lmp]; omega) ?_
  intro W5 a1 a2' a3' a4
  have r5 := (a4 _ h4.rsl.2 (h4.eds.ner h4.row)).trans h4.row
  have d1 := h4.d1
  have d2 := h4.d2
  have w1 := h4.way.rne
  have w2 := h4.wtg.rne
  have ls4 := h4.rsl
  have a1' : slH W5 (.slr W4.nx 0 ((gs.map egV).length + 1) 1) ((gs ++ [(W.nx, g)]).map egV) lo := by rw [mpp]; exact a1
  simp (maxSteps:=9^9) (disch:=omega) only [BS, ↓reduceIte, nE, BM, BD, nA, nL, r5, cellsS, oneS, y3]
  have h5 := h4.putr (he' := .slr W4.nx 0 ((gs.map egV).length + 1) 1) (gs' := gs ++ [(W.nx, g)]) (s' := { s2 with wtg := a, ended := s.ended ++ [g] }) (by omega) a2' (fun x hx _ _ q => a4 x hx q)
   (h4.way.to (by omega) fun r hr _ hl => a4 r hl fun e => (d1 r hr).2 e) (h4.wtg.to (by omega) fun r hr _ hl => a4 r hl fun e => d2 r hr e) a1'
   (fun x hx => by
    rcases List.mem_append.1 hx with hx | hx
    ·exact .inl hx
    ·rw [List.mem_singleton.1 hx]; exact .inr ⟨by omega, by show W.nx < W5.nx; omega, by rw [a4 _ (by show W.nx < W4.nx; omega) q3]; exact z4⟩)
   (by show s.ended ++ [g] = _; rw [mpp, ← y4, h2.eg]; rfl) (fun _ => rfl)
   (fun r hr => ⟨(d1 r hr).1, fun e => by cases e; exact w1 _ (lr _) hr⟩) (fun r hr e => by cases e; exact w2 _ (lr _) hr)
   (fun x hx => by
    have hne : x.1 < W4.nx := by
     rcases List.mem_append.1 hx with hx | hx
     ·exact (h4.grp x hx).2.1
     ·rw [List.mem_singleton.1 hx]; show W.nx < W4.nx; omega
    have hn3 : refH (.slr W4.nx 0 ((gs.map egV).length + 1) 1) ≠ some x.1 := fun e => by have : W4.nx = x.1 := Option.some.inj e; omega
    rcases List.mem_append.1 hx with hx | hx
    ·exact ⟨(h4.d3 x hx).1, (h4.d3 x hx).2.1, hn3⟩
    ·rw [List.mem_singleton.1 hx] at hn3 ⊢; exact ⟨q1, q2, hn3⟩)
  subst hB
  refine hq hlm _ _ a b g _ _ _ hab hg (by rw [← y3]; rw [hs2] at h5 ⊢; exact h5) (by simp) (by rw [put_nx]; omega) fun x hx => ?_
  rw [put_ne (by omega), a4 x (by omega) fun e => by have := (h4.eds.rlt e).1; omega, f4 x (by omega)]
  exact f3 x hx
 ·have hb : ((lw : Int) != (mt : Int)) = true := by simp; omega
  simp (maxSteps:=9^9) (disch:=omega) only [BX, ↓reduceIte, nE, BM, BD, a3, hbn, hb]
  exact hret hlm _
def headS : AC → Nat → AC
 | .seq a _, 0 => a
 | .seq _ b, n + 1 => headS b n
 | c, _ => c
def leaveT : AC := tailS c_leaveS 4
theorem leave_eq : c_leaveS = .seq (headS c_leaveS 0) (.seq (headS c_leaveS 1) (.seq (headS c_leaveS 2) (.seq (headS c_leaveS 3) leaveT))) := id rfl
theorem leave_c (hP : PE E) (W : AW) {n lo rs rn : Nat} {nv hw ht he : V} {gs : List (Nat × List Nat)} {s : TS} {p : List Nat} {i : Nat} (h : Sw n lo nv rs rn hw ht he gs s W) (hwy : s.way = p ++ [i]) (hn : n < 2 ^ 30) (hwn : ∀ j ∈ s.wtg, j < n) (hsub : ∀ j ∈ s.way, j ∈ s.wtg) (hwl : s.way.length ≤ n) (htl : s.wtg.length ≤ n) (hgl : gs.length ≤ 2 ^ 30) (_ : nv.cells = [nv] ∧ nv.one = true) :
  ACalls E 210 [.ptr rs 0] W fun _ W' => W.nx ≤ W'.nx ∧ (∀ x, x < lo → W'.get x = W.get x) ∧ ∃ hw' ht' he' gs' s', Sw n lo nv rs rn hw' ht' he' gs' s' W' ∧ gs'.length ≤ gs.length + 1 ∧
   ((s.low i ≠ s.met i ∧ s' = { s.up p i with way := p }) ∨ (s.low i = s.met i ∧ ∃ a b g, s.wtg = a ++ i :: b ∧ g.Perm (i :: b) ∧ s' = { s.up p i with way := p, wtg := a, wt := clrW s.wt (i :: b), ended := s.ended ++ [g] })) := by
 refine ACalls.of hP Tryz.func210 ok_leaveSe (by simp) fun _ hok => ?_
 refine awp_startC h.cl ?_
 rw [leave_eq]
 have hiw : i ∈ s.wtg := hsub i (by rw [hwy]; simp)
 have hin := hwn i hiw
 have hlen : (natsV s.way).length = p.length + 1 := by rw [natsV_len, hwy]; simp
 have hpl : p.length < 2 ^ 30 := by have := congrArg List.length hwy; simp at this; omega
 obtain ⟨rw0, cw, rfl, gw, w1, w2⟩ := h.way.slr (by omega)
 rw [hlen] at h
 have hat : (natsV s.way ++ cw)[p.length]? = some (.int .i64 (i : Int)) := by
  rw [List.getElem?_append_left (by omega), hwy]; simp [natsV]
 have l1 := h.rsl
 have l2 := h.rnl
 have hne := h.ne
 have hne2 : rw0 ≠ rs := fun e => by rw [e, h.row] at gw; cases gw
 have hne3 : rw0 ≠ rn := fun e => by rw [e, h.nod] at gw; cases gw
 have hpr := wpred (k := p.length) (by omega)
 have hw3 : slH W (.slr rw0 0 p.length 1) (natsV p) lo := .inr ⟨rw0, .int .i64 (i : Int) :: cw, w1, w2, by rw [natsV_len], by rw [gw, hwy]; simp [natsV]⟩
 have f2 := h.wtg.cells
 have f3 := h.eds.cells
 -- the way without its last node
 have h2 := h.putr (hw' := .slr rw0 0 p.length 1) (s' := { s with way := p }) (lr _) h.cl (fun _ _ _ _ _ => rfl) hw3 h.wtg h.eds (fun g hg => .inl hg) h.eg (fun _ => rfl) (fun r hr => h.d1 r hr) h.d2 h.d3
 have fin : ∀ (Wx : AW) (s2 : TS) (A : AFr), Sw n lo nv rs rn (.slr rw0 0 p.length 1) ht he gs s2 Wx → s2 = { s.up p i with way := p } → Wx.nx = W.nx → (∀ x, x < lo → Wx.get x = W.get x) → A 0 = some (.ptr rs 0) → A 2 = some (.int .i64 (i : Int)) → A 3 = some (.ptr (rf W.nx 0) 0) →
   awp E leaveT (retQ [] W.nx fun Y W' => W.nx ≤ W'.nx ∧ (∀ x, x < lo → W'.get x = W.get x) ∧ ∃ hw' ht' he' gs' s', Sw n lo nv rs rn hw' ht' he' gs' s' W' ∧ gs'.length ≤ gs.length + 1 ∧
   ((s.low i ≠ s.met i ∧ s' = { s.up p i with way := p }) ∨ (s.low i = s.met i ∧ ∃ a b g, s.wtg = a ++ i :: b ∧ g.Perm (i :: b) ∧ s' = { s.up p i with way := p, wtg := a, wt := clrW s.wt (i :: b), ended := s.ended ++ [g] }))) A (X Wx W.nx [.row (nodeV s i)]) := by
  intro Wx s2 A hS hs2 hnx hfr e0 e2 e3
  have hX : Sw n lo nv rs rn (.slr rw0 0 p.length 1) ht he gs s2 (X Wx W.nx [.row (nodeV s i)]) := hS.to Cl.X (by simp only [X_nx, rf]; omega) fun x _ hx => X_old (by omega)
  obtain ⟨u1, u2, u3, u4, u5, u6, u7⟩ := TS.up_way (s := s) (p := p) (i := i)
  have y2 : s2.wtg = s.wtg := by rw [hs2]; exact u2
  have y6 : s2.wt = s.wt := by rw [hs2]; exact u6
  have y7 : s2.ended = s.ended := by rw [hs2]; exact u7
  refine leave_tail hP (bn := rf W.nx 0) hX (by rw [X_get]; rfl) hn (by rw [y2]; exact hwn) (by rw [y2]; exact htl) hgl (fun _ => by rw [y2]; exact hiw) e0 e2 e3 ?_ ?_
  ·intro hlm A'
   refine ⟨_, rfl, _, _, .weak weak_id, by simp only [X_nx, rf]; omega, by simp only [X_nx, rf]; omega, fun x hx => by rw [X_old (by omega)]; exact hfr x hx, _, _, _, _, _, hX, by omega, .inl ⟨hlm, hs2⟩⟩
  ·intro hlm A' W' a b g ht' he' gs' q1 q2 q3 q4 q5 q6
   have hnx' : W.nx + 1 ≤ W'.nx := q5
   refine ⟨_, rfl, _, _, .weak weak_id, by omega, by omega, fun x hx => by rw [q6 x hx, X_old (by omega)]; exact hfr x hx, _, _, _, _, _, q3, by omega, .inr ⟨hlm, a, b, g, by rw [← y2]; exact q1, q2, ?_⟩⟩
   rw [y6, y7, hs2]
 by_cases hp : p = []
 ·have hz : decide (((p.length : Nat) : Int) > 0) = false := by rw [hp]; decide
  simp (maxSteps:=9^9) (disch:=omega) only [BX, ↓reduceIte, nE, reduceCtorEq, BM, BD, nA, nL, nT, headS, c_leaveS, h.row, h.nod, put_at, put_ne, gw, hpr, zx1, ix4, mv_load, vl_at hat, slcS, vlA, cellsS, oneS, hz, nodeV]
  refine fin _ _ _ h2 ?_ rfl (fun x hx => put_ne (by omega)) tt tt tt
  rw [TS.up, hp]; rfl
 ·obtain ⟨pp, t, hpp⟩ : ∃ pp t, p = pp ++ [t] := ⟨p.dropLast, p.getLast hp, (List.dropLast_concat_getLast hp).symm⟩
  have hz : decide (((p.length : Nat) : Int) > 0) = true := by rw [hpp]; simp
  have hl2 : p.length = pp.length + 1 := by rw [hpp]; simp
  have hpr2 := wpred (k := pp.length) (by omega)
  rw [← hl2] at hpr2
  have htw : t ∈ s.way := by rw [hwy, hpp]; simp
  have htn := hwn t (hsub t htw)
  have hat2 : (natsV s.way ++ cw)[pp.length]? = some (.int .i64 (t : Int)) := by
   rw [List.getElem?_append_left (by omega), hwy, hpp]; simp [natsV]
  simp (maxSteps:=9^9) (disch:=omega) only [BX, ↓reduceIte, nE, reduceCtorEq, BM, BD, nA, nL, nT, headS, c_leaveS, h.row, h.nod, put_at, put_ne, gw, hpr, zx1, ix4, mv_load, vl_at hat, slcS, vlA, cellsS, oneS, hz, nodeV, hpr2, vl_at hat2, vl1, nilck_v, minN, mv_store, vsL]
  have h3 := h2.putn (s' := ({ s with way := p } : TS).setL t (min (s.low t) (s.low i))) rfl rfl rfl rfl
  have e9 := nodeC_same (s := ({ s with way := p } : TS).setL t (min (s.low t) (s.low i))) (s' := s.setL t (min (s.low t) (s.low i))) (fun _ => rfl) n
  rw [e9]
  refine fin _ _ _ h3 ?_ rfl (fun x hx => by rw [put_ne (by omega), put_ne (by omega)]) tt tt tt
  rw [TS.up, hpp, List.getLast?_concat]; rfl
def c_fromS_1 : AC := (.seq (.seq (.par (.step 0 (.m 35 5) (.step 1 (.u 36 .nilck 35) (.step 2 (.u 37 (.fld 3) 36) (.step 4 (.m 39 0) (.step 5 (.u 40 .nilck 39) (.step 6 (.u 41 (.fld 0) 40) (.step 8 (.m 43 4) (.step 3 (.u 38 (.load false 1) 37) (.step 7 (.u 42 (.load false 1) 41) (.step 9 (.b 44 (.idxp 1) 42 43) (.step 10 (.u 45 (.load false 1) 44) (.step 11 (.u 46 (.len 1 0) 45) (.step 12 (.b 47 (.bin .lss) 38 46) .done)))))))))))))) (.w 47 2)) (.block 3 (.seq (.par (.step 0 (.m 48 0) (.step 1 (.u 49 .nilck 48) (.step 2 (.u 50 (.fld 0) 49) (.step 4 (.m 52 4) (.step 7 (.m 55 5) (.step 8 (.u 56 .nilck 55) (.step 9 (.u 57 (.fld 3) 56) (.step 3 (.u 51 (.load false 1) 50) (.step 5 (.b 53 (.idxp 1) 51 52) (.step 6 (.u 54 (.load false 1) 53) (.step 10 (.u 58 (.load false 1) 57) (.step 11 (.b 59 (.idxp 1) 54 58) (.step 12 (.u 60 (.load false 1) 59) (.step 13 (.m 6 60) .done))))))))))))))) (.r [.m 61 5,.u 62 .nilck 61,.u 63 (.fld 3) 62,.u 64 (.load false 1) 63,.a 65 (.bin .add) 64 1,.u 66 .nilck 61,.u 67 (.fld 3) 66,⟨none,.store 1, [.t 67,.t 65], none⟩] (.r [.m 68 0,.u 69 .nilck 68,.u 70 (.fld 1) 69,.u 71 (.load false 1) 70,.m 72 6,.b 73 (.idxp 4) 71 72,.m 7 73] (.block 4 (.r [.m 75 7,.u 76 .nilck 75,.u 77 (.fld 0) 76,.u 78 (.fld 0) 77,.u 79 (.load false 1) 78,.a 80 (.bin .eql) 79 0,.m 74 80] (.cond (.t 74) (.r [.m 81 0,.m 82 6,.b 83 (.call 209) 81 82] (.exit 1)) (.r [.m 85 7,.u 86 .nilck 85,.u 87 (.fld 0) 86,.u 88 (.fld 2) 87,.u 89 (.load false 1) 88,.m 84 89] (.cond (.t 84) (.par (.step 0 (.m 90 5) (.step 1 (.m 91 5) (.step 2 (.u 92 .nilck 91) (.step 3 (.u 93 (.fld 0) 92) (.step 4 (.u 94 (.fld 1) 93) (.step 6 (.m 96 7) (.step 7 (.u 97 .nilck 96) (.step 8 (.u 98 (.fld 0) 97) (.step 9 (.u 99 (.fld 0) 98) (.step 5 (.u 95 (.load false 1) 94) (.step 10 (.u 100 (.load false 1) 99) (.step 11 (.b 101 (.len 5 0) 95 100) (.step 12 (.u 102 .nilck 90) (.step 13 (.u 103 (.fld 0) 102) (.step 14 (.u 104 (.fld 1) 103) (.step 15 ⟨none,.store 1, [.t 104,.t 101], none⟩ .done))))))))))))))))) .skip))))))))))
def c_fromS_0 : AC := (.seq (.r [.m 11 0,.u 12 .nilck 11,.u 13 (.fld 2) 12,.u 14 (.load false 1) 13,.u 15 (.len 1 0) 14,.a 16 (.bin .gtr) 15 0] (.w 16 0)) (.block 1 (.seq (.par (.step 0 (.m 17 0) (.step 1 (.u 18 .nilck 17) (.step 2 (.u 19 (.fld 2) 18) (.step 4 (.m 21 0) (.step 5 (.u 22 .nilck 21) (.step 6 (.u 23 (.fld 2) 22) (.step 3 (.u 20 (.load false 1) 19) (.step 7 (.u 24 (.load false 1) 23) (.step 8 (.u 25 (.len 1 0) 24) (.step 9 (.a 26 (.bin .sub) 25 1) (.step 10 (.b 27 (.idxp 1) 20 26) (.step 11 (.u 28 (.load false 1) 27) (.step 12 (.m 4 28) .done)))))))))))))) (.r [.m 29 0,.u 30 .nilck 29,.u 31 (.fld 1) 30,.u 32 (.load false 1) 31,.m 33 4,.b 34 (.idxp 4) 32 33,.m 5 34] (.seq (.block 2 (.loop c_fromS_1)) (.reg [.m 105 0,.u 106 (.call 210) 105]))))))
def c_fromS : AC := (.r [.m 8 0,.m 9 1,.b 10 (.call 209) 8 9] (.seq .skip (.block 0 (.loop c_fromS_0))))
theorem ok_fromSe : compF Tryz.prog Tryz.f175 ⟨true, false, []⟩ = some (c_fromS, [], 107) := by kernel_rfl
def isQ (s : Nat) (v : V) (xs : List V) : Prop := isS s v xs ∨ (xs = [] ∧ ∃ r, v = .slr r 0 0 s)
section
variable {W : AW} {K : V → AW → Prop} {s : Nat} {v : V} {xs : List V}
theorem isQ.len (h : isQ s v xs) {n : Nat} : sem E (.len 1 n) [v] W K = K (.int .i64 xs.length) W := by
 rcases h with h | ⟨rfl, r, rfl⟩
 ·exact h.len
 ·rfl
theorem isQ.idx (h : isQ s v xs) {k : Nat} {x : V} {kk : IntKind} (hx : xs[k]? = some x) : sem E (.idxp s) [v, .int kk (k : Int)] W K = K (.cptr x.cells) W := by
 rcases h with h | ⟨rfl, r, rfl⟩
 ·exact h.idx hx
 ·simp at hx
theorem isQ.frz (h : isQ s v xs) : W.frz v = v := by
 rcases h with h | ⟨rfl, r, rfl⟩
 ·exact h.frz
 ·rfl
theorem isQ.cells (h : isQ s v xs) : v.cells = [v] := by
 rcases h with h | ⟨rfl, r, rfl⟩
 ·exact h.cells
 ·rfl
theorem isQ.one (h : isQ s v xs) : v.one = true := by
 rcases h with h | ⟨rfl, r, rfl⟩
 ·exact h.one
 ·rfl
end
structure Nx (nv : V) (nx : Nat → List Nat) (n : Nat) : Prop where
 el : ∃ xs, isQ 1 nv xs ∧ xs.length = n ∧ ∀ i (h : i < xs.length), isS 1 xs[i] (natsV (nx i))
 lt : ∀ i, i < n → ∀ k ∈ nx i, k < n
 sm : ∀ i, i < n → (nx i).length < 2 ^ 40
theorem Nx.at {nv : V} {nx : Nat → List Nat} {n i : Nat} (h : Nx nv nx n) (hi : i < n) : ∃ xs x, isQ 1 nv xs ∧ xs[i]? = some x ∧ isS 1 x (natsV (nx i)) := by
 obtain ⟨xs, h1, h2, h3⟩ := h.el
 exact ⟨xs, xs[i]'(by omega), h1, gEg _, h3 i (by omega)⟩
theorem Nx.cells {nv : V} {nx : Nat → List Nat} {n : Nat} (h : Nx nv nx n) : nv.cells = [nv] ∧ nv.one = true := by
 obtain ⟨xs, h1, _⟩ := h.el
 exact ⟨h1.cells, h1.one⟩
theorem from1_go (hP : PE E) {W : AW} {n lo rs rn : Nat} {nv hw ht he : V} {gs : List (Nat × List Nat)} {nx : Nat → List Nat} {s : TS} {p : List Nat} {i : Nat} (h : Sw n lo nv rs rn hw ht he gs s W) (hB : TB nx n s) (hN : Nx nv nx n) (hwy : s.way = p ++ [i]) (hn : n < 2 ^ 30) {A : AFr} {Q : Exit → AFr → AW → Prop}
  (a0 : A 0 = some (.ptr rs 0)) (a4 : A 4 = some (.int .i64 (i : Int))) (a5 : A 5 = some (.vptr rn (i * 4)))
  (hmeet : ∀ A' W' hw' ht' s', A' 0 = some (.ptr rs 0) → Sw n lo nv rs rn hw' ht' he gs s' W' → TB nx n s' → s'.way.length = s.way.length + 1 → s'.cnt = s.cnt + 1 → gapS nx s' n + 1 ≤ gapS nx s n → (∀ j, 0 < s.met j → 0 < s'.met j) → W.nx ≤ W'.nx → (∀ x, x < lo → W'.get x = W.get x) → Q (.exit 1) A' W')
  (hend : ∀ A' W' s', A' 0 = some (.ptr rs 0) → Sw n lo nv rs rn hw ht he gs s' W' → TB nx n s' → s'.way = s.way → s'.met = s.met → s'.cnt = s.cnt → s'.gone i = (nx i).length → gapS nx s' n ≤ gapS nx s n → W.nx ≤ W'.nx → (∀ x, x < lo → W'.get x = W.get x) → Q (.exit 2) A' W') : ALoop (awp E c_fromS_1) Q A W := by
 have hiw : i ∈ s.way := by rw [hwy]; simp
 have hin : i < n := hB.wal i hiw
 obtain ⟨xs, x, n1, n2, n3⟩ := hN.at hin
 have hsm := hN.sm i hin
 refine alp (fun (s1 : TS) A1 W1 => A1 0 = some (.ptr rs 0) ∧ A1 4 = some (.int .i64 (i : Int)) ∧ A1 5 = some (.vptr rn (i * 4)) ∧ Sw n lo nv rs rn hw ht he gs s1 W1 ∧ TB nx n s1 ∧ s1.way = s.way ∧ s1.met = s.met ∧ s1.cnt = s.cnt ∧ gapS nx s1 n ≤ gapS nx s n ∧ W.nx ≤ W1.nx ∧ ∀ x, x < lo → W1.get x = W.get x) (fun s1 => (nx i).length - s1.gone i) s
  ⟨a0, a4, a5, h, hB, rfl, rfl, rfl, lr _, lr _, fun _ _ => rfl⟩ ?_
 rintro s1 A1 W1 ⟨g0, g4, g5, gS, gB, gw, gm, gc, gg, gn, gf⟩ _
 have l1 := gS.rsl
 have l2 := gS.rnl
 have hne := gS.ne
 by_cases hk : s1.gone i < (nx i).length
 ·obtain ⟨k, hkk⟩ : ∃ k, k = (nx i)[s1.gone i] := ⟨_, rfl⟩
  have hk? : (nx i)[s1.gone i]? = some k := by rw [hkk]; exact gEg hk
  have hat : (natsV (nx i))[s1.gone i]? = some (.int .i64 (k : Int)) := by rw [hkk]; exact natsV_at hk
  have hkn : k < n := hN.lt i hin k (by rw [hkk]; exact gmm _)
  have hk2 : decide (((s1.gone i : Nat) : Int) < (((natsV (nx i)).length : Nat) : Int)) = true := by rw [natsV_len]; simp; omega
  have hgap := gapS_go (nx := nx) (s := s1) hk n
  rw [if_pos hin] at hgap
  have hwy1 : s1.way = p ++ [i] := by rw [gw]; exact hwy
  have hiw1 : i ∈ s1.way := by rw [gw]; exact hiw
  have hp1 := gS.putn (s' := s1.go i) rfl rfl rfl rfl
  by_cases hmk : s1.met k = 0
  ·have hb : (((s1.go i).met k : Int) == 0) = true := by rw [show (s1.go i).met k = s1.met k from rfl, hmk]; rfl
   simp (maxSteps:=9^9) (disch:=omega) only [BX, ↓reduceIte, nE, reduceCtorEq, BM, BD, c_fromS_1, g0, g4, g5, gS.row, gS.nod, put_at, put_ne, mv_load, mv_store, vl3, vl0, n1.idx n2, n3.loadf, n3.len, n3.idx hat, hk2, ix4, nilck_v, wadd1, vsG, hb]
   have hcn := gB.cn
   have hwl := gB.wl
   have htl := gB.tl
   refine (meet_c hP _ hp1 hkn hn hcn hwl htl hN.cells.1).mono ?_
   rintro Y W2 ⟨m1, m2, hw', ht', m3⟩
   simp (maxSteps:=9^9) (disch:=omega) only [BS, ↓reduceIte, nE]
   have hTB := gB.new hwy1 hk? hmk hkn
   have m1' : W1.nx ≤ W2.nx := m1
   refine hmeet _ W2 hw' ht' _ g0 m3 hTB ?_ ?_ ?_ ?_ (by omega) fun x hx => ?_
   ·show (s1.way ++ [k]).length = _; rw [gw]; simp
   ·show s1.cnt + 1 = _; rw [gc]
   ·rw [gapS_eq (s := s1.go i) (s' := (s1.go i).meet k) rfl]; omega
   ·intro j hj
    show 0 < fset s1.met k _ j
    by_cases e : j = k
    ·rw [e, fset_at]; omega
    ·rw [fset_ne e, gm]; exact hj
   ·rw [m2 x hx, put_ne (by omega)]; exact gf x hx
  ·have hb : (((s1.go i).met k : Int) == 0) = false := by rw [show (s1.go i).met k = s1.met k from rfl]; simp; omega
   cases hwt : s1.wt k with
   | false =>
    have hwt' : (s1.go i).wt k = false := hwt
    simp (maxSteps:=9^9) (disch:=omega) only [BX, ↓reduceIte, nE, reduceCtorEq, BM, BD, c_fromS_1, g0, g4, g5, gS.row, gS.nod, put_at, put_ne, mv_load, mv_store, vl3, vl2, vl0, n1.idx n2, n3.loadf, n3.len, n3.idx hat, hk2, ix4, nilck_v, wadd1, vsG, hb, hwt']
    have hTB := gB.old hiw1 hk? (by omega) hwt
    refine ⟨s1.go i, ⟨tt, tt, tt, hp1, hTB, gw, gm, gc, by omega, gn, fun x hx => by rw [put_ne (by omega)]; exact gf x hx⟩, ?_, gn⟩
    show (nx i).length - fset s1.gone i (s1.gone i + 1) i < _
    rw [fset_at]; omega
   | true =>
    have hwt' : (s1.go i).wt k = true := hwt
    simp (maxSteps:=9^9) (disch:=omega) only [BX, ↓reduceIte, nE, reduceCtorEq, BM, BD, c_fromS_1, g0, g4, g5, gS.row, gS.nod, put_at, put_ne, mv_load, mv_store, vl3, vl2, vl1, vl0, n1.idx n2, n3.loadf, n3.len, n3.idx hat, hk2, ix4, nilck_v, wadd1, vsG, hb, hwt', minN, vsL]
    have hTB := gB.back hiw1 hk? hwt
    have hp2 := hp1.putn (s' := (s1.go i).lower i (s1.met k)) rfl rfl rfl rfl
    refine ⟨(s1.go i).lower i (s1.met k), ⟨tt, tt, tt, hp2, hTB, gw, gm, gc, ?_, gn, fun x hx => by rw [put_ne (by omega), put_ne (by omega)]; exact gf x hx⟩, ?_, gn⟩
    ·rw [gapS_eq (s := s1.go i) (s' := (s1.go i).lower i (s1.met k)) rfl]; omega
    ·show (nx i).length - fset s1.gone i (s1.gone i + 1) i < _
     rw [fset_at]; omega
 ·have hk2 : decide (((s1.gone i : Nat) : Int) < (((natsV (nx i)).length : Nat) : Int)) = false := by rw [natsV_len]; simp; omega
  simp (maxSteps:=9^9) (disch:=omega) only [BX, ↓reduceIte, nE, reduceCtorEq, BM, BD, c_fromS_1, g0, g4, g5, gS.row, gS.nod, mv_load, vl3, n1.idx n2, n3.loadf, n3.len, nilck_v, hk2]
  exact hend _ _ s1 g0 gS gB gw gm gc (by have := gB.ti.gle i; omega) gg gn gf
theorem from_c (hP : PE E) (W : AW) {n lo rs rn : Nat} {nv hw ht he : V} {gs : List (Nat × List Nat)} {nx : Nat → List Nat} {s : TS} {i0 : Nat} (h : Sw n lo nv rs rn hw ht he gs s W) (hB : TB nx n s) (hN : Nx nv nx n) (hwy : s.way = []) (hn : n < 2 ^ 30) (hi0 : i0 < n) (hm0 : s.met i0 = 0) (hgs : gs.length ≤ s.cnt) :
  ACalls E 175 [.ptr rs 0, .int .i64 (i0 : Int)] W fun _ W' => W.nx ≤ W'.nx ∧ (∀ x, x < lo → W'.get x = W.get x) ∧ ∃ hw' ht' he' gs' s', Sw n lo nv rs rn hw' ht' he' gs' s' W' ∧ TB nx n s' ∧ s'.way = [] ∧ gs'.length ≤ s'.cnt ∧ 0 < s'.met i0 ∧ ∀ j, 0 < s.met j → 0 < s'.met j := by
 refine ACalls.of hP Tryz.func175 ok_fromSe (by simp) fun _ hok => ?_
 have hcn := hB.cn
 have hwl := hB.wl
 have htl := hB.tl
 simp (maxSteps:=9^9) (disch:=omega) only [BZ, ↓reduceIte, nE, c_fromS]
 refine (meet_c hP _ h hi0 hn hcn hwl htl hN.cells.1).mono ?_
 rintro Y W1 ⟨m1, m2, hw1, ht1, m3⟩
 have hTB := hB.meet hi0 hm0 (.inl (hB.ti.fin hwy))
 simp (maxSteps:=9^9) (disch:=omega) only [BS, e_seq, ]
 rw [e_loop]
 refine alp (fun (σ : V × V × V × List (Nat × List Nat) × TS) A1 W2 => A1 0 = some (.ptr rs 0) ∧ Sw n lo nv rs rn σ.1 σ.2.1 σ.2.2.1 σ.2.2.2.1 σ.2.2.2.2 W2 ∧ TB nx n σ.2.2.2.2 ∧ σ.2.2.2.1.length + σ.2.2.2.2.way.length ≤ σ.2.2.2.2.cnt ∧ (∀ j, 0 < s.met j ∨ j = i0 → 0 < σ.2.2.2.2.met j) ∧ W.nx ≤ W2.nx ∧ ∀ x, x < lo → W2.get x = W.get x) (fun σ => 2 * gapS nx σ.2.2.2.2 n + σ.2.2.2.2.way.length) (hw1, ht1, he, gs, s.meet i0)
  ⟨rfl, m3, hTB, ?_, ?_, m1, m2⟩ ?_
 ·show gs.length + (s.way ++ [i0]).length ≤ s.cnt + 1
  rw [hwy]; simp; exact hgs
 ·intro j hj
  show 0 < fset s.met i0 _ j
  by_cases e : j = i0
  ·rw [e, fset_at]; omega
  ·rw [fset_ne e]; exact hj.resolve_right e
 rintro ⟨hw2, ht2, he2, gs2, s2⟩ A1 W2 ⟨g0, gS, gB, gc, gm, gn, gf⟩ _
 simp only at gS gB gc gm
 by_cases hp : s2.way = []
 ·have hl : decide ((((natsV s2.way).length : Nat) : Int) > 0) = false := by rw [hp]; rfl
  simp (maxSteps:=9^9) (disch:=omega) only [BX, ↓reduceIte, BM, BD, c_fromS_0, g0, gS.row, gS.way.len, hl]
  refine ⟨_, rfl, _, _, .weak weak_id, gn, gn, gf, _, _, _, _, s2, gS, gB, hp, by omega, gm i0 (.inr rfl), fun j hj => gm j (.inl hj)⟩
 ·obtain ⟨p, i, hpi⟩ : ∃ p i, s2.way = p ++ [i] := ⟨s2.way.dropLast, s2.way.getLast hp, (List.dropLast_concat_getLast hp).symm⟩
  have hlen : (natsV s2.way).length = p.length + 1 := by rw [natsV_len, hpi]; simp
  have hl : decide ((((p.length + 1 : Nat)) : Int) > 0) = true := by simp
  have hwl2 := gB.wl
  have htl2 := gB.tl
  have hpl : p.length + 1 ≤ n := by rw [natsV_len] at hlen; omega
  obtain ⟨rw0, cw, hw2e, gw, w1, w2⟩ := gS.way.slr (by omega)
  rw [hlen] at hw2e
  have hat : (natsV s2.way ++ cw)[p.length]? = some (.int .i64 (i : Int)) := by
   rw [List.getElem?_append_left (by omega), hpi]; simp [natsV]
  have hpr := wpred (k := p.length) (by omega)
  have hin := gB.wal i (by rw [hpi]; simp)
  have hrow := gS.row
  rw [hw2e] at hrow
  simp (maxSteps:=9^9) (disch:=omega) only [BX, ↓reduceIte, nE, reduceCtorEq, BM, BD, c_fromS_0, g0, hrow, hl, hpr, zx1, mv_load, gw, vl_at hat, ix4, e_loop]
  refine from1_go hP gS gB hN hpi hn tt tt tt ?_ ?_
  ·intro A' W' hw' ht' s' k0 k1 k2 k3 k4 k5 k6 k7 k8
   simp (maxSteps:=9^9) (disch:=omega) only [BS, ↓reduceIte, nE, k0]
   refine ⟨(hw', ht', he2, gs2, s'), ⟨tt, k1, k2, ?_, fun j hj => k6 j (gm j hj), by omega, fun x hx => (k8 x hx).trans (gf x hx)⟩, ?_, by omega⟩
   ·show gs2.length + s'.way.length ≤ s'.cnt; omega
   ·show 2 * gapS nx s' n + s'.way.length < 2 * gapS nx s2 n + s2.way.length; omega
  ·intro A' W' s' k0 k1 k2 k3 k4 k5 k6 k7 k8 k9
   simp (maxSteps:=9^9) (disch:=omega) only [BS, BC, ↓reduceIte, k0]
   have kw : s'.way = p ++ [i] := k3.trans hpi
   refine (leave_c hP W' k1 kw hn k2.wtl k2.ti.wsub k2.wl k2.tl (by have := k2.cn; omega) hN.cells).mono ?_
   rintro Y W3 ⟨q1, q2, hw', ht', he', gs', s3, q3, q4, q5⟩
   obtain ⟨u1, u2, u3, u4, u5, u6, u7⟩ := TS.up_way (s := s') (p := p) (i := i)
   have e3 : TB nx n s3 ∧ s3.way = p ∧ s3.cnt = s'.cnt ∧ s3.met = s'.met ∧ s3.gone = s'.gone := by
    rcases q5 with ⟨c1, rfl⟩ | ⟨c1, a, b, g, c2, c3, rfl⟩
    ·exact ⟨k2.popA kw k6 c1, rfl, u4, u3, u5⟩
    ·refine ⟨k2.popB kw k6 c1 c2 c3.length_eq (fun j => c3.mem_iff) (fun j => ?_), rfl, u4, u3, u5⟩
     show (s'.wt j && !decide (j ∈ i :: b)) = _
     rw [show decide (j ∈ g) = decide (j ∈ i :: b) from decide_eq_decide.2 c3.mem_iff]
   obtain ⟨e4, e5, e6, e7, e8⟩ := e3
   have hlw : s2.way.length = p.length + 1 := by rw [hpi]; simp
   simp (maxSteps:=9^9) (disch:=omega) only [BS, ↓reduceIte, reduceCtorEq, k0]
   refine ⟨(hw', ht', he', gs', s3), ⟨tt, q3, e4, ?_, fun j hj => ?_, by omega, fun x hx => ((q2 x hx).trans (k9 x hx)).trans (gf x hx)⟩, ?_, by omega⟩
   ·show gs'.length + s3.way.length ≤ s3.cnt
    rw [e5, e6, k5]; omega
   ·show 0 < s3.met j
    rw [e7, k4]; exact gm j hj
   ·show 2 * gapS nx s3 n + s3.way.length < 2 * gapS nx s2 n + s2.way.length
    rw [e5, gapS_eq e8]; omega
def c_may_0 : AC := (.r [.b 8 (.bin .lss) 7 6] (.seq (.w 8 0) (.seq (.block 1 (.r [.b 9 (.idxp 1) 5 7,.u 10 (.load false 1) 9,.m 4 10] (.r [.m 11 4,.u 12 (.mkfn (.func 208) 0) 1,.b 13 (.call 207) 11 12] (.cond (.t 13) (.r [.v 2 (.bool false)] .ret) .skip)))) (.reg [.a 14 (.bin .add) 7 1,.m 7 14]))))
def c_may : AC := (.r [.u 1 .box 0,.v 2 (.bool false)] (.seq (.r [.u 5 (.load false 1) 1,.u 6 (.len 1 0) 5,.v 7 (.int .i64 0)] (.block 0 (.loop c_may_0))) (.r [.v 2 (.bool true)] .ret)))
theorem ok_maye : compF Tryz.prog Tryz.f174 ⟨false, false, []⟩ = some (c_may, [.tmp 2], 15) := by kernel_rfl
def c_may1 : AC := (.r [.v 3 (.bool false)] (.r [.m 4 0,.a 5 (.bin .lss) 4 0,.m 6 5,.M 7 0 6 false,.U 8 (.load false 1) 1 6 false,.U 9 (.len 1 0) 8 6 false,.B 10 (.bin .geq) 7 9 6 false,.p 11 .pick [.t 6,.T,.t 10],.m 3 11] .ret))
theorem ok_may1e : compF Tryz.prog Tryz.f208 ⟨false, false, []⟩ = some (c_may1, [.tmp 3], 12) := by kernel_rfl
def c_cfI : AC := (.r [.v 4 (.bool false)] (.r [.m 5 0,.m 6 1,.b 7 (.call 235) 5 6,.a 8 (.bin .geq) 7 0,.m 4 8] .ret))
theorem ok_cfIe : compF Tryz.prog Tryz.f207 ⟨false, false, []⟩ = some (c_cfI, [.tmp 4], 9) := by kernel_rfl
def c_ifI_0 : AC := (.r [.b 9 (.bin .lss) 8 7] (.seq (.w 9 0) (.seq (.block 1 (.r [.m 10 8,.m 5 10] (.r [.m 11 1,.m 12 0,.m 13 5,.b 14 (.idxp 1) 12 13,.u 15 (.load false 1) 14,.b 16 .callv 11 15] (.cond (.t 16) (.r [.m 17 5,.m 4 17] .ret) .skip)))) (.reg [.a 18 (.bin .add) 8 1,.m 8 18]))))
def c_ifI : AC := (.r [.v 4 (.int .i64 0)] (.seq (.r [.m 6 0,.u 7 (.len 1 0) 6,.v 8 (.int .i64 0)] (.block 0 (.loop c_ifI_0))) (.r [.v 4 (.int .i64 (-1))] .ret)))
theorem ok_ifIe : compF Tryz.prog Tryz.f235 ⟨false, false, []⟩ = some (c_ifI, [.tmp 4], 19) := by kernel_rfl
def c_groups_0 : AC := (.r [.b 18 (.bin .lss) 17 16] (.seq (.w 18 0) (.seq (.block 1 (.r [.m 19 17,.m 5 19] (.r [.m 20 4,.u 21 .nilck 20,.u 22 (.fld 1) 21,.u 23 (.load false 1) 22,.m 24 5,.b 25 (.idxp 4) 23 24,.u 26 (.fld 0) 25,.u 27 (.fld 0) 26,.u 28 (.load false 1) 27,.a 29 (.bin .eql) 28 0] (.cond (.t 29) (.reg [.m 30 4,.m 31 5,.b 32 (.call 175) 30 31]) .skip)))) (.reg [.a 33 (.bin .add) 17 1,.m 17 33]))))
def c_groups : AC := (.r [.v 2 (.nilsl),.v 3 (.int .i64 0)] (.seq (.r [.m 6 0,.u 7 (.call 174) 6,.u 8 (.un .not) 7] (.cond (.t 8) (.r [.v 2 (.nilsl),.v 3 (.int .i64 2)] .ret) .skip)) (.r [.m 9 0,.m 10 0,.u 11 (.len 1 0) 10,.b 12 (.makesl 4 32 [.int .i64 0,.int .i64 0,.bool false,.int .i64 0]) 11 11,.b 13 (.build [.nilsl,.nilsl,.nilsl,.nilsl,.nilsl,.int .i64 0] [(0, 1), (1, 1)]) 9 12,.u 14 .box 13,.m 4 14] (.seq (.r [.m 15 0,.u 16 (.len 1 0) 15,.v 17 (.int .i64 0)] (.block 0 (.loop c_groups_0))) (.r [.m 34 4,.u 35 .nilck 34,.u 36 (.fld 4) 35,.u 37 (.load false 1) 36,.m 2 37,.v 3 (.int .i64 0)] .ret)))))
theorem ok_groupse : compF Tryz.prog Tryz.f127 ⟨true, false, []⟩ = some (c_groups, [.tmp 2, .tmp 3], 38) := by kernel_rfl
theorem may1_c (hP : PE E) (W : AW) {q n k : Nat} {nv : V} {xs : List V} (hq : W.get q = some (.row [nv])) (hs : isQ 1 nv xs) (hn : xs.length = n) (hk : k < n) : ACalls E 208 [.int .i64 (k : Int), .ptr q 0] W fun Y W' => Y = .bool false ∧ W' = W := by
 refine ACalls.of hP Tryz.func208 ok_may1e (by simp) fun _ hok => ?_
 have h1 : decide ((k : Int) < 0) = false := decide_eq_false (by omega)
 have h2 : decide ((k : Int) ≥ ((xs.length : Nat) : Int)) = false := decide_eq_false (by omega)
 simp (maxSteps:=9^9) (disch:=omega) only [c_may1, BZ, guard_if, ↓reduceIte, nE, reduceCtorEq, BM, hq, h1, hs.len, h2]
 exact ⟨_, rfl, _, _, .weak weak_id, lr _, rfl, rfl⟩
theorem ifI_c (hP : PE E) (W : AW) {q n : Nat} {nv v : V} {xs : List V} {l : List Nat} (hq : W.get q = some (.row [nv])) (hs : isQ 1 nv xs) (hn : xs.length = n) (hv : isS 1 v (natsV l)) (hl : ∀ k ∈ l, k < n) (hll : l.length < 2 ^ 40) : ACalls E 235 [v, .fn (.func 208) [] [.ptr q 0]] W fun Y W' => Y = .int .i64 (-1) ∧ W' = W := by
 refine ACalls.of hP Tryz.func235 ok_ifIe (by simp) fun _ hok => ?_
 simp (maxSteps:=9^9) (disch:=omega) only [BZ, ↓reduceIte, reduceCtorEq, c_ifI, hv.len, natsV_len]
 rw [e_loop]
 refine alp (fun (k : Nat) A1 W1 => A1 0 = some v ∧ A1 1 = some (.fn (.func 208) [] [.ptr q 0]) ∧ A1 7 = some (.int .i64 l.length) ∧ A1 8 = some (.int .i64 k) ∧ k ≤ l.length ∧ W1 = W) (fun k => l.length - k) 0
  ⟨rfl, rfl, rfl, rfl, Nat.zero_le _, rfl⟩ ?_
 rintro k A1 W1 ⟨g0, g1, g7, g8, gk, rfl⟩ _
 by_cases hk : k < l.length
 ·have hat : (natsV l)[k]? = some (.int .i64 (l[k] : Nat)) := natsV_at hk
  have hln := hl _ (gmm hk)
  generalize l[k] = j at hat hln
  simp (maxSteps:=9^9) (disch:=omega) only [BX, ↓reduceIte, nE, reduceCtorEq, BM, BD, c_ifI_0, g0, g1, g7, g8, clt, hk, dT, hv.idx hat]
  refine pc (may1_c hP _ hq hs hn hln) ?_
  simp (maxSteps:=9^9) (disch:=omega) only [BS, BC, cond_if, ↓reduceIte, nE, reduceCtorEq, g0, g1, g7, g8, wadd1]
  exact ⟨k + 1, ⟨tt, tt, tt, tt, hk, tt⟩, by omega, lr _⟩
 ·obtain rfl : k = l.length := by omega
  simp (maxSteps:=9^9) (disch:=omega) only [BX, ↓reduceIte, c_ifI_0, g7, g8, clt, hk, dF]
  exact ⟨_, rfl, _, _, .weak weak_id, lr _, rfl, rfl⟩
theorem cfI_c (hP : PE E) (W : AW) {q n : Nat} {nv v : V} {xs : List V} {l : List Nat} (hq : W.get q = some (.row [nv])) (hs : isQ 1 nv xs) (hn : xs.length = n) (hv : isS 1 v (natsV l)) (hl : ∀ k ∈ l, k < n) (hll : l.length < 2 ^ 40) : ACalls E 207 [v, .fn (.func 208) [] [.ptr q 0]] W fun Y W' => Y = .bool false ∧ W' = W := by
 refine ACalls.of hP Tryz.func207 ok_cfIe (by simp) fun _ hok => ?_
 simp (maxSteps:=9^9) (disch:=omega) only [BZ, ↓reduceIte, nE, reduceCtorEq, c_cfI, hv.frz]
 refine pc (ifI_c hP W hq hs hn hv hl hll) ?_
 have h1 : decide ((-1 : Int) ≥ 0) = false := by decide
 simp (maxSteps:=9^9) (disch:=omega) only [BS, BC, ↓reduceIte, h1]
 exact ⟨_, rfl, _, _, .weak weak_id, lr _, rfl, rfl⟩
theorem may_c (hP : PE E) (W : AW) {nv : V} {nx : Nat → List Nat} {n : Nat} (hN : Nx nv nx n) (hn : n < 2 ^ 30) : ACalls E 174 [nv] W fun Y W' => Y = .bool true ∧ W' = W := by
 obtain ⟨xs, s1, s2, s3⟩ := hN.el
 refine ACalls.of hP Tryz.func174 ok_maye (by simp) fun _ hok => ?_
 refine awp_start hok ?_
 have f1 := hN.cells
 simp (maxSteps:=9^9) (disch:=omega) only [BZ, ↓reduceIte, nE, BM, BD, c_may, f1.1, s1.len, s2]
 rw [e_loop]
 refine alp (fun (k : Nat) A1 W1 => A1 1 = some (.ptr (rf W.nx 0) 0) ∧ A1 5 = some nv ∧ A1 6 = some (.int .i64 n) ∧ A1 7 = some (.int .i64 k) ∧ k ≤ n ∧ W1 = X W W.nx [.row [nv]]) (fun k => n - k) 0
  ⟨rfl, rfl, rfl, rfl, Nat.zero_le _, rfl⟩ ?_
 rintro k A1 W1 ⟨g1, g5, g6, g7, gk, rfl⟩ _
 by_cases hk : k < n
 ·have hat : xs[k]? = some (xs[k]'(by omega)) := gEg _
  have hx := s3 k (by omega)
  generalize xs[k]'(by omega) = x at hat hx
  have hrow : (X W W.nx [.row [nv]]).get (rf W.nx 0) = some (.row [nv]) := by rw [X_get]; rfl
  simp (maxSteps:=9^9) (disch:=omega) only [BX, ↓reduceIte, nE, BM, BD, c_may_0, g1, g5, g6, g7, clt, hk, dT, s1.idx hat, hx.loadf, hx.frz]
  refine pc (cfI_c hP _ hrow s1 s2 hx (hN.lt k hk) (by have := hN.sm k hk; omega)) ?_
  simp (maxSteps:=9^9) (disch:=omega) only [BS, BC, cond_if, ↓reduceIte, nE, BM, BD, g1, g5, g6, g7, wadd1]
  exact ⟨k + 1, ⟨tt, tt, tt, tt, hk, tt⟩, by omega, lr _⟩
 ·obtain rfl : k = n := by omega
  simp (maxSteps:=9^9) (disch:=omega) only [BX, ↓reduceIte, BM, BD, c_may_0, g6, g7, clt, hk, dF]
  exact ⟨_, rfl, _, W, backX hok rfl, lr _, rfl, rfl⟩
theorem zeros_node (n : Nat) : zerosV [.int .i64 0, .int .i64 0, .bool false, .int .i64 0] n = nodeC TS.init n := by
 induction n with
 | zero => rfl
 | succ n ih =>
  rw [nodeC, ← ih]
  simp only [zerosV, List.replicate_succ', List.flatten_append, List.flatten_cons, List.flatten_nil, apn]
  rfl
theorem mkN {W : AW} {K : V → AW → Prop} {n : Nat} (h : n < 2 ^ 30) : sem E (.makesl 4 32 [.int .i64 0, .int .i64 0, .bool false, .int .i64 0]) [.int .i64 (n : Int), .int .i64 (n : Int)] W K = K (.slr W.nx 0 n 4) (W.alloc (.vec 4 (nodeC TS.init n))) := by
 simp only [sem, Int.toNat_natCast, zeros_node]
 exact propext ⟨fun h => h.2.2.2.2, fun h => ⟨by omega, tt, by omega, by omega, h⟩⟩
theorem groups_c (hP : PE E) (W : AW) {nv : V} {nx : Nat → List Nat} {n : Nat} (hN : Nx nv nx n) (hn : n < 2 ^ 30) :
  ACalls E 127 [nv] W fun Y W' => W.nx ≤ W'.nx ∧ (∀ x, x < W.nx → W'.get x = W.get x) ∧ ∃ rs rn hw ht he gs s, Y = .tuple [he, .int .i64 0] ∧ Sw n W.nx nv rs rn hw ht he gs s W' ∧ TB nx n s ∧ s.way = [] ∧ gs.length ≤ n ∧ ∀ i, i < n → 0 < s.met i := by
 obtain ⟨xs, s1, s2, s3⟩ := hN.el
 refine ACalls.of hP Tryz.func127 ok_groupse (by simp) fun _ hok => ?_
 refine awp_start hok ?_
 have f1 := hN.cells
 simp (maxSteps:=9^9) (disch:=omega) only [BZ, ↓reduceIte, reduceCtorEq, c_groups, s1.frz]
 refine pc (may_c hP _ hN hn) ?_
 simp (maxSteps:=9^9) (disch:=omega) only [BX, ↓reduceIte, nE, reduceCtorEq, BM, BD, nA, nL, s1.len, s2, mkN, f1.1, cellsS]
 obtain ⟨W1, hW1⟩ : ∃ W1, W1 = X W W.nx [.vec 4 (nodeC TS.init n), .row [nv, .slr (rf W.nx 0) 0 n 4, .nilsl, .nilsl, .nilsl, .int .i64 0]] := ⟨_, rfl⟩
 rw [← hW1]
 have r0 : rf W.nx 0 = W.nx := rfl
 have r1 : rf W.nx 1 = W.nx + 1 := rfl
 have hn1 : W1.nx = W.nx + 2 := by rw [hW1]; rfl
 have h1 : Sw n W.nx nv (rf W.nx 1) (rf W.nx 0) .nilsl .nilsl .nilsl [] TS.init W1 :=
  ⟨by rw [hW1, X_get]; rfl, by rw [hW1, X_get]; rfl, .inl ⟨rfl, rfl⟩, .inl ⟨rfl, rfl⟩, .inl ⟨rfl, rfl⟩, fun g hg => (by cases hg), rfl, by omega, by omega, fun r hr => (by cases hr), fun r hr => (by cases hr), fun g hg => (by cases hg), by rw [hW1]; exact Cl.X⟩
 have hf1 : ∀ x, x < W.nx → W1.get x = W.get x := fun x hx => by rw [hW1]; exact X_old hx
 clear hW1
 rw [e_loop]
 refine alp (fun (σ : Nat × V × V × V × List (Nat × List Nat) × TS) A1 W2 => A1 4 = some (.ptr (rf W.nx 1) 0) ∧ A1 16 = some (.int .i64 n) ∧ A1 17 = some (.int .i64 σ.1) ∧ σ.1 ≤ n ∧ Sw n W.nx nv (rf W.nx 1) (rf W.nx 0) σ.2.1 σ.2.2.1 σ.2.2.2.1 σ.2.2.2.2.1 σ.2.2.2.2.2 W2 ∧ TB nx n σ.2.2.2.2.2 ∧ σ.2.2.2.2.2.way = [] ∧ σ.2.2.2.2.1.length ≤ σ.2.2.2.2.2.cnt ∧ (∀ j, j < σ.1 → 0 < σ.2.2.2.2.2.met j) ∧ W.nx ≤ W2.nx ∧ ∀ x, x < W.nx → W2.get x = W.get x) (fun σ => n - σ.1) (0, .nilsl, .nilsl, .nilsl, [], TS.init)
  ⟨rfl, rfl, rfl, Nat.zero_le _, h1, TB.init nx n, rfl, lr _, fun j hj => by simp at hj, by omega, hf1⟩ ?_
 rintro ⟨i, hw, ht, he, gs, s⟩ A1 W2 ⟨g4, g16, g17, gi, gS, gB, gw, gl, gm, gn, gf⟩ _
 simp only at g17 gi gS gB gw gl gm
 by_cases hi : i < n
 ·by_cases hm : s.met i = 0
  ·have hb : ((s.met i : Int) == 0) = true := by rw [hm]; rfl
   simp (maxSteps:=9^9) (disch:=omega) only [BX, ↓reduceIte, nE, BM, BD, c_groups_0, g4, g16, g17, clt, hi, dT, gS.row, gS.nod, ix4, mv_load, vl0, hb]
   refine (from_c hP W2 gS gB hN gw hn hi hm gl).mono ?_
   rintro Y W3 ⟨q1, q2, hw', ht', he', gs', s', q3, q4, q5, q6, q7, q8⟩
   simp (maxSteps:=9^9) (disch:=omega) only [BS, ↓reduceIte, nE, g4, g16, g17, wadd1]
   refine ⟨(i + 1, hw', ht', he', gs', s'), ⟨tt, tt, tt, hi, q3, q4, q5, q6, fun j hj => ?_, by omega, fun x hx => (q2 x hx).trans (gf x hx)⟩, by show n - (i + 1) < n - i; omega, by omega⟩
   by_cases e : j = i
   ·rw [e]; exact q7
   ·exact q8 j (gm j (by have : j < i + 1 := hj; omega))
  ·have hb : ((s.met i : Int) == 0) = false := by simp; omega
   simp (maxSteps:=9^9) (disch:=omega) only [BX, ↓reduceIte, nE, BM, BD, c_groups_0, g4, g16, g17, clt, hi, dT, gS.row, gS.nod, ix4, mv_load, vl0, hb, wadd1]
   refine ⟨(i + 1, hw, ht, he, gs, s), ⟨tt, tt, tt, hi, gS, gB, gw, gl, fun j hj => ?_, by omega, gf⟩, by show n - (i + 1) < n - i; omega, by omega⟩
   by_cases e : j = i
   ·rw [e]; show 0 < s.met i; omega
   ·exact gm j (by have : j < i + 1 := hj; omega)
 ·obtain rfl : i = n := by omega
  have hfz := gS.eds.frz (W1 := W2)
  have hcn := gB.cn
  simp (maxSteps:=9^9) (disch:=omega) only [BX, ↓reduceIte, nE, BM, BD, c_groups_0, g4, g16, g17, clt, hi, dF, gS.row, hfz]
  exact ⟨_, rfl, _, _, .weak weak_id, gn, gn, gf, _, _, _, _, _, _, _, rfl, gS, gB, gw, by omega, gm⟩
open Go Go.AL Go.Proofs Go.Shelf
def c_number_1 : AC := (.r [.b 22 (.bin .lss) 21 20] (.seq (.w 22 2) (.seq (.block 3 (.r [.b 23 (.idxp 1) 19 21,.u 24 (.load false 1) 23,.m 9 24] (.reg [.m 25 5,.m 26 9,.m 27 6,.b 28 (.idxp 1) 25 26,⟨none,.store 1, [.t 28,.t 27], none⟩]))) (.reg [.a 29 (.bin .add) 21 1,.m 21 29]))))
def c_number_0 : AC := (.r [.b 15 (.bin .lss) 14 13] (.seq (.w 15 0) (.seq (.block 1 (.r [.m 16 14,.b 17 (.idxp 1) 12 14,.u 18 (.load false 1) 17,.m 6 16,.m 7 18] (.r [.m 19 7,.u 20 (.len 1 0) 19,.v 21 (.int .i64 0)] (.block 2 (.loop c_number_1))))) (.reg [.a 30 (.bin .add) 14 1,.m 14 30]))))
def c_number : AC := (.r [.v 4 (.nilsl)] (.r [.m 10 0,.b 11 (.makesl 1 8 [.int .i64 0]) 10 10,.m 5 11] (.seq (.r [.m 12 1,.u 13 (.len 1 0) 12,.v 14 (.int .i64 0)] (.block 0 (.loop c_number_0))) (.r [.m 31 5,.m 4 31] .ret))))
theorem ok_numbere : compF Tryz.prog Tryz.f107 ⟨true, false, []⟩ = some (c_number, [.tmp 4], 32) := by kernel_rfl
def c_groupsS : AC := (.r [.v 2 (.nilsl),.v 3 (.int .i64 0)] (.r [.m 7 0,.u 8 (.call 127) 7,.m 6 8,.u 9 (.ext 0) 6,.u 10 (.ext 1) 6,.m 4 9,.m 5 10] (.r [.m 11 4,.p 12 (.call 128) [.t 11,.f 129]] (.r [.m 13 4,.m 14 5,.m 2 13,.m 3 14] .ret))))
theorem ok_groupsSe : compF Tryz.prog Tryz.f106 ⟨true, false, []⟩ = some (c_groupsS, [.tmp 2, .tmp 3], 15) := by kernel_rfl
def c_comp : AC := (.r [.v 2 (.nilsl),.v 3 (.int .i64 0)] (.r [.m 7 0,.u 8 (.call 106) 7,.m 6 8,.u 9 (.ext 0) 6,.u 10 (.ext 1) 6,.m 4 9,.m 5 10] (.seq (.r [.m 11 5,.a 12 (.bin .neq) 11 0] (.cond (.t 12) (.r [.m 13 5,.v 2 (.nilsl),.m 3 13] .ret) .skip)) (.r [.m 14 0,.u 15 (.len 1 0) 14,.m 16 4,.b 17 (.call 107) 15 16,.m 2 17,.v 3 (.int .i64 0)] .ret))))
theorem ok_compe : compF Tryz.prog Tryz.f82 ⟨true, false, []⟩ = some (c_comp, [.tmp 2, .tmp 3], 18) := by kernel_rfl
theorem sortLL0_c (hP : PE E) (W : AW) {he : V} {lo : Nat} (h : slH W he [] lo) : ACalls E 128 [he, .fn (.func 129) [] []] W fun Y W' => Y = .tuple [] ∧ W' = W := by
 refine ⟨⟨_, _, by rw [hP]; exact Tryz.func128, rfl, by decide⟩, fun _ γ w ws hW hr => ?_⟩
 obtain ⟨v, _, rfl, hv, v2, _, rfl, ⟨fs, cs2, rfl, hf1, hf2⟩, rfl⟩ := hr
 cases hf1; cases hf2
 obtain ⟨p, cap, rfl⟩ : ∃ p cap, v = .slice p 0 cap := by
  rcases h with ⟨rfl, _⟩ | ⟨r, cs, _, _, rfl, _⟩
  ·exact ⟨none, 0, hv⟩
  ·obtain ⟨b, a, _, rfl, _⟩ := hv
   exact ⟨some a, _, rfl⟩
 have L := laysLL
 have hk := AnyF.slices_SortFunc_none (P := Tryz.prog) (ρ := laysLL_ren) { L with } p cap (.func (.func 129) #[] #[]) w
 rw [hP]
 refine Calls.mono hk ?_
 rintro en w' ⟨rfl, rfl⟩
 exact ⟨_, γ, .tuple [], W, rfl, G.le.refl _ _, lr _, hW, ⟨[], rfl, rfl⟩, rfl, rfl⟩
theorem bel_nats (l : List Nat) (n : Nat) : V.belL n (natsV l) = true := by
 induction l with
 | nil => rfl
 | cons x l ih => simp only [natsV, mcs, V.belL, Bool.and_eq_true] at ih ⊢; exact ⟨rfl, ih⟩
def NumI (gs : List (List Nat)) (k : Nat) (out : List Nat) : Prop := ∀ i (h : i < out.length), (∀ m, m < k → i ∉ gs.getD m []) ∨ ∃ m, m < k ∧ i ∈ gs.getD m [] ∧ out[i] = m ∧ ∀ m', m < m' → m' < k → i ∉ gs.getD m' []
theorem NumI.zero (gs : List (List Nat)) (out : List Nat) : NumI gs 0 out := fun i h => .inl fun m hm => by omega
theorem NumI.step {gs : List (List Nat)} {k : Nat} {out out' : List Nat} (h : NumI gs k out) (hl : out'.length = out.length) (h' : ∀ i (h1 : i < out'.length) (h2 : i < out.length), (i ∈ gs.getD k [] → out'[i] = k) ∧ (i ∉ gs.getD k [] → out'[i] = out[i])) : NumI gs (k + 1) out' := by
 intro i hi
 have hi2 : i < out.length := by omega
 obtain ⟨a, b⟩ := h' i hi hi2
 by_cases hm : i ∈ gs.getD k []
 ·exact .inr ⟨k, by omega, hm, a hm, fun m' h1 h2 => by omega⟩
 ·rcases h i hi2 with c | ⟨m, m1, m2, m3, m4⟩
  ·exact .inl fun m hmk => by
    by_cases e : m = k
    ·rw [e]; exact hm
    ·exact c m (by omega)
  ·exact .inr ⟨m, by omega, m2, by rw [b hm]; exact m3, fun m' h1 h2 => by
    by_cases e : m' = k
    ·rw [e]; exact hm
    ·exact m4 m' h1 (by omega)⟩
theorem NumI.same {gs : List (List Nat)} {out : List Nat} (h : NumI gs gs.length out) (hall : ∀ i, i < out.length → ∃ g ∈ gs, i ∈ g) (hone : ∀ g ∈ gs, ∀ g' ∈ gs, ∀ i, i ∈ g → i ∈ g' → ∀ j, j ∈ g ↔ j ∈ g') {i j : Nat} (hi : i < out.length) (hj : j < out.length) : out[i] = out[j] ↔ ∃ g ∈ gs, i ∈ g ∧ j ∈ g := by
 have hmem : ∀ m, m < gs.length → gs.getD m [] ∈ gs := fun m hm => by rw [List.getD_eq_getElem?_getD, gEg hm]; exact gmm _
 have hex : ∀ i (hi : i < out.length), ∃ m, m < gs.length ∧ i ∈ gs.getD m [] ∧ out[i] = m ∧ ∀ m', m < m' → m' < gs.length → i ∉ gs.getD m' [] := fun i hi => by
  rcases h i hi with c | c
  ·obtain ⟨g, hg, hig⟩ := hall i hi
   obtain ⟨m, hm, rfl⟩ := List.getElem_of_mem hg
   refine absurd ?_ (c m hm)
   rw [List.getD_eq_getElem?_getD, gEg hm]; exact hig
  ·exact c
 obtain ⟨a, a1, a2, a3, a4⟩ := hex i hi
 obtain ⟨b, b1, b2, b3, b4⟩ := hex j hj
 rw [a3, b3]
 constructor
 ·rintro rfl; exact ⟨_, hmem _ a1, a2, b2⟩
 ·rintro ⟨g, hg, h1, h2⟩
  have e1 : j ∈ gs.getD a [] := (hone _ (hmem _ a1) g hg i a2 h1 j).2 h2
  have e2 : i ∈ gs.getD b [] := (hone _ (hmem _ b1) g hg j b2 h2 i).2 h1
  have c1 : ¬ b < a := fun hlt => b4 a hlt a1 e1
  have c2 : ¬ a < b := fun hlt => a4 b hlt b1 e2
  omega
theorem mk8 {W : AW} {K : V → AW → Prop} {n : Nat} (h : n < 2 ^ 30) : sem E (.makesl 1 8 [.int .i64 0]) [.int .i64 (n : Int), .int .i64 (n : Int)] W K = K (.slr W.nx 0 n 1) (W.alloc (.vec 1 (natsV (List.replicate n 0)))) := by
 have hz : ∀ k, zerosV [V.int .i64 0] k = natsV (List.replicate k 0) := fun k => by
  induction k with
  | zero => rfl
  | succ k ih => simp only [zerosV, List.replicate_succ, List.flatten_cons, natsV, mcs] at ih ⊢; rw [ih]; rfl
 simp only [sem, Int.toNat_natCast, hz]
 exact propext ⟨fun h => h.2.2.2.2, fun h => ⟨by omega, tt, by omega, by omega, h⟩⟩
theorem vs_nat {l : List Nat} {i a : Nat} {k : AObj → Prop} (h : i < l.length) : vstoreK (some (.vec 1 (natsV l))) i 1 (.int .i64 (a : Int)) k = k (.vec 1 (natsV (l.set i a))) := by
 have e : (natsV l).take i ++ (V.int .i64 (a : Int)).cells ++ (natsV l).drop (i + 1) = natsV (l.set i a) := by
  have : natsV (l.set i a) = (natsV l).set i (.int .i64 (a : Int)) := by simp [natsV, List.map_set]
  rw [this, List.set_eq_take_append_cons_drop, if_pos (by rw [natsV_len]; exact h)]
  simp [V.cells]
 simp only [vstoreK, e]
 exact propext ⟨fun h => h.2.2.2, fun h' => ⟨rfl, rfl, by rw [natsV_len]; omega, h'⟩⟩
theorem num1_go (_ : E.P = Tryz.prog) {W : AW} {ro n z k : Nat} {out g : List Nat} {v12 v13 : V} (ho : W.get ro = some (.vec 1 (natsV out))) (hol : out.length = n) (hz : W.get z = some (.vec 1 (natsV g))) (hzo : z ≠ ro) (hrl : ro < W.nx) (hC : Cl W) (hgn : ∀ i ∈ g, i < n) (hgl : g.length < 2 ^ 40) {A : AFr} {Q : Exit → AFr → AW → Prop}
  (a5 : A 5 = some (.slr ro 0 n 1)) (a6 : A 6 = some (.int .i64 (k : Int))) (a12 : A 12 = some v12) (a13 : A 13 = some v13) (a14 : A 14 = some (.int .i64 (k : Int))) (a19 : A 19 = some (.slr z 0 g.length 1)) (a20 : A 20 = some (.int .i64 g.length)) (a21 : A 21 = some (.int .i64 0))
  (hQ : ∀ A' W' out', A' 5 = some (.slr ro 0 n 1) → A' 12 = some v12 → A' 13 = some v13 → A' 14 = some (.int .i64 (k : Int)) → out'.length = n → W'.get ro = some (.vec 1 (natsV out')) → (∀ i (h1 : i < out'.length) (h2 : i < out.length), (i ∈ g → out'[i] = k) ∧ (i ∉ g → out'[i] = out[i])) → W'.nx = W.nx → Cl W' → (∀ x, x ≠ ro → W'.get x = W.get x) → Q (.exit 2) A' W') : ALoop (awp E c_number_1) Q A W := by
 refine alp (fun (σ : Nat × List Nat) A1 W1 => A1 5 = some (.slr ro 0 n 1) ∧ A1 6 = some (.int .i64 (k : Int)) ∧ A1 12 = some v12 ∧ A1 13 = some v13 ∧ A1 14 = some (.int .i64 (k : Int)) ∧ A1 19 = some (.slr z 0 g.length 1) ∧ A1 20 = some (.int .i64 g.length) ∧ A1 21 = some (.int .i64 σ.1) ∧ σ.1 ≤ g.length ∧ σ.2.length = n ∧ W1.get ro = some (.vec 1 (natsV σ.2)) ∧ (∀ i (h1 : i < σ.2.length) (h2 : i < out.length), (i ∈ g.take σ.1 → σ.2[i] = k) ∧ (i ∉ g.take σ.1 → σ.2[i] = out[i])) ∧ W1.nx = W.nx ∧ Cl W1 ∧ ∀ x, x ≠ ro → W1.get x = W.get x) (fun σ => g.length - σ.1) (0, out)
  ⟨a5, a6, a12, a13, a14, a19, a20, a21, Nat.zero_le _, hol, ho, fun i h1 h2 => ⟨fun h => by simp at h, fun _ => rfl⟩, rfl, hC, fun _ _ => rfl⟩ ?_
 rintro ⟨j, o⟩ A1 W1 ⟨g5, g6, g12, g13, g14, g19, g20, g21, gj, gl, go, gp, gn, gC, gf⟩ _
 simp only at g21 gj gl go gp
 by_cases hj : j < g.length
 ·have hat : (natsV g)[j]? = some (.int .i64 (g[j] : Nat)) := natsV_at hj
  have htk : g.take (j + 1) = g.take j ++ [g[j]] := by rw [tao, gEg hj]; rfl
  have hin := hgn _ (gmm hj)
  generalize g[j] = i at hat htk hin
  have gz := (gf z hzo).trans hz
  have hio : i < o.length := by omega
  simp (maxSteps:=9^9) (disch:=omega) only [BS, e_seq, cond_if, ↓reduceIte, nE, BM, c_number_1, g5, g6, g12, g13, g14, g19, g20, g21, clt, hj, dT, zx1, mv_load, gz, vl_at hat, mv_store, go, vs_nat hio, wadd1]
  refine ⟨(j + 1, o.set i k), ⟨tt, tt, tt, tt, tt, tt, tt, tt, hj, by simpa using gl, put_at, fun x h1 h2 => ?_, gn, gC.put (by omega), fun x hx => by rw [put_ne hx]; exact gf x hx⟩, by show g.length - (j + 1) < g.length - j; omega, by rw [put_nx]; omega⟩
  have h1' : x < o.length := by simpa using h1
  obtain ⟨p1, p2⟩ := gp x h1' h2
  show (x ∈ g.take (j + 1) → (o.set i k)[x] = k) ∧ (x ∉ g.take (j + 1) → (o.set i k)[x] = out[x])
  rw [htk, List.getElem_set]
  by_cases e : i = x
  ·rw [if_pos e]
   exact ⟨fun _ => rfl, fun hn => absurd (List.mem_append_right _ (by rw [e]; simp)) hn⟩
  ·rw [if_neg e]
   refine ⟨fun hm => p1 ((List.mem_append.1 hm).resolve_right fun h => e (List.mem_singleton.1 h).symm), fun hn => p2 fun hm => hn (List.mem_append_left _ hm)⟩
 ·obtain rfl : j = g.length := by omega
  rw [tkl] at gp
  simp (maxSteps:=9^9) (disch:=omega) only [BX, ↓reduceIte, c_number_1, g20, g21, clt, hj, dF]
  exact hQ _ _ o g5 g12 g13 g14 gl go gp gn gC gf
theorem number_c (hP : PE E) (W : AW) {re n : Nat} {gs : List (Nat × List Nat)} (hg : W.get re = some (.vec 1 (gs.map egV))) (hre : re < W.nx) (hgr : ∀ g ∈ gs, g.1 < W.nx ∧ W.get g.1 = some (.vec 1 (natsV g.2)) ∧ (∀ i ∈ g.2, i < n) ∧ g.2.length ≤ n) (hn : n < 2 ^ 30) (hn0 : 0 < n) (hm : gs.length ≤ 2 ^ 30) :
  ACalls E 107 [.int .i64 (n : Int), .slr re 0 gs.length 1] W fun Y W' => ∃ out : List Nat, Y = .sl 1 false (natsV out) ∧ W' = W ∧ out.length = n ∧ NumI (gs.map (·.2)) gs.length out := by
 refine ACalls.of hP Tryz.func107 ok_numbere (by simp) fun _ hok => ?_
 have hC0 := ok_Cl hok
 simp (maxSteps:=9^9) (disch:=omega) only [BZ, ↓reduceIte, nE, reduceCtorEq, c_number, mk8]
 obtain ⟨W1, hW1⟩ : ∃ W1, W1 = W.alloc (.vec 1 (natsV (List.replicate n 0))) := ⟨_, rfl⟩
 rw [← hW1]
 have k1 : W1.nx = W.nx + 1 := by rw [hW1]; rfl
 have k2 : W1.get W.nx = some (.vec 1 (natsV (List.replicate n 0))) := by rw [hW1]; exact alloc_at
 have k3 : ∀ x, x < W.nx → W1.get x = W.get x := fun x hx => by rw [hW1]; exact alloc_lt hx
 have k4 : Cl W1 := fun r hr => by rw [k1] at hr; rw [hW1, al_gets, if_neg (by omega)]; exact hC0 r (by omega)
 clear hW1
 rw [e_loop]
 refine alp (fun (σ : Nat × List Nat) A1 W2 => A1 5 = some (.slr W.nx 0 n 1) ∧ A1 12 = some (.slr re 0 gs.length 1) ∧ A1 13 = some (.int .i64 gs.length) ∧ A1 14 = some (.int .i64 σ.1) ∧ σ.1 ≤ gs.length ∧ σ.2.length = n ∧ W2.get W.nx = some (.vec 1 (natsV σ.2)) ∧ NumI (gs.map (·.2)) σ.1 σ.2 ∧ W2.nx = W1.nx ∧ Cl W2 ∧ ∀ x, x ≠ W.nx → W2.get x = W1.get x) (fun σ => gs.length - σ.1) (0, List.replicate n 0)
  ⟨rfl, rfl, rfl, rfl, Nat.zero_le _, by simp, k2, NumI.zero _ _, rfl, k4, fun _ _ => rfl⟩ ?_
 rintro ⟨k, out⟩ A1 W2 ⟨g5, g12, g13, g14, gk, gl, go, gI, gn, gC, gf⟩ _
 simp only at g14 gk gl go gI
 by_cases hk : k < gs.length
 ·have hat : (gs.map egV)[k]? = some (.slr gs[k].1 0 gs[k].2.length 1) := by simp [hk, egV]
  have hgd : (gs.map (·.2)).getD k [] = gs[k].2 := by simp [hk]
  obtain ⟨q1, q2, q3, q4⟩ := hgr _ (gmm hk)
  generalize gs[k] = g at hat hgd q1 q2 q3 q4
  have hre2 : W2.get re = some (.vec 1 (gs.map egV)) := by rw [gf re (by omega), k3 re hre]; exact hg
  have hz2 : W2.get g.1 = some (.vec 1 (natsV g.2)) := by rw [gf g.1 (by omega), k3 g.1 q1]; exact q2
  simp (maxSteps:=9^9) (disch:=omega) only [BS, e_seq, cond_if, ↓reduceIte, nE, c_number_0, g12, g13, g14, clt, hk, dT, zx1, mv_load, hre2, vl_at hat, e_loop]
  refine num1_go hP (ro := W.nx) (n := n) (z := g.1) (k := k) go gl hz2 (by omega) (by omega) gC q3 (by omega) tt tt tt tt tt tt tt tt ?_
  intro A' W3 out' b5 b12 b13 b14 bl bo bp bn bC bf
  simp (maxSteps:=9^9) (disch:=omega) only [BS, ↓reduceIte, nE, b5, b12, b13, b14, wadd1]
  refine ⟨(k + 1, out'), ⟨tt, tt, tt, tt, hk, bl, bo, gI.step (by show out'.length = out.length; omega) ?_, by omega, bC, fun x hx => (bf x hx).trans (gf x hx)⟩, by show gs.length - (k + 1) < gs.length - k; omega, by omega⟩
  intro i h1 h2
  rw [hgd]; exact bp i h1 h2
 ·obtain rfl : k = gs.length := by omega
  simp (maxSteps:=9^9) (disch:=omega) only [BX, ↓reduceIte, nE, c_number_0, g5, g13, g14, clt, hk, dF]
  have hch : chunks 1 n (natsV out) = natsV out := by
   have := chunks_pre (natsV out) []
   rwa [apn, natsV_len, gl] at this
  refine ⟨_, rfl, .sl 1 false (natsV out), W, ?_, lr _, out, rfl, rfl, gl, gI⟩
  rw [← hch]
  refine .frz go (by rw [natsV_len]; omega) hn0 (by decide) (natsV_ones _) ?_
  refine weak_back hok (by rw [hch]; exact bel_nats _ _) ?_
  intro x hx
  have : x ≠ W.nx := by omega
  simp only [AW.drop, this, ↓reduceIte]
  rw [gf x this, k3 x hx]
end Go.AL.S
namespace Go.AL.S
open Go Go.AL Go.Proofs
variable {E : Env}
theorem comp_plain {nx : Nat → List Nat} {n : Nat} {s : TS} {gs' gs : List (Nat × List Nat)} {out : List Nat} (hB : TB nx n s) (hw : s.way = []) (hall : ∀ i, i < n → 0 < s.met i) (he : s.ended = gs.map (·.2)) (hp : gs'.Perm gs) (hl : out.length = n) (hI : NumI (gs'.map (·.2)) gs'.length out) :
  ∀ i j (hi : i < out.length) (hj : j < out.length), out[i] = out[j] ↔ Rch nx i j ∧ Rch nx j i := by
 intro i j hi hj
 have hm : ∀ g, g ∈ gs'.map (·.2) ↔ g ∈ s.ended := fun g => by rw [he]; exact (hp.map _).mem_iff
 have hI' : NumI (gs'.map (·.2)) (gs'.map (·.2)).length out := by rw [lmp]; exact hI
 rw [hI'.same (fun i hi => ?_) (fun g hg g' hg' i h1 h2 => hB.ti.once ((hm g).1 hg) ((hm g').1 hg') h1 h2) hi hj]
 ·rw [← hB.ti.classes hw (hall i (by omega))]
  exact ⟨fun ⟨g, h1, h2⟩ => ⟨g, (hm g).1 h1, h2⟩, fun ⟨g, h1, h2⟩ => ⟨g, (hm g).2 h1, h2⟩⟩
 ·have hf := hB.ti.fin hw
  obtain ⟨g, hg, hig⟩ := (hB.ti.all i).1 ⟨hall i (by omega), by rw [hf]; exact List.not_mem_nil⟩
  exact ⟨g, (hm g).2 hg, hig⟩
theorem groupsS_c (hP : PE E) (W : AW) {nv : V} {nx : Nat → List Nat} {n : Nat} (hN : Nx nv nx n) (hn : n < 2 ^ 30) :
  ACalls E 106 [nv] W fun Y W' => W.nx ≤ W'.nx ∧ (∀ x, x < W.nx → W'.get x = W.get x) ∧ ∃ (he : V) (gs' gs : List (Nat × List Nat)) (s : TS), Y = .tuple [he, .int .i64 0] ∧ TB nx n s ∧ s.way = [] ∧ (∀ i, i < n → 0 < s.met i) ∧ s.ended = gs.map (·.2) ∧ gs'.Perm gs ∧ gs.length ≤ n ∧
   ((gs = [] ∧ slH W' he [] W.nx) ∨ gs ≠ [] ∧ ∃ re, he = .slr re 0 gs'.length 1 ∧ re < W'.nx ∧ W'.get re = some (.vec 1 (gs'.map egV)) ∧ ∀ g ∈ gs', g.1 < W'.nx ∧ W'.get g.1 = some (.vec 1 (natsV g.2)) ∧ (∀ i ∈ g.2, i < n) ∧ g.2.length ≤ n) := by
 refine ACalls.of hP Tryz.func106 ok_groupsSe (by simp) fun _ hok => ?_
 obtain ⟨xs, s1, s2, s3⟩ := hN.el
 simp (maxSteps:=9^9) (disch:=omega) only [BZ, ↓reduceIte, reduceCtorEq, c_groupsS, s1.frz]
 refine (groups_c hP W hN hn).mono ?_
 rintro _ W1 ⟨k1, k2, rs, rn, hw, ht, he, gs, s, rfl, hS, hB, hwy, hgl, hall⟩
 have hfz := hS.eds.frz (W1 := W1)
 have hfz1 : W1.frz (.fn (.func 129) [] []) = .fn (.func 129) [] [] := rfl
 simp (maxSteps:=9^9) (disch:=omega) only [BZ, ↓reduceIte, nE, hfz, hfz1]
 by_cases hge : gs = []
 ·have hse := hS.eds
  rw [hge] at hse
  refine pc (sortLL0_c hP W1 hse) ?_
  simp (maxSteps:=9^9) (disch:=omega) only [BS, e_seq, ↓reduceIte, nE, hfz]
  exact ⟨_, rfl, _, _, .weak weak_id, k1, k1, k2, he, gs, gs, s, rfl, hB, hwy, hall, hS.eg, .refl _, hgl, .inl ⟨hge, hse⟩⟩
 ·have hpos : 0 < gs.length := List.length_pos_iff.2 hge
  obtain ⟨re, ce, rfl, ge, e1, e2⟩ := hS.eds.slr (by rw [lmp]; exact hpos)
  rw [lmp] at hS hfz ⊢
  have hgr : ∀ g ∈ gs, 0 < g.2.length ∧ W1.get g.1 = some (.vec 1 (natsV g.2)) ∧ g.1 ≠ re ∧ (∀ i ∈ g.2, i < n) ∧ g.2.length ≤ n := fun g hg => by
   obtain ⟨a1, a2, a3⟩ := hS.grp g hg
   have hge : g.2 ∈ s.ended := by rw [hS.eg]; exact List.mem_map.2 ⟨g, hg, rfl⟩
   obtain ⟨b1, b2⟩ := hB.ti.grp _ hge
   refine ⟨List.length_pos_iff.2 b1, a3, fun e => (hS.d3 g hg).2.2 (by rw [e]; rfl), fun i hi => ?_, hB.gl _ hge⟩
   exact hB.lt i ((hB.ti.all i).2 ⟨g.2, hge, hi⟩).1
  refine (sortLL_c hP W1 ge hpos (by omega) fun g hg => ⟨(hgr g hg).1, (hgr g hg).2.1, (hgr g hg).2.2.1, fun i hi => by have := (hgr g hg).2.2.2.1 i hi; omega⟩).mono ?_
  rintro _ W2 ⟨rfl, gs', hp, rfl⟩
  simp (maxSteps:=9^9) (disch:=omega) only [BS, e_seq, ↓reduceIte, nE]
  refine ⟨_, rfl, _, _, .weak weak_id, k1, k1, fun x hx => by rw [put_ne (by omega)]; exact k2 x hx, _, gs', gs, s, rfl, hB, hwy, hall, hS.eg, hp, hgl, .inr ⟨hge, re, by rw [hp.length_eq], e2, put_at, fun g hg => ?_⟩⟩
  obtain ⟨c1, c2, c3, c4, c5⟩ := hgr g (hp.mem_iff.1 hg)
  exact ⟨(hS.grp g (hp.mem_iff.1 hg)).2.1, by rw [put_ne c3]; exact c2, c4, c5⟩
theorem comp_c (hP : PE E) (W : AW) {nv : V} {nx : Nat → List Nat} {n : Nat} (hN : Nx nv nx n) (hn : n < 2 ^ 30) (hn0 : 0 < n) :
  ACalls E 82 [nv] W fun Y W' => W' = W ∧ ∃ out : List Nat, Y = .tuple [.sl 1 false (natsV out), .int .i64 0] ∧ out.length = n ∧ ∀ i j (hi : i < out.length) (hj : j < out.length), out[i] = out[j] ↔ Rch nx i j ∧ Rch nx j i := by
 refine ACalls.of hP Tryz.func82 ok_compe (by simp) fun _ hok => ?_
 obtain ⟨xs, s1, s2, s3⟩ := hN.el
 simp (maxSteps:=9^9) (disch:=omega) only [BZ, ↓reduceIte, reduceCtorEq, c_comp, s1.frz]
 refine (groupsS_c hP W hN hn).mono ?_
 rintro _ W1 ⟨k1, k2, he, gs', gs, s, rfl, hB, hwy, hall, hse, hp, hgl, hd⟩
 have hb : ((0 : Int) != 0) = false := by decide
 have hgne : gs ≠ [] := fun e => by
  have hf := hB.ti.fin hwy
  obtain ⟨g, hg, _⟩ := (hB.ti.all 0).1 ⟨hall 0 hn0, by rw [hf]; exact List.not_mem_nil⟩
  rw [hse, e] at hg; cases hg
 obtain ⟨_, re, rfl, hre, hrg, hgr⟩ := hd.resolve_left fun h => hgne h.1
 simp (maxSteps:=9^9) (disch:=omega) only [BX, ↓reduceIte, nE, reduceCtorEq, hb, s1.len, s2]
 refine (number_c hP W1 hrg hre hgr hn hn0 (by rw [hp.length_eq]; omega)).mono ?_
 rintro _ W2 ⟨out, rfl, rfl, o1, o2⟩
 simp (maxSteps:=9^9) (disch:=omega) only [BS, ↓reduceIte, nE]
 exact ⟨_, rfl, _, W, .weak (weak_back hok (by simp only [V.bel, V.belL, bel_nats, Bool.and_true]) k2), lr _, rfl, out, rfl, o1, comp_plain hB hwy hall hse hp o1 o2⟩
theorem number0_c (hP : PE E) (W : AW) {he : V} {lo : Nat} (h : slH W he [] lo) : ACalls E 107 [.int .i64 0, he] W fun Y W' => Y = .slr W.nx 0 0 1 ∧ Ex W W' := by
 refine ACalls.of hP Tryz.func107 ok_numbere (by simp) fun _ hok => ?_
 have hC0 := ok_Cl hok
 have hmk : ∀ (W : AW) K, sem E (.makesl 1 8 [.int .i64 0]) [.int .i64 0, .int .i64 0] W K = K (.slr W.nx 0 0 1) (W.alloc (.vec 1 [])) := fun W K => mk8 (n := 0) (by decide)
 have hln : ∀ (W : AW) K n, sem E (.len 1 n) [he] W K = K (.int .i64 0) W := fun W K n => h.len
 have h0 : decide ((0 : Int) < 0) = false := by decide
 simp (maxSteps:=9^9) (disch:=omega) only [BZ, ↓reduceIte, nE, reduceCtorEq, c_number, hmk, hln]
 rw [e_loop]
 refine alp (fun (_ : Unit) A1 W2 => A1 5 = some (.slr W.nx 0 0 1) ∧ A1 13 = some (.int .i64 0) ∧ A1 14 = some (.int .i64 0) ∧ W2 = W.alloc (.vec 1 [])) (fun _ => 0) ()
  ⟨rfl, rfl, rfl, rfl⟩ ?_
 rintro _ A1 W2 ⟨g5, g13, g14, rfl⟩ _
 simp (maxSteps:=9^9) (disch:=omega) only [BX, ↓reduceIte, nE, nT, c_number_0, g5, g13, g14, h0]
 refine ⟨_, rfl, _, _, .weak weak_id, by rw [alloc_nx]; omega, rfl, fun r hr => ?_, by rw [alloc_nx]; omega, fun x hx => alloc_lt hx⟩
 rw [alloc_nx] at hr
 rw [al_gets, if_neg (by omega)]; exact hC0 r (by omega)
theorem comp0_c (hP : PE E) (W : AW) {nv : V} {nx : Nat → List Nat} (hN : Nx nv nx 0) : ACalls E 82 [nv] W fun Y W' => Ex W W' ∧ ∃ r, Y = .tuple [.slr r 0 0 1, .int .i64 0] := by
 refine ACalls.of hP Tryz.func82 ok_compe (by simp) fun _ hok => ?_
 obtain ⟨xs, s1, s2, s3⟩ := hN.el
 simp (maxSteps:=9^9) (disch:=omega) only [BZ, ↓reduceIte, reduceCtorEq, c_comp, s1.frz]
 refine (groupsS_c hP W hN (by decide)).mono ?_
 rintro _ W1 ⟨k1, k2, he, gs', gs, s, rfl, hB, hwy, hall, hse, hp, hgl, hd⟩
 have hb : ((0 : Int) != 0) = false := by decide
 have hge : gs = [] := List.eq_nil_of_length_eq_zero (by omega)
 have hx0 : ((xs.length : Nat) : Int) = 0 := by rw [s2]; rfl
 have hn1 : slH W1 he [] W.nx := by
  rcases hd with ⟨_, h⟩ | ⟨h, _⟩
  ·exact h
  ·exact absurd hge h
 have hfz := hn1.frz (W1 := W1)
 simp (maxSteps:=9^9) (disch:=omega) only [BX, ↓reduceIte, nE, reduceCtorEq, hb, s1.len, hx0, hfz]
 refine (number0_c hP W1 hn1).mono ?_
 rintro _ W2 ⟨rfl, hE⟩
 simp (maxSteps:=9^9) (disch:=omega) only [BS, ↓reduceIte, nE]
 exact ⟨_, rfl, _, _, .weak weak_id, by have := hE.nx; omega, ⟨hE.cl, by have := hE.nx; omega, fun x hx => by rw [hE.get x (by omega)]; exact k2 x hx⟩, _, rfl⟩
open Go Go.AL Go.AL.SE Go.Proofs
def c_next_B1 : AC := (.block 1 (.seq (.par (.step 4 (.u 27 (.fld 0) 6) (.step 0 (.u 23 (.load false 1) 2) (.step 1 (.u 24 .nilck 23) (.step 2 (.u 25 (.fld 0) 24) (.step 3 (.u 26 (.load false 1) 25) (.step 5 (.u 28 (.load false 1) 27) (.step 6 (.b 29 (.call 84) 26 28) (.step 7 (.m 22 29) (.step 8 (.u 30 (.ext 0) 22) (.step 9 (.u 31 (.ext 1) 22) (.step 10 (.m 7 30) (.step 11 (.m 8 31) .done))))))))))))) (.seq (.par (.step 4 (.u 37 (.fld 1) 6) (.step 0 (.u 33 (.load false 1) 2) (.step 1 (.u 34 .nilck 33) (.step 2 (.u 35 (.fld 0) 34) (.step 3 (.u 36 (.load false 1) 35) (.step 5 (.u 38 (.load false 1) 37) (.step 6 (.b 39 (.call 84) 36 38) (.step 7 (.m 32 39) (.step 8 (.u 40 (.ext 0) 32) (.step 9 (.u 41 (.ext 1) 32) (.step 10 (.m 9 40) (.step 11 (.m 10 41) .done))))))))))))) (.r [.u 42 (.load false 1) 3,.u 43 (.fld 2) 6,.u 44 (.load false 1) 43,.b 45 (.call 108) 42 44,.m 46 45,.U 47 (.load false 1) 5 46 true,.M 48 7 46 true,.B 49 (.idxp 1) 47 48 46 true,.U 50 (.load false 1) 49 46 true,.M 51 9 46 true,.B 52 (.call 109) 50 51 46 true,.U 53 (.un .not) 52 46 true,.p 54 .pick [.t 46,.t 53,.F]] (.cond (.t 54) (.par (.step 1 (.m 56 7) (.step 3 (.m 58 7) (.step 6 (.m 61 9) (.step 7 (.u 62 (.bslice 1 1 (.int .i64 0) [0]) 61) (.step 2 (.u 57 (.load false 1) 5) (.step 4 (.b 59 (.idxp 1) 57 58) (.step 5 (.u 60 (.load false 1) 59) (.alt (.step 0 (.u 55 (.load false 1) 5) (.step 8 (.b 63 (.append 1 8) 60 62) (.step 9 (.b 64 (.idxp 1) 55 56) (.step 10 ⟨none,.store 1, [.t 64,.t 63], none⟩ .done)))) (.step 8 (.b 63 (.append 1 8) 60 62) (.step 0 (.u 55 (.load false 1) 5) (.step 9 (.b 64 (.idxp 1) 55 56) (.step 10 ⟨none,.store 1, [.t 64,.t 63], none⟩ .done))))))))))))) .skip)))))
def c_next : AC := (.r [.u 2 .box 0,.u 3 .box 1,.v 4 (.nilsl)] (.seq (.r [.u 11 (.load false 1) 2,.p 12 (.eqn false 0) [.t 11,.c (.nilptr)]] (.cond (.t 12) (.r [.v 4 (.nilsl)] .ret) .skip)) (.r [.u 13 (.load false 1) 2,.u 14 .nilck 13,.u 15 (.fld 0) 14,.u 16 (.load false 1) 15,.u 17 (.len 1 0) 16,.b 18 (.makesl 1 24 [.nilsl]) 17 17,.p 5 (.alloc [.nilsl]) [],⟨none,.store 1, [.t 5,.t 18], none⟩] (.seq (.r [.u 19 (.load false 1) 2,.u 20 (.call 12) 19] (.block 0 (.rangef (.t 20) [21] (.reg [.p 6 (.alloc [.int .u16 0,.int .u16 0,.int .u8 0]) [],⟨none,.store 3, [.t 6,.t 21], none⟩]) c_next_B1))) (.r [.u 65 (.load false 1) 5,.m 4 65] .ret)))))
theorem ok_nexte : compF Tryz.prog Tryz.f83 ⟨false, false, []⟩ = some (c_next, [.tmp 4], 66) := by kernel_rfl
theorem app_now2 {W : AW} {K : V → AW → Prop} {h x : V} {xs : List V} {s lo by' : Nat} (hn : nowG W h xs s lo) (hC : Cl W) (hlo : lo ≤ W.nx) (hs : 0 < s) (hx : x.cells.all V.one = true) (hb : (xs.length + 1) * by' ≤ 2 ^ 46)
  (hK : ∀ r W', nowG W' (.buf true r s (xs.length + 1)) (xs ++ [x]) s lo → Cl W' → W.nx ≤ W'.nx → (r = W.nx ∨ h = .buf true r s xs.length) → (∀ y, y < W.nx → y ≠ r → W'.get y = W.get y) → K (.buf true r s (xs.length + 1)) W') : sem E (.append s by') [h, .sl s true [x]] W K := by
 rcases hn with ⟨rfl, rfl⟩ | ⟨r, h1, h2, rfl, h4, h5⟩
 ·have e : sem E (.append s by') [.nilsl, .sl s true [x]] W K = K (.buf true W.nx s 1) (W.alloc (.buf true s [x])) := by
   simp [sem, elemsV, hs]
   intro; simp at hb; omega
  rw [e]
  refine hK _ _ (.inr ⟨W.nx, hlo, by rw [alloc_nx]; omega, rfl, by simp, alloc_at⟩) ?_ (by rw [alloc_nx]; omega) (.inl rfl) (fun y hy _ => alloc_lt hy)
  intro y hy
  rw [alloc_nx] at hy
  rw [al_gets, if_neg (by omega)]
  exact hC y (by omega)
 ·have e : sem E (.append s by') [.buf true r s xs.length, .sl s true [x]] W K = K (.buf true r s (xs.length + 1)) (W.put r (.buf true s (xs ++ [x]))) := by
   simp only [sem, elemsV, if_true, h5, lcs, List.length_nil, Nat.zero_add, List.all_cons, List.all_nil, Bool.and_true, hx]
   exact propext ⟨fun h => h.2.2.2.2.2.2.2, fun h => ⟨hs, tt, tt, tt, tt, hb, tt, h⟩⟩
  rw [e]
  exact hK _ _ (.inr ⟨r, h1, by rw [put_nx]; exact h2, by simp, by simp, put_at⟩) (hC.put h2) (by rw [put_nx]; omega) (.inr rfl) (fun y _ hne => put_ne hne)
structure Gc (W : AW) (cs : List V) (out : List (List Int)) (lo : Nat) : Prop where
 len : cs.length = out.length
 now : ∀ i (h : i < cs.length) (h' : i < out.length), nowG W cs[i] (i64s out[i]) 1 lo
 ne : ∀ i j (h : i < cs.length) (h' : j < cs.length), i ≠ j → ∀ r n m, cs[i] = .buf true r 1 n → cs[j] ≠ .buf true r 1 m
theorem Gc.start (W : AW) (n lo : Nat) : Gc W (List.replicate n .nilsl) (List.replicate n []) lo where
 len := by simp
 now := fun i h h' => .inl ⟨by simp, by simp [i64s]⟩
 ne := fun i j h h' _ r n m e => by simp at e
theorem Gc.to {W W' : AW} {cs : List V} {out : List (List Int)} {lo : Nat} (h : Gc W cs out lo) (hx : W.nx ≤ W'.nx) (hg : ∀ r, lo ≤ r → r < W.nx → (∃ ys, W.get r = some (.buf true 1 ys)) → W'.get r = W.get r) : Gc W' cs out lo :=
 ⟨h.len, fun i h1 h2 => (h.now i h1 h2).to hx hg, h.ne⟩
theorem Gc.app {W W' : AW} {cs : List V} {out : List (List Int)} {lo f r : Nat} {x : Int} (h : Gc W cs out lo) (hf : f < cs.length) (hf' : f < out.length) (hn : nowG W' (.buf true r 1 ((i64s out[f]).length + 1)) (i64s out[f] ++ [.int .i64 x]) 1 lo) (hx : W.nx ≤ W'.nx) (hr : r = W.nx ∨ cs[f] = .buf true r 1 (i64s out[f]).length) (hg : ∀ y, y < W.nx → y ≠ r → W'.get y = W.get y) :
  Gc W' (cs.set f (.buf true r 1 ((i64s out[f]).length + 1))) (out.set f (out[f] ++ [x])) lo := by
 have hlen := h.len
 have hne : ∀ j (hj : j < cs.length), j ≠ f → ∀ m, cs[j] ≠ .buf true r 1 m := by
  intro j hj hjf m e
  rcases hr with rfl | hr
  ·rcases h.now j hj (by omega) with ⟨e1, _⟩ | ⟨r', h1, h2, h3, _⟩
   ·rw [e] at e1; cases e1
   ·rw [e] at h3; cases h3; omega
  ·exact h.ne f j hf hj (fun e => hjf e.symm) r _ m hr e
 refine ⟨by simp [hlen], fun i h1 h2 => ?_, fun i j h1 h2 hij r' n m e1 e2 => ?_⟩
 ·have h1' : i < cs.length := by simpa using h1
  have h2' : i < out.length := by simpa using h2
  by_cases e : i = f
  ·subst e
   rw [List.getElem_set_self, List.getElem_set_self, show i64s (out[i] ++ [x]) = i64s out[i] ++ [.int .i64 x] by simp [i64s]]
   exact hn
  ·rw [List.getElem_set_ne (by omega), List.getElem_set_ne (by omega)]
   rcases h.now i h1' h2' with g | ⟨r', g1, g2, g3, g4, g5⟩
   ·exact .inl g
   ·refine .inr ⟨r', g1, by omega, g3, g4, ?_⟩
    rw [hg r' g2 (by rintro rfl; exact hne i h1' e _ g3)]; exact g5
 ·have h1' : i < cs.length := by simpa using h1
  have h2' : j < cs.length := by simpa using h2
  rw [List.getElem_set] at e1 e2
  by_cases ei : f = i
  ·rw [if_pos ei] at e1
   rw [if_neg (by omega)] at e2
   have : r = r' := by injection e1
   subst this
   exact hne j h2' (by omega) _ e2
  ·rw [if_neg ei] at e1
   by_cases ej : f = j
   ·rw [if_pos ej] at e2
    have : r = r' := by injection e2
    subst this
    exact hne i h1' (by omega) _ e1
   ·rw [if_neg ej] at e2
    exact h.ne i j h1' h2' hij r' n m e1 e2
theorem Gc.frz {W : AW} {cs : List V} {out : List (List Int)} {lo : Nat} (h : Gc W cs out lo) : cs.map W.frz = out.map fun l => nowGS 1 (i64s l) := by
 refine List.ext_getElem (by simp [h.len]) fun i h1 h2 => ?_
 rw [List.getElem_map, List.getElem_map]
 exact (h.now i (by simpa using h1) (by simpa using h2)).frz
def nextStep (N kinds : List Int) (out : List (List Int)) (x : Ed) : List (List Int) :=
 if (kinds.any fun k => decide (x.kd = k)) = true ∧ ((out.getD (lowB N x.fr) []).any fun t => decide ((lowB N x.to : Int) = t)) = false then out.set (lowB N x.fr) (out.getD (lowB N x.fr) [] ++ [(lowB N x.to : Int)]) else out
def nextR (P : List Ek) (N kinds : List Int) : List (List Int) := (edL P).foldl (nextStep N kinds) (List.replicate N.length [])
theorem nextStep_len (N kinds : List Int) (out : List (List Int)) (x : Ed) : (nextStep N kinds out x).length = out.length := by
 unfold nextStep; split <;> simp
theorem lowB_lt {l : List Int} {x : Int} (h : x ∈ l) : lowB l x < l.length := by
 induction l with
 | nil => simp at h
 | cons a l ih =>
  simp only [lowB, List.takeWhile_cons]
  split
  ·rename_i hd
   rcases List.mem_cons.1 h with rfl | h
   ·simp at hd
   ·have := ih h; simp only [lowB] at this; simp; omega
  ·simp
theorem ix1 {W : AW} {K : V → AW → Prop} {r n i : Nat} {kk : IntKind} (h : i < n) : sem E (.idxp 1) [.slr r 0 n 1, .int kk (i : Int)] W K = K (.vptr r i) W := by
 rw [sem_idxp_slr (by omega) (by omega)]; simp
theorem ldv {W : AW} {K : V → AW → Prop} {r i : Nat} {cs : List V} {c : V} (h : W.get r = some (.vec 1 cs)) (hc : cs[i]? = some c) : sem E (.load false 1) [.vptr r i] W K = K c W := by
 have hp : partV cs i 1 false = some c := by simp [partV, hc]
 exact sem_load_vec (g := false) h hp
theorem stv {W : AW} {K : V → AW → Prop} {r i : Nat} {cs : List V} {c : V} (h : W.get r = some (.vec 1 cs)) (hi : i < cs.length) (h1 : c.cells = [c]) (h2 : c.one = true) : sem E (.store 1) [.vptr r i, c] W K = K .undef (W.put r (.vec 1 (cs.set i c))) := by
 rw [sem_store_vec (s := 1) (x := c) h (by rw [h1]; rfl) (by rw [h1]; simp [h2]) (by omega), h1, List.set_eq_take_append_cons_drop, if_pos hi]
 simp
theorem bsI {W : AW} {K : V → AW → Prop} {a : Int} : sem E (.bslice 1 1 (.int .i64 0) [0]) [.int .i64 a] W K = K (.sl 1 true [.int .i64 a]) W := by
 simp [sem, rsem, tsem, fillE, V.cells]
theorem next1_go (hP : PE E) {W1 : AW} {g m lo0 b2 b3 b5 b6 rv lo : Nat} {h kv : V} {P : List Ek} {N kinds : List Int} (hC : Cl W1) (hG : Gr W1 g m h P N lo0) (hNs : N.Pairwise fun a b => a < b) (hkv : isS 1 kv (u8s kinds)) (hkl : kinds.length < 2 ^ 40) {x : Ed} (hx1 : x.fr ∈ N) (hx2 : x.to ∈ N) {cs : List V} {out : List (List Int)} (hcs : Gc W1 cs out lo) (hrv : W1.get rv = some (.vec 1 cs)) (hout : out.length = N.length) (hol : ∀ l ∈ out, l.length < 2 ^ 40) (hlo : lo ≤ W1.nx)
  {A : AFr} {Q : Exit → AFr → AW → Prop} (a2 : A 2 = some (.ptr b2 0)) (a3 : A 3 = some (.ptr b3 0)) (a5 : A 5 = some (.ptr b5 0)) (a6 : A 6 = some (.ptr b6 0))
  (g2 : W1.get b2 = some (.row [.ptr g 0])) (g3 : W1.get b3 = some (.row [kv])) (g5 : W1.get b5 = some (.row [.slr rv 0 N.length 1])) (g6 : W1.get b6 = some (.row [.int .u16 x.fr, .int .u16 x.to, .int .u8 x.kd])) (l5 : b5 < W1.nx) (lrv : rv < W1.nx)
  (hQ : ∀ A' W' cs', Cl W' → W1.nx ≤ W'.nx → Gc W' cs' (nextStep N kinds out x) lo → W'.get rv = some (.vec 1 cs') → (∀ y, y < W1.nx → y ≠ rv → (∀ ys, W1.get y ≠ some (.buf true 1 ys)) → W'.get y = W1.get y) → (∀ y, y < lo → y ≠ rv → W'.get y = W1.get y) → Q .normal A' W') : awp E c_next_B1 Q A W1 := by
 have hf := lowB_lt hx1
 have ht := lowB_lt hx2
 have hN := hG.nl
 have hns := nowGS_S 1 (intsV N)
 have hcl := hcs.len
 have hfc : lowB N x.fr < cs.length := by omega
 have hfo : lowB N x.fr < out.length := by omega
 have hnow := hcs.now _ hfc hfo
 have hat : cs[lowB N x.fr]? = some cs[lowB N x.fr] := gEg _
 have hgd : out.getD (lowB N x.fr) [] = out[lowB N x.fr] := by rw [List.getD_eq_getElem?_getD, gEg hfo]; rfl
 have hos := nowGS_S 1 (i64s out[lowB N x.fr])
 have holf := hol _ (gmm hfo)
 simp (maxSteps:=9^9) (disch:=omega) only [BZ, ↓reduceIte, nE, BM, BD, c_next_B1, a2, a6, g2, g6, hG.hg, hG.now.frz]
 refine pc (bs16_c hP _ hns hNs (by omega) x.fr) ?_
 simp (maxSteps:=9^9) (disch:=omega) only [BZ, ↓reduceIte, nE, BM, BD, a2, a6, g2, g6, hG.hg, hG.now.frz]
 refine pc (bs16_c hP _ hns hNs (by omega) x.to) ?_
 simp (maxSteps:=9^9) (disch:=omega) only [BZ, ↓reduceIte, nE, BM, BD, a3, a6, g3, g6, hkv.frz]
 refine pc (has8_c hP _ hkv hkl x.kd) ?_
 cases hk : kinds.any fun k => decide (x.kd = k) with
 | false =>
  have hst : nextStep N kinds out x = out := by simp [nextStep, hk]
  rw [hst] at hQ
  simp (maxSteps:=9^9) (disch:=omega) only [BS, ↓reduceIte]
  repeat (rw [guard_if]; simp (maxSteps:=9^9) (disch:=omega) only [BS, BC, cond_if, ↓reduceIte, nE, BM])
  exact hQ _ _ cs hC (lr _) hcs hrv (fun _ _ _ _ => rfl) (fun _ _ _ => rfl)
 | true =>
  simp (maxSteps:=9^9) (disch:=omega) only [BS, ↓reduceIte]
  repeat (rw [guard_if]; simp (maxSteps:=9^9) (disch:=omega) only [BS, BC, ↓reduceIte, nE, BM, a5, g5, ix1 hf, ldv hrv hat, hnow.frz])
  refine pc (hasI_c hP _ hos holf _) ?_
  cases hi : out[lowB N x.fr].any fun t => decide ((lowB N x.to : Int) = t) with
  | true =>
   have hst : nextStep N kinds out x = out := by simp only [nextStep, hk, hgd, hi]; simp
   rw [hst] at hQ
   simp (maxSteps:=9^9) (disch:=omega) only [BS]
   repeat (rw [guard_if]; simp (maxSteps:=9^9) (disch:=omega) only [BS, BC, cond_if, ↓reduceIte, nE, BD])
   exact hQ _ _ cs hC (lr _) hcs hrv (fun _ _ _ _ => rfl) (fun _ _ _ => rfl)
  | false =>
   have hst : nextStep N kinds out x = out.set (lowB N x.fr) (out[lowB N x.fr] ++ [(lowB N x.to : Int)]) := by simp only [nextStep, hk, hgd, hi]; simp
   rw [hst] at hQ
   simp (maxSteps:=9^9) (disch:=omega) only [BS]
   repeat (rw [guard_if]; simp (maxSteps:=9^9) (disch:=omega) only [BS, BC, cond_if, ↓reduceIte, nE, BM, BD, a5, g5, ix1 hf, ldv hrv hat, bsI])
   have hnr : ∀ r, (r = W1.nx ∨ cs[lowB N x.fr] = .buf true r 1 (i64s out[lowB N x.fr]).length) → b5 ≠ r ∧ rv ≠ r ∧ b2 ≠ r := by
    have l2 : b2 < W1.nx := Classical.byContradiction fun hn => by rw [hC b2 (by omega)] at g2; cases g2
    intro r hr
    rcases hr with rfl | hr
    ·omega
    ·rcases hnow with ⟨e1, _⟩ | ⟨r', c1, c2, c3, c4, c5⟩
     ·rw [hr] at e1; cases e1
     ·rw [hr] at c3; cases c3
      refine ⟨?_, ?_, ?_⟩ <;> rintro rfl
      ·rw [g5] at c5; cases c5
      ·rw [hrv] at c5; cases c5
      ·rw [g2] at c5; cases c5
   have hap : ∀ (r : Nat) (W' : AW), nowG W' (.buf true r 1 ((i64s out[lowB N x.fr]).length + 1)) (i64s out[lowB N x.fr] ++ [.int .i64 (lowB N x.to)]) 1 lo → Cl W' → W1.nx ≤ W'.nx → (r = W1.nx ∨ cs[lowB N x.fr] = .buf true r 1 (i64s out[lowB N x.fr]).length) → (∀ y, y < W1.nx → y ≠ r → W'.get y = W1.get y) → ∀ A', Q .normal A' (W'.put rv (.vec 1 (cs.set (lowB N x.fr) (.buf true r 1 ((i64s out[lowB N x.fr]).length + 1))))) := by
    intro r W' gN gC gn hr gg A'
    obtain ⟨n5, nv, _⟩ := hnr r hr
    have hrv' : W'.get rv = some (.vec 1 cs) := by rw [gg rv lrv nv]; exact hrv
    have hg1 := hcs.app (f := lowB N x.fr) (r := r) (x := (lowB N x.to : Int)) hfc hfo gN gn hr gg
    refine hQ A' _ _ (gC.put (by omega)) (by rw [put_nx]; exact gn) (hg1.to (by rw [put_nx]; exact lr _) fun y _ _ ⟨ys, hy⟩ => put_ne (by rintro rfl; rw [hrv'] at hy; cases hy)) put_at (fun y hy hyr hyb => ?_) (fun y hy hyr => ?_)
    ·rw [put_ne hyr, gg y hy]
     rintro rfl
     rcases hr with e | hr
     ·omega
     ·rcases hnow with ⟨e1, _⟩ | ⟨r', c1, c2, c3, c4, c5⟩
      ·rw [hr] at e1; cases e1
      ·rw [hr] at c3; cases c3; exact hyb _ c5
    ·rw [put_ne hyr, gg y (by omega)]
     rintro rfl
     rcases hr with e | hr
     ·omega
     ·rcases hnow with ⟨e1, _⟩ | ⟨r', c1, c2, c3, c4, c5⟩
      ·rw [hr] at e1; cases e1
      ·rw [hr] at c3; cases c3; omega
   have hbl : ((i64s out[lowB N x.fr]).length + 1) * 8 ≤ 2 ^ 46 := by rw [i64s_len]; omega
   constructor
   ·refine app_now2 (lo := lo) hnow hC hlo (by decide) rfl hbl ?_
    intro r W' gN gC gn hr gg
    obtain ⟨n5, nv, _⟩ := hnr r hr
    have hrv' : W'.get rv = some (.vec 1 cs) := by rw [gg rv lrv nv]; exact hrv
    simp (maxSteps:=9^9) (disch:=omega) only [BS, ↓reduceIte, nE, BM, ix1 hf, stv hrv' hfc (c := .buf true r 1 ((i64s out[lowB N x.fr]).length + 1)) rfl rfl]
    exact hap r W' gN gC gn hr gg _
   ·refine app_now2 (lo := lo) hnow hC hlo (by decide) rfl hbl ?_
    intro r W' gN gC gn hr gg
    obtain ⟨n5, nv, _⟩ := hnr r hr
    have hrv' : W'.get rv = some (.vec 1 cs) := by rw [gg rv lrv nv]; exact hrv
    have g5' : W'.get b5 = some (.row [.slr rv 0 N.length 1]) := by rw [gg b5 l5 n5]; exact g5
    simp (maxSteps:=9^9) (disch:=omega) only [BS, BC, ↓reduceIte, nE, BM, a5, g5', ix1 hf, stv hrv' hfc (c := .buf true r 1 ((i64s out[lowB N x.fr]).length + 1)) rfl rfl]
    exact hap r W' gN gC gn hr gg _
def llV (out : List (List Int)) : V := .sl 1 false (out.map fun l => nowGS 1 (i64s l))
theorem mk24 {W : AW} {K : V → AW → Prop} {n : Nat} (h : n < 2 ^ 40) : sem E (.makesl 1 24 [.nilsl]) [.int .i64 (n : Int), .int .i64 (n : Int)] W K = K (.slr W.nx 0 n 1) (W.alloc (.vec 1 (List.replicate n .nilsl))) := by
 have hz : ∀ k, zerosV [V.nilsl] k = List.replicate k .nilsl := fun k => by
  induction k with
  | zero => rfl
  | succ k ih => simp only [zerosV, List.replicate_succ, List.flatten_cons] at ih ⊢; rw [ih]; rfl
 simp only [sem, Int.toNat_natCast, hz]
 exact propext ⟨fun h => h.2.2.2.2, fun h => ⟨by omega, tt, by omega, by omega, h⟩⟩
theorem chunks1' : ∀ (l : List V), chunks 1 l.length l = l
 | [] => rfl
 | x :: l => by
  have := chunks1' l
  simp only [lcs, chunks, if_true, List.headD_cons, List.drop_succ_cons, List.drop_zero, this]
theorem nextStep_le {N kinds : List Int} {out : List (List Int)} {x : Ed} {i : Nat} (h : ∀ l ∈ out, l.length ≤ i) : ∀ l ∈ nextStep N kinds out x, l.length ≤ i + 1 := by
 intro l hl
 unfold nextStep at hl
 split at hl
 ·rcases List.mem_or_eq_of_mem_set hl with hl | rfl
  ·have := h l hl; omega
  ·rw [lap]
   by_cases hk : lowB N x.fr < out.length
   ·rw [List.getD_eq_getElem?_getD, gEg hk]
    have := h _ (gmm hk)
    simp; omega
   ·rw [List.getD_eq_getElem?_getD, List.getElem?_eq_none (by omega)]; simp
 ·have := h l hl; omega
theorem ll_ones (out : List (List Int)) : (out.map fun l => nowGS 1 (i64s l)).all V.one = true := by
 rw [List.all_map, List.all_eq_true]
 intro l _
 exact (nowGS_S 1 (i64s l)).one
theorem ll_bel (out : List (List Int)) (n : Nat) : V.belL n (out.map fun l => nowGS 1 (i64s l)) = true := by
 have hb : ∀ l : List Int, V.belL n (i64s l) = true := by
  intro l
  induction l with
  | nil => rfl
  | cons x l ih => simp only [i64s, mcs, V.belL, Bool.and_eq_true] at ih ⊢; exact ⟨rfl, ih⟩
 induction out with
 | nil => rfl
 | cons x l ih =>
  simp only [mcs, V.belL, Bool.and_eq_true]
  exact ⟨(nowGS_S 1 (i64s x)).lens (hb x), ih⟩
theorem nextG_c (hP : PE E) (W : AW) {g m lo : Nat} {h kv : V} {P : List Ek} {N kinds : List Int} (hG : Gr W g m h P N lo) (hNs : N.Pairwise fun a b => a < b) (hPN : ∀ x ∈ P, x.1 ∈ N ∧ x.2.1 ∈ N) (hkv : isS 1 kv (u8s kinds)) (hkl : kinds.length < 2 ^ 40) (hne : N ≠ []) :
  ACalls E 83 [.ptr g 0, kv] W fun Y W' => Y = llV (nextR P N kinds) ∧ W' = W := by
 refine ACalls.of hP Tryz.func83 ok_nexte (by simp) fun _ hok => ?_
 refine awp_start hok ?_
 have hlg := hG.lg
 have hN := hG.nl
 simp (maxSteps:=9^9) (disch:=omega) only [BX, ↓reduceIte, nE, BM, BD, nA, nL, nT, c_next, hkv.cells, hG.hg, hG.now.len, ints_len, mk24]
 refine (edges_c hP _ g).mono ?_
 rintro _ W0 ⟨qe, rfl, hqe, hqn, hE⟩
 have hE0 : Ex W W0 := Ex.x0.trans hE
 have hn0 := hE.nx
 simp only [X_nx, rf, lcs, List.length_nil] at hn0
 have w2 : W0.get (rf W.nx 0) = some (.row [.ptr g 0]) := by rw [hE.get _ (by simp [X_nx, rf]), X_get]; rfl
 have w3 : W0.get (rf W.nx 1) = some (.row [kv]) := by rw [hE.get _ (by simp [X_nx, rf]), X_get]; rfl
 have w4 : W0.get (rf W.nx 2) = some (.vec 1 (List.replicate N.length .nilsl)) := by rw [hE.get _ (by simp [X_nx, rf]), X_get]; rfl
 have w5 : W0.get (rf W.nx 3) = some (.row [.slr (rf W.nx 2) 0 N.length 1]) := by rw [hE.get _ (by simp [X_nx, rf]), X_get]; rfl
 have r0 : rf W.nx 0 = W.nx := rfl
 have r1 : rf W.nx 1 = W.nx + 1 := rfl
 have r2 : rf W.nx 2 = W.nx + 2 := rfl
 have r3 : rf W.nx 3 = W.nx + 3 := rfl
 have hG0 := hG.ex hE0
 have hl := edL_lt hG
 simp (maxSteps:=9^9) (disch:=omega) only [BS, ]
 refine range_edges hP (q := qe) (P := P) (N := N) (by simp only [ev_t]; exact if_pos rfl) hqe hqn hE0.cl hG0 (fun i W1 => Cl W1 ∧ W0.nx < W1.nx ∧ (∀ x, x < W0.nx → x ≠ rf W.nx 2 → W1.get x = W0.get x) ∧ ∃ cs, Gc W1 cs (((edL P).take i).foldl (nextStep N kinds) (List.replicate N.length [])) W0.nx ∧ W1.get (rf W.nx 2) = some (.vec 1 cs) ∧ (((edL P).take i).foldl (nextStep N kinds) (List.replicate N.length [])).length = N.length ∧ ∀ l ∈ ((edL P).take i).foldl (nextStep N kinds) (List.replicate N.length []), l.length ≤ i) ?_ ?_ ?_ ?_
 ·intro W1 hE1 hn1
  refine ⟨hE1.cl, hn1, fun x hx _ => hE1.get x hx, List.replicate N.length .nilsl, Gc.start _ _ _, by rw [hE1.get _ (by omega)]; exact w4, by simp, by simp⟩
 ·exact fun i W1 h => ⟨h.1, h.2.1⟩
 ·rintro i hi W1 W1' ⟨j0, j1, j2, cs, j3, j4, j5, j6⟩ hE1 hlp
  have hst : ((edL P).take (i + 1)).foldl (nextStep N kinds) (List.replicate N.length []) = nextStep N kinds (((edL P).take i).foldl (nextStep N kinds) (List.replicate N.length [])) (edL P)[i] := by
   rw [tao, gEg hi, List.foldl_append]; rfl
  have hxN := hPN _ (edL_mem.1 (gmm hi))
  generalize (edL P)[i] = x at hst hxN
  rw [hst]
  generalize ((edL P).take i).foldl (nextStep N kinds) (List.replicate N.length []) = out at j3 j5 j6
  have hn1 := hE1.nx
  refine awp_startC hE1.cl ?_
  simp (maxSteps:=9^9) (disch:=omega) only [BS, BC, ↓reduceIte, nE, BM, BD, nA, nL, nT, Ed.V, hlp]
  refine ⟨tt, ?_⟩
  have hxg : ∀ y, y < W0.nx → y ≠ rf W.nx 2 → (X (W1'.put W0.nx (.loop .busy none)) W1'.nx [.row [.int .u16 x.fr, .int .u16 x.to, .int .u8 x.kd]]).get y = W0.get y := fun y hy hyr => by
   rw [X_old (by omega), put_ne (by omega), hE1.get y (by omega)]; exact j2 y hy hyr
  have hG1 := hG.ex (W1 := X (W1'.put W0.nx (.loop .busy none)) W1'.nx [.row [.int .u16 x.fr, .int .u16 x.to, .int .u8 x.kd]]) ⟨Cl.X, by simp only [X_nx, rf]; omega, fun y hy => by rw [hxg y (by omega) (by omega)]; exact hE0.get y hy⟩
  have hrv : (X (W1'.put W0.nx (.loop .busy none)) W1'.nx [.row [.int .u16 x.fr, .int .u16 x.to, .int .u8 x.kd]]).get (rf W.nx 2) = some (.vec 1 cs) := by
   rw [X_old (by omega), put_ne (by omega), hE1.get _ (by omega)]; exact j4
  have hcs := (j3.to hE1.nx fun r _ hr _ => hE1.get r hr).to (W' := X (W1'.put W0.nx (.loop .busy none)) W1'.nx [.row [.int .u16 x.fr, .int .u16 x.to, .int .u8 x.kd]]) (by simp only [X_nx, rf]; omega) fun r _ h2 ⟨ys, hy⟩ => by rw [X_old h2, put_ne (by rintro rfl; rw [hlp] at hy; cases hy)]
  refine next1_go hP (lo := W0.nx) (b2 := rf W.nx 0) (b3 := rf W.nx 1) (b5 := rf W.nx 3) (b6 := rf W1'.nx 0) (rv := rf W.nx 2) Cl.X hG1 hNs hkv hkl hxN.1 hxN.2 hcs hrv j5 (fun l hl' => by have := j6 l hl'; omega) (by simp only [X_nx, rf]; omega) rfl rfl rfl rfl (by rw [hxg _ (by omega) (by omega)]; exact w2) (by rw [hxg _ (by omega) (by omega)]; exact w3) (by rw [hxg _ (by omega) (by omega)]; exact w5) (by rw [X_get]; rfl) (by simp only [X_nx]; simp only [rf]; omega) (by simp only [X_nx]; simp only [rf]; omega) ?_
  intro A'' W'' cs' fC fn fG frv ff1 ff2
  simp only [X_nx, rf, lcs, List.length_nil] at fn
  have hloop : W''.get W0.nx = some (.loop .busy none) := by
   rw [ff1 W0.nx (by simp only [X_nx, rf]; omega) (by omega) (fun ys => by rw [X_old (by omega), put_at]; simp), X_old (by omega), put_at]
  refine ⟨rfl, hloop, fC.put (by omega), by rw [put_nx]; omega, fun y hy hyr => ?_, cs', ?_, ?_, by rw [nextStep_len]; exact j5, nextStep_le j6⟩
  ·rw [put_ne (by omega), ff2 y hy hyr]; exact hxg y hy hyr
  ·exact fG.to (by rw [put_nx]; exact lr _) fun r _ _ ⟨ys, hy⟩ => put_ne (by rintro rfl; rw [hloop] at hy; cases hy)
  ·rw [put_ne (by omega)]; exact frv
 ·rintro W1 ⟨j0, j1, j2, cs, j3, j4, j5, j6⟩ hlp
  rw [tkl] at j3 j5
  have k5 : (W1.put W0.nx (.loop .exhausted none)).get (rf W.nx 3) = some (.row [.slr (rf W.nx 2) 0 N.length 1]) := by rw [put_ne (by omega), j2 _ (by omega) (by omega)]; exact w5
  simp (maxSteps:=9^9) (disch:=omega) only [BZ, ↓reduceIte, nE, BM, k5]
  have hcs := j3.to (W' := W1.put W0.nx (.loop .exhausted none)) (by rw [put_nx]; exact lr _) fun r _ _ ⟨ys, hy⟩ => put_ne (by rintro rfl; rw [hlp] at hy; cases hy)
  have hfz := hcs.frz
  have hcl := hcs.len
  have hlen : 0 < N.length := List.length_pos_iff.2 hne
  have hnr : nextR P N kinds = (edL P).foldl (nextStep N kinds) (List.replicate N.length []) := rfl
  rw [← hnr] at hfz hcl j5
  have hch : chunks 1 N.length (cs.map (W1.put W0.nx (.loop .exhausted none)).frz) = (nextR P N kinds).map fun l => nowGS 1 (i64s l) := by
   rw [hfz]
   have := chunks1' ((nextR P N kinds).map fun l => nowGS 1 (i64s l))
   rw [lmp, j5] at this
   exact this
  refine ⟨_, rfl, .sl 1 false (chunks 1 N.length (cs.map (W1.put W0.nx (.loop .exhausted none)).frz)), W, ?_, lr _, by rw [hch]; rfl, rfl⟩
  refine .frzd (by rw [put_ne (by omega)]; exact j4) (by omega) hlen (by decide) (by rw [hfz]; exact ll_ones _) ?_
  rw [hch]
  refine weak_back hok (ll_bel _ _) fun y hy => ?_
  have hy' : y < W.nx := hy
  have hyr : y ≠ rf W.nx 2 := by omega
  simp only [AW.drop, hyr, ↓reduceIte]
  rw [put_ne (by omega), j2 y (by omega) hyr]
  exact hE0.get y hy'
end Go.AL.S
namespace Go.AL.S
section
variable {α : Type} [DecidableEq α]
def stepM (s : List α) (e : α × α) : List α := if e.1 ∈ s ∧ e.2 ∉ s then s ++ [e.2] else s
def passM (E : List (α × α)) (s : List α) : List α := E.foldl stepM s
def roundsM (E : List (α × α)) (a : α) : Nat → List α
 | 0 => [a]
 | n + 1 => passM E (roundsM E a n)
def outE (E : List (α × α)) (a : α) : List α := (E.filter fun e => decide (e.1 = a)).map (·.2)
theorem out_mem {E : List (α × α)} {a b : α} : b ∈ outE E a ↔ (a, b) ∈ E := by
 unfold outE
 rw [mmp]
 constructor
 ·rintro ⟨⟨x, y⟩, h, rfl⟩
  obtain ⟨h1, h2⟩ := List.mem_filter.1 h
  have : x = a := of_decide_eq_true h2
  subst this; exact h1
 ·intro h; exact ⟨(a, b), List.mem_filter.2 ⟨h, by simp⟩, rfl⟩
theorem step_sub {s : List α} {e : α × α} {x : α} (h : x ∈ s) : x ∈ stepM s e := by
 unfold stepM; split
 ·exact List.mem_append_left _ h
 ·exact h
theorem pass_sub {E : List (α × α)} : ∀ {s : List α} {x : α}, x ∈ s → x ∈ passM E s := by
 unfold passM
 induction E with
 | nil => intro s x h; exact h
 | cons e E ih => intro s x h; exact ih (step_sub h)
theorem rounds_reach {E : List (α × α)} {a : α} : ∀ n, ∀ x ∈ roundsM E a n, Rch (outE E) a x := by
 have key : ∀ (F : List (α × α)), (∀ e ∈ F, e ∈ E) → ∀ s : List α, (∀ x ∈ s, Rch (outE E) a x) → ∀ x ∈ F.foldl stepM s, Rch (outE E) a x := by
  intro F
  induction F with
  | nil => intro _ s h; exact h
  | cons e F ih =>
   intro hF s h
   refine ih (fun e he => hF e (by simp [he])) _ fun x hx => ?_
   unfold stepM at hx
   split at hx
   ·rename_i hc
    rcases List.mem_append.1 hx with hx | hx
    ·exact h x hx
    ·rw [List.mem_singleton.1 hx]
     exact (h _ hc.1).trans (Rch.one (out_mem.2 (hF e (by simp))))
   ·exact h x hx
 intro n
 induction n with
 | zero => intro x hx; rw [List.mem_singleton.1 hx]; exact .refl a
 | succ n ih => exact key E (fun _ h => h) _ ih
theorem pass_stable {E : List (α × α)} {s : List α} (h : ∀ x ∈ passM E s, x ∈ s) : ∀ e ∈ E, e.1 ∈ s → e.2 ∈ s := by
 have key : ∀ (F : List (α × α)) (t : List α), (∀ x ∈ s, x ∈ t) → ∀ e ∈ F, e.1 ∈ s → e.2 ∈ F.foldl stepM t := by
  intro F
  induction F with
  | nil => intro t _ e he; cases he
  | cons f F ih =>
   intro t ht e he h1
   rcases List.mem_cons.1 he with rfl | he
   ·have : e.2 ∈ stepM t e := by
     unfold stepM
     by_cases h2 : e.2 ∈ t
     ·rw [if_neg (fun h => h.2 h2)]; exact h2
     ·rw [if_pos ⟨ht _ h1, h2⟩]; simp
    exact pass_sub (E := F) this
   ·exact ih _ (fun x hx => step_sub (ht x hx)) e he h1
 exact fun e he h1 => h _ (key E s (fun _ h => h) e he h1)
def leftM (E : List (α × α)) (s : List α) : Nat := (E.filter fun e => decide (e.2 ∉ s)).length
theorem new_in {E : List (α × α)} {s : List α} : ∀ x ∈ passM E s, x ∈ s ∨ ∃ e ∈ E, e.2 = x := by
 have key : ∀ (F : List (α × α)) (t : List α), ∀ x ∈ F.foldl stepM t, x ∈ t ∨ ∃ e ∈ F, e.2 = x := by
  intro F
  induction F with
  | nil => intro t x h; exact .inl h
  | cons e F ih =>
   intro t x h
   rcases ih _ x h with h | ⟨f, hf, rfl⟩
   ·unfold stepM at h
    split at h
    ·rcases List.mem_append.1 h with h | h
     ·exact .inl h
     ·exact .inr ⟨e, by simp, (List.mem_singleton.1 h).symm⟩
    ·exact .inl h
   ·exact .inr ⟨f, by simp [hf], rfl⟩
 exact key E s
theorem filter_lt {β : Type} {p q : β → Bool} (hpq : ∀ x, q x = true → p x = true) : ∀ {l : List β}, (∃ x ∈ l, p x = true ∧ q x = false) → (l.filter q).length < (l.filter p).length
 | [], ⟨_, h, _⟩ => by cases h
 | y :: l, ⟨x, hx, h1, h2⟩ => by
  have hle : (l.filter q).length ≤ (l.filter p).length := by
   clear hx
   induction l with
   | nil => exact lr _
   | cons z l ih =>
    rw [List.filter_cons, List.filter_cons]
    by_cases hz : q z = true
    ·rw [if_pos hz, if_pos (hpq z hz)]; simpa using ih
    ·rw [if_neg hz]
     split
     ·exact Nat.le_succ_of_le ih
     ·exact ih
  rw [List.filter_cons, List.filter_cons]
  rcases List.mem_cons.1 hx with rfl | hx
  ·rw [if_pos h1, if_neg (by rw [h2]; decide)]; exact Nat.lt_succ_of_le hle
  ·have := filter_lt hpq (l := l) ⟨x, hx, h1, h2⟩
   by_cases hy : q y = true
   ·rw [if_pos hy, if_pos (hpq y hy)]; simpa using this
   ·rw [if_neg hy]
    split
    ·exact Nat.lt_succ_of_lt this
    ·exact this
theorem rounds_all {E : List (α × α)} {a b : α} (h : Rch (outE E) a b) : b ∈ roundsM E a (E.length + 1) := by
 have hex : ∀ n, (∃ k, k < n ∧ ∀ x ∈ roundsM E a (k + 1), x ∈ roundsM E a k) ∨ leftM E (roundsM E a n) + n ≤ E.length := by
  intro n
  induction n with
  | zero => exact .inr (by unfold leftM; exact List.length_filter_le _ _)
  | succ n ih =>
   rcases ih with ⟨k, hk, h⟩ | ih
   ·exact .inl ⟨k, by omega, h⟩
   ·by_cases hst : ∀ x ∈ roundsM E a (n + 1), x ∈ roundsM E a n
    ·exact .inl ⟨n, by omega, hst⟩
    ·refine .inr ?_
     have hst' : ∃ x, x ∈ roundsM E a (n + 1) ∧ x ∉ roundsM E a n := Classical.byContradiction fun hc => hst fun x hx => Classical.byContradiction fun hn => hc ⟨x, hx, hn⟩
     obtain ⟨x, hx, hxn⟩ := hst'
     obtain ⟨e, he, rfl⟩ := (new_in (s := roundsM E a n) x hx).resolve_left hxn
     have : leftM E (roundsM E a (n + 1)) < leftM E (roundsM E a n) := by
      unfold leftM
      refine filter_lt (fun f hf => ?_) ⟨e, he, decide_eq_true hxn, decide_eq_false (fun h => h hx)⟩
      exact decide_eq_true fun h => (of_decide_eq_true hf) (pass_sub h)
     omega
 have hmono : ∀ n k x, x ∈ roundsM E a n → x ∈ roundsM E a (n + k) := by
  intro n k x hx
  induction k with
  | zero => exact hx
  | succ k ih => exact pass_sub ih
 rcases hex (E.length + 1) with ⟨k, hk, hst⟩ | hc
 ·have hcl := pass_stable (E := E) (s := roundsM E a k) hst
  have ha : a ∈ roundsM E a k := by
   have := hmono 0 k a (by simp [roundsM])
   rwa [Nat.zero_add] at this
  have hb := Rch.closed (p := fun x => x ∈ roundsM E a k) (fun x hx y hy => hcl (x, y) (out_mem.1 hy) hx) h ha
  have := hmono k (E.length + 1 - k) b hb
  rwa [show k + (E.length + 1 - k) = E.length + 1 by omega] at this
 ·omega
end
open Go Go.AL Go.AL.SE Go.Proofs
variable {E : Env}
def isLL (Y : V) (W W' : AW) (out : List (List Int)) : Prop := (out ≠ [] ∧ Y = llV out ∧ W' = W) ∨ (out = [] ∧ ∃ r, Y = .slr r 0 0 1 ∧ Ex W W')
theorem nextG0_c (hP : PE E) (W : AW) {g m lo : Nat} {h kv : V} {ks : List V} (hG : Gr W g m h [] [] lo) (hkv : isS 1 kv ks) :
  ACalls E 83 [.ptr g 0, kv] W fun Y W' => ∃ r, Y = .slr r 0 0 1 ∧ Ex W W' := by
 refine ACalls.of hP Tryz.func83 ok_nexte (by simp) fun _ hok => ?_
 refine awp_start hok ?_
 have hlg := hG.lg
 have hmk : ∀ (W : AW) K, sem E (.makesl 1 24 [.nilsl]) [.int .i64 0, .int .i64 0] W K = K (.slr W.nx 0 0 1) (W.alloc (.vec 1 [])) := fun W K => mk24 (n := 0) (by decide)
 have hln : ∀ (W : AW) K n, sem E (.len 1 n) [h] W K = K (.int .i64 0) W := fun W K n => hG.now.len
 simp (maxSteps:=9^9) (disch:=omega) only [BX, ↓reduceIte, nE, BM, BD, nA, nL, nT, c_next, hkv.cells, hG.hg, hln, hmk]
 refine (edges_c hP _ g).mono ?_
 rintro _ W0 ⟨qe, rfl, hqe, hqn, hE⟩
 have hE0 : Ex W W0 := Ex.x0.trans hE
 have hn0 := hE.nx
 simp only [X_nx, rf, lcs, List.length_nil] at hn0
 have r3 : rf W.nx 3 = W.nx + 3 := rfl
 have w5 : W0.get (rf W.nx 3) = some (.row [.slr (rf W.nx 2) 0 0 1]) := by rw [hE.get _ (by simp [X_nx, rf]), X_get]; rfl
 have hG0 := hG.ex hE0
 have hel : (edL []).length = 0 := Nat.le_zero.1 (edL_le [])
 simp (maxSteps:=9^9) (disch:=omega) only [BS, ]
 refine range_edges hP (q := qe) (P := []) (N := []) (by simp only [ev_t]; exact if_pos rfl) hqe hqn hE0.cl hG0 (fun i W1 => Cl W1 ∧ W0.nx < W1.nx ∧ Ex W0 W1) ?_ ?_ ?_ ?_
 ·exact fun W1 hE1 hn1 => ⟨hE1.cl, hn1, hE1⟩
 ·exact fun i W1 h => ⟨h.1, h.2.1⟩
 ·intro i hi; omega
 ·rintro W1 ⟨j0, j1, j2⟩ hlp
  have k5 : (W1.put W0.nx (.loop .exhausted none)).get (rf W.nx 3) = some (.row [.slr (rf W.nx 2) 0 0 1]) := by rw [put_ne (by omega), j2.get _ (by omega)]; exact w5
  simp (maxSteps:=9^9) (disch:=omega) only [BZ, ↓reduceIte, nE, BM, k5]
  refine ⟨_, rfl, _, _, .weak weak_id, by rw [put_nx]; omega, rf W.nx 2, rfl, j2.cl.put (by omega), by rw [put_nx]; omega, fun y hy => ?_⟩
  rw [put_ne (by omega), j2.get _ (by omega)]
  exact hE0.get y hy
theorem nextA_c (hP : PE E) (W : AW) {g m lo : Nat} {h kv : V} {P : List Ek} {N kinds : List Int} (hG : Gr W g m h P N lo) (hNs : N.Pairwise fun a b => a < b) (hPN : ∀ x ∈ P, x.1 ∈ N ∧ x.2.1 ∈ N) (hkv : isS 1 kv (u8s kinds)) (hkl : kinds.length < 2 ^ 40) :
  ACalls E 83 [.ptr g 0, kv] W fun Y W' => isLL Y W W' (nextR P N kinds) := by
 by_cases hN : N = []
 ·subst hN
  obtain rfl : P = [] := List.eq_nil_iff_forall_not_mem.2 fun x hx => by have := (hPN x hx).1; cases this
  have hel : edL [] = [] := List.eq_nil_of_length_eq_zero (Nat.le_zero.1 (edL_le []))
  refine (nextG0_c hP W hG hkv).mono ?_
  rintro Y W' h
  exact .inr ⟨by rw [nextR, hel]; rfl, h⟩
 ·refine (nextG_c hP W hG hNs hPN hkv hkl hN).mono ?_
  rintro Y W' ⟨h1, h2⟩
  refine .inl ⟨?_, h1, h2⟩
  have hl : ∀ (l : List Ed) o, (l.foldl (nextStep N kinds) o).length = o.length := by
   intro l
   induction l with
   | nil => intro o; rfl
   | cons x l ih => intro o; rw [List.foldl_cons, ih, nextStep_len]
  rw [ne_eq, ← List.length_eq_zero_iff, nextR, hl, lrp, List.length_eq_zero_iff]
  exact hN
theorem lowB_at {N : List Int} (hN : N.Pairwise fun a b => a < b) {j : Nat} (hj : j < N.length) : lowB N N[j] = j := by
 have h := List.pairwise_iff_getElem.1 hN
 exact lowB_of (by omega) (fun i hi hij => h i j hi hj hij) (fun h => by omega)
theorem at_low {N : List Int} (hN : N.Pairwise fun a b => a < b) {x : Int} (hx : x ∈ N) : ∃ j, ∃ h : j < N.length, N[j] = x ∧ lowB N x = j := by
 obtain ⟨j, hj, rfl⟩ := List.getElem_of_mem hx
 exact ⟨j, hj, rfl, lowB_at hN hj⟩
def kin (kinds : List Int) (k : Int) : Bool := kinds.any fun x => decide (k = x)
theorem step_mem {N kinds : List Int} (hN : N.Pairwise fun a b => a < b) {out : List (List Int)} (ho : out.length = N.length) {x : Ed} (hx : x.fr ∈ N) {i : Nat} (hi : i < N.length) {t : Int} : t ∈ (nextStep N kinds out x).getD i [] ↔ t ∈ out.getD i [] ∨ (x.fr = N[i] ∧ kin kinds x.kd = true ∧ t = (lowB N x.to : Int)) := by
 obtain ⟨f, hf, f1, f2⟩ := at_low hN hx
 have hne : x.fr = N[i] → i = f := fun e => by rw [← lowB_at hN hi, ← e, f2]
 have hfi : i = f → x.fr = N[i] := fun e => by subst e; exact f1.symm
 unfold nextStep
 rw [f2]
 by_cases hk : (kinds.any fun k => decide (x.kd = k)) = true
 ·have hk' : kin kinds x.kd = true := hk
  cases hc : (out.getD f []).any fun t => decide ((lowB N x.to : Int) = t) with
  | true =>
   rw [if_neg (by simp)]
   refine ⟨.inl, fun h => h.elim id ?_⟩
   rintro ⟨e, _, rfl⟩
   obtain ⟨t', ht, h2⟩ := List.any_eq_true.1 hc
   rw [decide_eq_true_eq] at h2
   rw [h2, hne e]; exact ht
  | false =>
   rw [if_pos ⟨hk, rfl⟩, List.getD_eq_getElem?_getD, List.getElem?_set]
   by_cases e : f = i
   ·rw [if_pos e, if_pos (by omega)]
    subst e
    simp only [Option.getD_some, map', msg]
    exact ⟨fun h => h.elim .inl fun h => .inr ⟨f1.symm, hk', h⟩, fun h => h.elim .inl fun h => .inr h.2.2⟩
   ·rw [if_neg e, ← List.getD_eq_getElem?_getD]
    exact ⟨.inl, fun h => h.elim id fun h => absurd (hne h.1).symm e⟩
 ·rw [if_neg (fun h => hk h.1)]
  exact ⟨.inl, fun h => h.elim id fun h => absurd h.2.1 hk⟩
theorem next_mem {N kinds : List Int} (hN : N.Pairwise fun a b => a < b) : ∀ (l : List Ed) (out : List (List Int)), out.length = N.length → (∀ e ∈ l, e.fr ∈ N) → (l.foldl (nextStep N kinds) out).length = N.length ∧ ∀ i (hi : i < N.length) (t : Int), t ∈ (l.foldl (nextStep N kinds) out).getD i [] ↔ t ∈ out.getD i [] ∨ ∃ e ∈ l, e.fr = N[i] ∧ kin kinds e.kd = true ∧ t = (lowB N e.to : Int)
 | [], out, ho, _ => ⟨ho, fun i hi t => by simp⟩
 | x :: l, out, ho, hm => by
  obtain ⟨h1, h2⟩ := next_mem hN (kinds := kinds) l (nextStep N kinds out x) (by rw [nextStep_len]; exact ho) fun e he => hm e (by simp [he])
  refine ⟨h1, fun i hi t => ?_⟩
  rw [List.foldl_cons, h2 i hi t, step_mem hN ho (hm x (by simp)) hi]
  constructor
  ·rintro ((h | h) | ⟨e, he, h⟩)
   ·exact .inl h
   ·exact .inr ⟨x, by simp, h⟩
   ·exact .inr ⟨e, by simp [he], h⟩
  ·rintro (h | ⟨e, he, h⟩)
   ·exact .inl (.inl h)
   ·rcases List.mem_cons.1 he with rfl | he
    ·exact .inl (.inr h)
    ·exact .inr ⟨e, he, h⟩
theorem next_short {N kinds : List Int} : ∀ (l : List Ed) (out : List (List Int)) (m : Nat), (∀ x ∈ out, x.length ≤ m) → ∀ x ∈ l.foldl (nextStep N kinds) out, x.length ≤ m + l.length
 | [], out, m, h => by simpa using h
 | x :: l, out, m, h => by
  have := next_short (N := N) (kinds := kinds) l (nextStep N kinds out x) (m + 1) (nextStep_le h)
  intro y hy
  have := this y hy
  simp only [lcs]; omega
def prs (P : List Ed) (ks : Int → Bool) : List (Int × Int) := (P.filter fun e => ks e.kd).map fun e => (e.fr, e.to)
theorem prs_mem {P : List Ed} {ks : Int → Bool} {a b : Int} : (a, b) ∈ prs P ks ↔ ∃ e ∈ P, e.fr = a ∧ e.to = b ∧ ks e.kd = true := by
 rw [prs, mmp]
 constructor
 ·rintro ⟨e, he, h⟩
  obtain ⟨h1, h2⟩ := List.mem_filter.1 he
  cases h
  exact ⟨e, h1, rfl, rfl, h2⟩
 ·rintro ⟨e, he, rfl, rfl, h⟩
  exact ⟨e, List.mem_filter.2 ⟨he, h⟩, rfl⟩
def nxN (P : List Ek) (N kinds : List Int) (i : Nat) : List Nat := ((nextR P N kinds).getD i []).map Int.toNat
theorem nxN_mem {P : List Ek} {N kinds : List Int} (hN : N.Pairwise fun a b => a < b) (hm : ∀ e ∈ edL P, e.fr ∈ N ∧ e.to ∈ N) {i j : Nat} (hi : i < N.length) : j ∈ nxN P N kinds i ↔ ∃ h : j < N.length, N[j] ∈ outE (prs (edL P) (kin kinds)) N[i] := by
 have h2 := (next_mem (kinds := kinds) hN (edL P) (List.replicate N.length []) (by simp) fun e he => (hm e he).1).2 i hi
 rw [nxN, mmp]
 constructor
 ·rintro ⟨t, ht, rfl⟩
  rcases (h2 t).1 ht with h | ⟨e, he, e1, e2, rfl⟩
  ·rw [List.getD_eq_getElem?_getD, List.getElem?_replicate, if_pos hi] at h; cases h
  ·obtain ⟨k, hk, k1, k2⟩ := at_low hN (hm e he).2
   rw [k2]
   refine ⟨by simpa using hk, out_mem.2 (prs_mem.2 ⟨e, he, e1, ?_, e2⟩)⟩
   simp [k1]
 ·rintro ⟨h, ho⟩
  obtain ⟨e, he, e1, e2, e3⟩ := prs_mem.1 (out_mem.1 ho)
  exact ⟨(j : Int), (h2 j).2 (.inr ⟨e, he, e1, e3, by rw [e2, lowB_at hN h]⟩), by simp⟩
theorem next_ints {P : List Ek} {N kinds : List Int} (hN : N.Pairwise fun a b => a < b) (hm : ∀ e ∈ edL P, e.fr ∈ N ∧ e.to ∈ N) {i : Nat} (hi : i < N.length) : i64s ((nextR P N kinds).getD i []) = natsV (nxN P N kinds i) := by
 have h2 := (next_mem (kinds := kinds) hN (edL P) (List.replicate N.length []) (by simp) fun e he => (hm e he).1).2 i hi
 rw [natsV, nxN, i64s, List.map_map]
 refine List.map_congr_left fun t ht => ?_
 rcases (h2 t).1 ht with h | ⟨e, _, _, _, rfl⟩
 ·rw [List.getD_eq_getElem?_getD, List.getElem?_replicate, if_pos hi] at h; cases h
 ·simp
theorem nx_rch {P : List Ek} {N kinds : List Int} (hN : N.Pairwise fun a b => a < b) (hm : ∀ e ∈ edL P, e.fr ∈ N ∧ e.to ∈ N) {i j : Nat} (hi : i < N.length) (hj : j < N.length) : Rch (nxN P N kinds) i j ↔ Rch (outE (prs (edL P) (kin kinds))) N[i] N[j] := by
 constructor
 ·intro h
  induction h with
  | refl => exact .refl _
  | step e _ ih =>
   obtain ⟨h1, h2⟩ := (nxN_mem hN hm hi).1 e
   exact .step h2 (ih h1 hj)
 ·intro h
  have key : ∀ a b, Rch (outE (prs (edL P) (kin kinds))) a b → ∀ i (hi : i < N.length), N[i] = a → ∀ j (hj : j < N.length), N[j] = b → Rch (nxN P N kinds) i j := by
   intro a b h
   induction h with
   | refl =>
    intro i hi e1 j hj e2
    have : i = j := by rw [← lowB_at hN hi, ← lowB_at hN hj, e1, e2]
    rw [this]; exact .refl _
   | @step a b c e _ ih =>
    intro i hi e1 j hj e2
    subst e1
    have hbn : b ∈ N := by
     obtain ⟨x, hx, _, h2, _⟩ := prs_mem.1 (out_mem.1 e)
     rw [← h2]; exact (hm x hx).2
    obtain ⟨k, hk, hkb⟩ := List.getElem_of_mem hbn
    exact .step ((nxN_mem hN hm hi).2 ⟨hk, by rw [hkb]; exact e⟩) (ih k hk hkb j hj e2)
  exact key _ _ h i hi rfl j hj rfl
theorem nx_Nx {P : List Ek} {N kinds : List Int} (hN : N.Pairwise fun a b => a < b) (hm : ∀ e ∈ edL P, e.fr ∈ N ∧ e.to ∈ N) (hl : (edL P).length < 2 ^ 32) : Nx (llV (nextR P N kinds)) (nxN P N kinds) N.length := by
 have hlen := (next_mem (kinds := kinds) hN (edL P) (List.replicate N.length []) (by simp) fun e he => (hm e he).1).1
 have hsh := next_short (N := N) (kinds := kinds) (edL P) (List.replicate N.length []) 0 fun x hx => by rw [List.eq_of_mem_replicate hx]; exact lr _
 refine ⟨⟨_, .inl .mk, by rw [lmp]; exact hlen, fun i h => ?_⟩, fun i hi k hk => ?_, fun i hi => ?_⟩
 ·have hi : i < (nextR P N kinds).length := by simpa using h
  rw [List.getElem_map]
  have := next_ints (kinds := kinds) hN hm (show i < N.length by rw [← hlen]; exact hi)
  rw [List.getD_eq_getElem?_getD, gEg hi, Option.getD_some] at this
  rw [this]; exact nowGS_S 1 _
 ·exact ((nxN_mem hN hm hi).1 hk).1
 ·rw [nxN, lmp, List.getD_eq_getElem?_getD, gEg (show i < (nextR P N kinds).length by rw [nextR, hlen]; exact hi), Option.getD_some]
  have := hsh _ (gmm (show i < (nextR P N kinds).length by rw [nextR, hlen]; exact hi))
  omega
theorem edges_iter2 (hP : PE E) {W : AW} {y q g m lo : Nat} {h : V} {P : List Ek} {N : List Int} (hq : W.get q = some (.row [.ptr g 0])) (hG : Gr W g m h P N lo) (J : Nat → AW → Prop) (D : AW → Prop)
  (h0 : J 0 W) (hJ : ∀ i W1, J i W1 → Cl W1 ∧ W.nx ≤ W1.nx) (hD : ∀ W1, D W1 → W.nx ≤ W1.nx) (hmono : ∀ (vs : List V) (W1 : AW) (K K' : V → AW → Prop), (∀ v W', K v W' → K' v W') → E.yield y vs W1 K → E.yield y vs W1 K')
  (hy : ∀ i (hi : i < (edL P).length) W1 l, J i W1 → E.yield y [(edL P)[i].V] (X W1 W1.nx l) (fun Y W2 => (Y = .bool true ∧ J (i + 1) W2) ∨ (Y = .bool false ∧ D W2))) :
  ACalls E 45 [.yld y, .ptr q 0] W fun Y W' => Y = .tuple [] ∧ (J (edL P).length W' ∨ D W') := by
 refine ACalls.of hP Tryz.func45 ok_edges1e (by simp) fun _ hok => ?_
 have hs := edsV_S (edL P)
 have hl := edL_lt hG
 simp (maxSteps:=9^9) (disch:=omega) only [c_edges1, BZ, ↓reduceIte, BM, hq]
 refine pc (sorted27_c hP _ hG) ?_
 simp (maxSteps:=9^9) (disch:=omega) only [BS, ↓reduceIte, hs.len, lmp]
 rw [e_loop]
 refine alp (fun (i : Nat) A1 W1 => A1 0 = some (.yld y) ∧ A1 6 = some (edsV (edL P)) ∧ A1 7 = some (.int .i64 (edL P).length) ∧ A1 8 = some (.int .i64 i) ∧ i ≤ (edL P).length ∧ J i W1) (fun i => (edL P).length - i) 0
  ⟨rfl, rfl, rfl, rfl, Nat.zero_le _, h0⟩ ?_
 rintro i A1 W1 ⟨g0, g6, g7, g8, gi, gJ⟩ hn
 by_cases hi : i < (edL P).length
 ·have hat := ed_at hi
  have hyi := fun l => hy i hi W1 l gJ
  generalize (edL P)[i] = e at hat hyi
  refine awp_startC (hJ _ _ gJ).1 ?_
  simp (maxSteps:=9^9) (disch:=omega) only [c_edges1_0, BX, ↓reduceIte, nE, reduceCtorEq, BM, BD, nA, nL, nT, g0, g6, g7, g8, clt, hi, dT, hs.idx hat, ed_cells, sem_yield]
  refine hmono _ _ _ _ ?_ (hyi _)
  rintro Y W2 (⟨rfl, g⟩ | ⟨rfl, g⟩)
  ·simp (maxSteps:=9^9) (disch:=omega) only [BS, BC, cond_if, ↓reduceIte, nE, reduceCtorEq, BD, g0, g6, g7, g8, wadd1]
   exact ⟨i + 1, ⟨tt, tt, tt, tt, by omega, g⟩, by omega, (hJ _ _ g).2⟩
  ·simp (maxSteps:=9^9) (disch:=omega) only [BS, cond_if, ↓reduceIte, BD]
   exact ⟨_, rfl, _, _, .weak weak_id, hD _ g, rfl, .inr g⟩
 ·obtain rfl : i = (edL P).length := by omega
  simp (maxSteps:=9^9) (disch:=omega) only [c_edges1_0, BX, ↓reduceIte, g7, g8, clt, hi, dF]
  exact ⟨_, rfl, _, _, .weak weak_id, (hJ _ _ gJ).2, rfl, .inl gJ⟩
theorem range_edges2 (hP : PE E) {W0 : AW} {A : AFr} {q pv g m lo : Nat} {h : V} {P : List Ek} {N : List Int} {gx : AX} {asg body : AC} {Q : Exit → AFr → AW → Prop} (hg : gx.ev E A = some (.fn (.func 45) [] [.ptr q 0])) (hq : W0.get q = some (.row [.ptr g 0])) (hqn : q < W0.nx) (hC : Cl W0) (hG : Gr W0 g m h P N lo)
  (J : Nat → AW → Prop) (D : AW → Prop) (h0 : ∀ W1, Ex W0 W1 → W0.nx < W1.nx → J 0 W1) (hJ : ∀ i W1, J i W1 → Cl W1 ∧ W0.nx < W1.nx) (hD : ∀ W1, D W1 → W0.nx < W1.nx)
  (hb : ∀ i (hi : i < (edL P).length) W1 W1', J i W1 → Ex W1 W1' → W1'.get W0.nx = some (.loop .ready none) →
   awp E asg (thenQ (fun A1 W2 => W2.get W0.nx = some (.loop .ready none) ∧ awp E body (fun e _ W3 => W3.get W0.nx = some (.loop .busy none) ∧ ((e = .normal ∧ J (i + 1) (W3.put W0.nx (.loop .ready none))) ∨ (e = .ret ∧ D W3))) A1 (W2.put W0.nx (.loop .busy none))) (fun _ _ _ => False)) (A.put pv (edL P)[i].V) W1')
  (hQ : ∀ W1, J (edL P).length W1 → W1.get W0.nx = some (.loop .ready none) → Q .normal A (W1.put W0.nx (.loop .exhausted none)))
  (hQ2 : ∀ W1, D W1 → Q .ret A ((W1.put W0.nx (.loop .done (some .ret))).put W0.nx (.loop .exhausted (some .ret)))) : awp E (.rangef gx [pv] asg body) Q A W0 := by
 rw [awp_rangef', hg]
 intro E' eP eG ey _
 have hP' : E'.P = Tryz.prog := eP.trans hP
 have hE : Ex W0 (W0.alloc (.loop .ready none)) := ⟨fun r hr => by rw [alloc_nx] at hr; rw [al_gets, if_neg (by omega)]; exact hC r (by omega), by rw [alloc_nx]; omega, fun x hx => alloc_lt hx⟩
 simp only [mcs, List.map_nil, frz_ptr]
 refine (edges_iter2 (E := E') hP' (y := W0.nx) (q := q) (by rw [alloc_lt hqn]; exact hq) (hG.ex hE) (fun k W1 => J k W1 ∧ W1.get W0.nx = some (.loop .ready none)) (fun W1 => ∃ W3, D W3 ∧ W1 = W3.put W0.nx (.loop .done (some .ret))) ⟨h0 _ hE (by rw [alloc_nx]; omega), alloc_at⟩ (fun i W1 g => ⟨(hJ _ _ g.1).1, by rw [alloc_nx]; exact (hJ _ _ g.1).2⟩)
  (by rintro W1 ⟨W3, h3, rfl⟩; rw [alloc_nx, put_nx]; exact hD _ h3) (fun vs W1 K K' hk hy => E'.yieldMono _ _ _ _ _ hk hy) ?_).mono ?_
 ·rintro i hi W1 l ⟨g1, g2⟩
  have hlt := (hJ _ _ g1).2
  refine ey _ _ _ ⟨by rw [X_old hlt]; exact g2, rfl, ?_⟩
  refine awp_mono _ ?_ (hb i hi W1 _ g1 ((Ex.refl (hJ _ _ g1).1).X (l := l)) (by rw [X_old hlt]; exact g2))
  intro e A1 W2 hh
  cases e with
  | normal =>
   refine ⟨hh.1, awp_mono _ ?_ hh.2⟩
   rintro e A3 W3 ⟨h2, ⟨rfl, h3⟩ | ⟨rfl, h3⟩⟩
   ·exact ⟨h2, .inl ⟨rfl, h3, put_at⟩⟩
   ·exact ⟨h2, .inr ⟨rfl, W3, h3, rfl⟩⟩
  | _ => exact hh
 ·rintro Y W1 ⟨_, ⟨g1, g2⟩ | ⟨W3, h3, rfl⟩⟩
  ·simp only [doneQ, g2]
   exact hQ _ g1 g2
  ·simp only [doneQ, put_at]
   exact hQ2 _ h3
def c_turns : AC := (.r [.u 4 .box 1,.p 6 (.alloc [.bool false]) []] (.r [.m 15 0,.u 16 (.call 81) 15,.p 7 (.alloc [.nilsl]) [],⟨none,.store 1, [.t 7,.t 16], none⟩] (.r [.m 18 0,.m 19 2,.b 20 (.call 83) 18 19,.u 21 (.call 82) 20,.m 17 21,.u 22 (.ext 0) 17,.u 23 (.ext 1) 17,.p 8 (.alloc [.nilsl]) [],⟨none,.store 1, [.t 8,.t 22], none⟩,.m 9 23] (.seq (.r [.m 24 9,.a 25 (.bin .neq) 24 0] (.cond (.t 25) (.r [⟨none,.store 1, [.t 6,.c (.bool false)], none⟩] .ret) .skip)) (.seq (.r [.m 26 0,.u 27 (.call 12) 26] (.block 0 (.rangef (.t 27) [28] (.reg [.p 10 (.alloc [.int .u16 0,.int .u16 0,.int .u8 0]) [],⟨none,.store 3, [.t 10,.t 28], none⟩]) (.block 1 (.r [.u 30 (.load false 1) 7,.u 31 (.fld 0) 10,.u 32 (.load false 1) 31,.b 33 (.call 84) 30 32,.m 29 33,.u 34 (.ext 0) 29,.u 35 (.ext 1) 29,.m 11 34,.m 12 35] (.r [.u 37 (.load false 1) 7,.u 38 (.fld 1) 10,.u 39 (.load false 1) 38,.b 40 (.call 84) 37 39,.m 36 40,.u 41 (.ext 0) 36,.u 42 (.ext 1) 36,.m 13 41,.m 14 42] (.seq (.par (.step 0 (.u 43 (.fld 2) 10) (.step 1 (.u 44 (.load false 1) 43) (.step 2 (.u 45 (.load false 1) 4) (.step 3 (.b 46 (.bin .eql) 44 45) (.step 4 (.m 47 46) (.step 6 (.M 49 11 47 true) (.step 10 (.M 53 13 47 true) (.step 5 (.U 48 (.load false 1) 8 47 true) (.step 7 (.B 50 (.idxp 1) 48 49 47 true) (.step 8 (.U 51 (.load false 1) 50 47 true) (.step 9 (.U 52 (.load false 1) 8 47 true) (.step 11 (.B 54 (.idxp 1) 52 53 47 true) (.step 12 (.U 55 (.load false 1) 54 47 true) (.step 13 (.B 56 (.bin .eql) 51 55 47 true) (.step 14 (.p 57 .pick [.t 47,.t 56,.F]) .done)))))))))))))))) (.cond (.t 57) (.r [⟨none,.store 1, [.t 6,.c (.bool true)], none⟩] .ret) .skip)))))))) (.r [⟨none,.store 1, [.t 6,.c (.bool false)], none⟩] .ret))))))
theorem ok_turnse : compF Tryz.prog Tryz.f47 ⟨false, false, []⟩ = some (c_turns, [.cell 6 false 1], 58) := by kernel_rfl
def hitT (P : List Ek) (kinds : List Int) (wk : Int) (e : Ed) : Prop := e.kd = wk ∧ Rch (outE (prs (edL P) (kin kinds))) e.to e.fr
theorem turn_same {P : List Ek} {N kinds : List Int} (hN : N.Pairwise fun a b => a < b) (hm : ∀ e ∈ edL P, e.fr ∈ N ∧ e.to ∈ N) {out : List Nat} (ho : out.length = N.length) (hc : ∀ i j (hi : i < out.length) (hj : j < out.length), out[i] = out[j] ↔ Rch (nxN P N kinds) i j ∧ Rch (nxN P N kinds) j i) {e : Ed} (he : e ∈ edL P) (hk : kin kinds e.kd = true) :
  ∃ (h1 : lowB N e.fr < out.length) (h2 : lowB N e.to < out.length), out[lowB N e.fr] = out[lowB N e.to] ↔ Rch (outE (prs (edL P) (kin kinds))) e.to e.fr := by
 obtain ⟨i, hi, i1, i2⟩ := at_low hN (hm e he).1
 obtain ⟨j, hj, j1, j2⟩ := at_low hN (hm e he).2
 refine ⟨by omega, by omega, ?_⟩
 rw [hc, i2, j2, nx_rch hN hm hj hi, i1, j1]
 refine ⟨fun h => h.2, fun h => ⟨Rch.one ((nxN_mem hN hm hi).2 ⟨hj, ?_⟩), h⟩⟩
 rw [i1, j1]
 exact out_mem.2 (prs_mem.2 ⟨e, he, rfl, rfl, hk⟩)
theorem turns_c (hP : PE E) (W : AW) {g m lo : Nat} {h kv : V} {P : List Ek} {N kinds : List Int} {wk : Int} (hG : Gr W g m h P N lo) (hNs : N.Pairwise fun a b => a < b) (hPN : ∀ x ∈ P, x.1 ∈ N ∧ x.2.1 ∈ N) (hkv : isS 1 kv (u8s kinds)) (hkl : kinds.length < 2 ^ 40) (hwk : kin kinds wk = true) :
  ACalls E 47 [.ptr g 0, .int .u8 wk, kv] W fun Y W' => W' = W ∧ ∃ b, Y = .bool b ∧ (b = true ↔ ∃ e ∈ edL P, hitT P kinds wk e) := by
 refine ACalls.of hP Tryz.func47 ok_turnse (by simp) fun _ hok => ?_
 refine awp_start hok ?_
 have hlg := hG.lg
 have hnl := hG.nl
 have hPe : ∀ e ∈ edL P, e.fr ∈ N ∧ e.to ∈ N := fun e he => hPN _ (edL_mem.1 he)
 have hns := nowGS_S 1 (intsV N)
 have f1 := hns.cells
 have f2 := hns.one
 have hX : ∀ l, Gr (X W W.nx l) g m h P N lo := fun l => hG.ex Ex.x0
 have hX0 : ∀ l, Cl (X W W.nx l) := fun l => Cl.X
 simp (maxSteps:=9^9) (disch:=omega) only [BZ, ↓reduceIte, reduceCtorEq, BM, BD, c_turns]
 refine pc (nodes_c hP _ (hX _)) ?_
 simp (maxSteps:=9^9) (disch:=omega) only [BZ, ↓reduceIte, nE, reduceCtorEq, BM, BD, nA, nL, nT, f1, f2, hkv.frz]
 refine (nextA_c hP _ (hX _) hNs hPN hkv hkl).mono ?_
 rintro YN WN hLL
 have r0 : rf W.nx 0 = W.nx := rfl
 have r1 : rf W.nx 1 = W.nx + 1 := rfl
 have r2 : rf W.nx 2 = W.nx + 2 := rfl
 have hen : Ex W WN ∧ ∀ W1 : AW, W1.frz YN = YN := by
  rcases hLL with ⟨_, rfl, rfl⟩ | ⟨_, r, rfl, hE⟩
  ·exact ⟨Ex.x0, fun W1 => rfl⟩
  ·exact ⟨Ex.x0.trans hE, fun W1 => rfl⟩
 have hnr : (nextR P N kinds).length = N.length := (next_mem (kinds := kinds) hNs (edL P) (List.replicate N.length []) (by simp) fun e he => (hPe e he).1).1
 have hcomp : ACalls E 82 [YN] WN fun Y W' => Ex WN W' ∧ ∃ ov : V, Y = .tuple [ov, .int .i64 0] ∧ ov.cells = [ov] ∧ ov.one = true ∧ (N ≠ [] → ∃ out : List Nat, ov = .sl 1 false (natsV out) ∧ out.length = N.length ∧ ∀ i j (hi : i < out.length) (hj : j < out.length), out[i] = out[j] ↔ Rch (nxN P N kinds) i j ∧ Rch (nxN P N kinds) j i) := by
  rcases hLL with ⟨hne, rfl, rfl⟩ | ⟨he, r, rfl, hE⟩
  ·have hpos : 0 < N.length := by
    have := List.length_pos_iff.2 hne
    rw [hnr] at this; exact this
   refine (comp_c hP _ (nx_Nx hNs hPe (edL_lt hG)) (by omega) hpos).mono ?_
   rintro _ W' ⟨rfl, out, rfl, o1, o2⟩
   exact ⟨Ex.refl Cl.X, _, rfl, rfl, rfl, fun _ => ⟨out, rfl, o1, o2⟩⟩
  ·have hN0 : N = [] := by
    rw [he] at hnr
    exact List.eq_nil_of_length_eq_zero hnr.symm
   refine (comp0_c hP _ (nx := fun _ => []) ⟨⟨[], .inr ⟨rfl, r, rfl⟩, rfl, fun i h => by simp at h⟩, fun i h => by omega, fun i h => by omega⟩).mono ?_
   rintro _ W' ⟨hE', r', rfl⟩
   exact ⟨hE', _, rfl, rfl, rfl, fun h => absurd hN0 h⟩
 obtain ⟨hEN, hfN⟩ := hen
 have g4 : WN.get (rf W.nx 0) = some (.row [.int .u8 wk]) := by
  rcases hLL with ⟨_, _, rfl⟩ | ⟨_, r, _, hE⟩
  ·rw [X_get]; rfl
  ·rw [hE.get _ (by simp [X_nx, rf]), X_get]; rfl
 have g6 : WN.get (rf W.nx 1) = some (.row [.bool false]) := by
  rcases hLL with ⟨_, _, rfl⟩ | ⟨_, r, _, hE⟩
  ·rw [X_get]; rfl
  ·rw [hE.get _ (by simp [X_nx, rf]), X_get]; rfl
 have g7 : WN.get (rf W.nx 2) = some (.row [nowGS 1 (intsV N)]) := by
  rcases hLL with ⟨_, _, rfl⟩ | ⟨_, r, _, hE⟩
  ·rw [X_get]; rfl
  ·rw [hE.get _ (by simp [X_nx, rf]), X_get]; rfl
 have gn : W.nx + 3 ≤ WN.nx := by
  rcases hLL with ⟨_, _, rfl⟩ | ⟨_, r, _, hE⟩
  ·exact lr _
  ·exact hE.nx
 clear hLL
 simp (maxSteps:=9^9) (disch:=omega) only [BS, BC, ↓reduceIte, hfN]
 refine hcomp.mono ?_
 rintro _ WC ⟨hEC, ov, rfl, o1, o2, o3⟩
 have hnC := hEC.nx
 rw [hEC.cl.start]
 have hb0 : ((0 : Int) != 0) = false := by decide
 simp (maxSteps:=9^9) (disch:=omega) only [BX, ↓reduceIte, nE, reduceCtorEq, BM, BD, nL, nT, o1, o2, hb0]
 obtain ⟨W8, hW8⟩ : ∃ W8, W8 = X WC WC.nx [.row [ov]] := ⟨_, rfl⟩
 have hE8 : Ex WC W8 := by rw [hW8]; exact (Ex.refl hEC.cl).X
 have g8 : W8.get (rf WC.nx 0) = some (.row [ov]) := by rw [hW8, X_get]; rfl
 have r8 : rf WC.nx 0 = WC.nx := rfl
 have n8 : W8.nx = WC.nx + 1 := by rw [hW8]; rfl
 rw [← hW8]
 clear hW8
 refine (edges_c hP _ g).mono ?_
 rintro _ W0 ⟨qe, rfl, hqe, hqn, hE0⟩
 have hn0 := hE0.nx
 have hEW : Ex W W0 := ((hEN.trans hEC).trans hE8).trans hE0
 have hG0 := hG.ex hEW
 have k4 : W0.get (rf W.nx 0) = some (.row [.int .u8 wk]) := by rw [hE0.get _ (by omega), hE8.get _ (by omega), hEC.get _ (by omega)]; exact g4
 have k6 : W0.get (rf W.nx 1) = some (.row [.bool false]) := by rw [hE0.get _ (by omega), hE8.get _ (by omega), hEC.get _ (by omega)]; exact g6
 have k7 : W0.get (rf W.nx 2) = some (.row [nowGS 1 (intsV N)]) := by rw [hE0.get _ (by omega), hE8.get _ (by omega), hEC.get _ (by omega)]; exact g7
 have k8 : W0.get (rf WC.nx 0) = some (.row [ov]) := by rw [hE0.get _ (by omega)]; exact g8
 simp (maxSteps:=9^9) (disch:=omega) only [BS, ]
 refine range_edges2 hP (q := qe) (P := P) (N := N) (by simp only [ev_t]; exact if_pos rfl) hqe hqn hE0.cl hG0 (fun i W1 => Cl W1 ∧ W0.nx < W1.nx ∧ (∀ x, x < W0.nx → W1.get x = W0.get x) ∧ ∀ j (hj : j < (edL P).length), j < i → ¬ hitT P kinds wk (edL P)[j])
  (fun W1 => W0.nx < W1.nx ∧ (∀ x, x < W0.nx → x ≠ rf W.nx 1 → W1.get x = W0.get x) ∧ W1.get (rf W.nx 1) = some (.row [.bool true]) ∧ ∃ e ∈ edL P, hitT P kinds wk e) ?_ ?_ ?_ ?_ ?_ ?_
 ·exact fun W1 hE1 hn1 => ⟨hE1.cl, hn1, hE1.get, fun j _ h => by omega⟩
 ·exact fun i W1 h => ⟨h.1, h.2.1⟩
 ·exact fun W1 h => h.1
 ·rintro i hi W1 W1' ⟨j0, j1, j2, j3⟩ hE1 hlp
  have hie := gmm hi
  have hj3 : ∀ (hn : ¬ hitT P kinds wk (edL P)[i]), ∀ j (hj : j < (edL P).length), j < i + 1 → ¬ hitT P kinds wk (edL P)[j] := fun hn j hj hji => by
   by_cases e : j = i
   ·subst e; exact hn
   ·exact j3 j hj (by omega)
  generalize (edL P)[i] = x at hie hj3
  have hn1 := hE1.nx
  have hNe : N ≠ [] := fun e => by have := (hPe x hie).1; rw [e] at this; cases this
  obtain ⟨out, rfl, ol, oc⟩ := o3 hNe
  refine awp_startC hE1.cl ?_
  simp (maxSteps:=9^9) (disch:=omega) only [BZ, ↓reduceIte, nE, BM, BD, nA, nL, nT, Ed.V, hlp]
  refine ⟨tt, ?_⟩
  obtain ⟨Wb, hWb⟩ : ∃ Wb, Wb = X (W1'.put W0.nx (.loop .busy none)) W1'.nx [.row [.int .u16 x.fr, .int .u16 x.to, .int .u8 x.kd]] := ⟨_, rfl⟩
  have hgb : ∀ y, y < W0.nx → Wb.get y = W0.get y := fun y hy => by rw [hWb, X_old (by omega), put_ne (by omega), hE1.get y (by omega)]; exact j2 y hy
  have c4 := (hgb _ (by omega)).trans k4
  have c6 := (hgb _ (by omega)).trans k6
  have c7 := (hgb _ (by omega)).trans k7
  have c8 := (hgb _ (by omega)).trans k8
  have c10 : Wb.get (rf W1'.nx 0) = some (.row [.int .u16 x.fr, .int .u16 x.to, .int .u8 x.kd]) := by rw [hWb, X_get]; rfl
  have c7' : (W1'.put W0.nx (.loop .busy none)).get (rf W.nx 2) = some (.row [nowGS 1 (intsV N)]) := by rw [put_ne (by omega), hE1.get _ (by omega), j2 _ (by omega)]; exact k7
  have cl : Wb.get W0.nx = some (.loop .busy none) := by rw [hWb, X_old (by omega), put_at]
  have cn : Wb.nx = W1'.nx + 1 := by rw [hWb]; rfl
  have cc : Cl Wb := by rw [hWb]; exact Cl.X
  rw [← hWb]
  clear hWb
  have fin : ¬ hitT P kinds wk x → Cl (Wb.put W0.nx (.loop .ready none)) ∧ W0.nx < (Wb.put W0.nx (.loop .ready none)).nx ∧ (∀ y, y < W0.nx → (Wb.put W0.nx (.loop .ready none)).get y = W0.get y) ∧ ∀ j (hj : j < (edL P).length), j < i + 1 → ¬ hitT P kinds wk (edL P)[j] := fun hn =>
   ⟨cc.put (by omega), by rw [put_nx]; omega, fun y hy => by rw [put_ne (by omega)]; exact hgb y hy, hj3 hn⟩
  simp (maxSteps:=9^9) (disch:=omega) only [BC, BM, c7', hns.frz]
  refine pc (bs16_c hP _ hns hNs (by omega) x.fr) ?_
  simp (maxSteps:=9^9) (disch:=omega) only [BZ, ↓reduceIte, nE, BM, BD, c7, c10, hns.frz]
  refine pc (bs16_c hP _ hns hNs (by omega) x.to) ?_
  by_cases hk : x.kd = wk
  ·obtain ⟨b1, b2, b3⟩ := turn_same hNs hPe ol oc hie (by rw [hk]; exact hwk)
   have hk' : (x.kd == wk) = true := by simp [hk]
   have a1 : (natsV out)[lowB N x.fr]? = some (.int .i64 (out[lowB N x.fr] : Nat)) := natsV_at b1
   have a2 : (natsV out)[lowB N x.to]? = some (.int .i64 (out[lowB N x.to] : Nat)) := natsV_at b2
   by_cases he : out[lowB N x.fr] = out[lowB N x.to]
   ·have he' : (((out[lowB N x.fr] : Nat) : Int) == ((out[lowB N x.to] : Nat) : Int)) = true := by simp [he]
    simp (maxSteps:=9^9) (disch:=omega) only [BZ, ↓reduceIte, nE, BM, BD, c10, c4, hk']
    repeat (rw [guard_if]; simp (maxSteps:=9^9) (disch:=omega) only [BX, ↓reduceIte, nE, reduceCtorEq, BM, BD, nL, c8, a1, a2, he', c6])
    refine ⟨by rw [put_ne (by omega)]; exact cl, .inr ⟨tt, by rw [put_nx]; omega, fun y hy hyr => by rw [put_ne hyr]; exact hgb y hy, by rw [put_at], x, hie, hk, b3.1 he⟩⟩
   ·have he' : (((out[lowB N x.fr] : Nat) : Int) == ((out[lowB N x.to] : Nat) : Int)) = false := by simp; omega
    simp (maxSteps:=9^9) (disch:=omega) only [BZ, ↓reduceIte, nE, BM, BD, c10, c4, hk']
    repeat (rw [guard_if]; simp (maxSteps:=9^9) (disch:=omega) only [BS, BC, cond_if, ↓reduceIte, nE, reduceCtorEq, BM, c8, a1, a2, he', c6])
    exact ⟨cl, .inl ⟨tt, fin fun h => he (b3.2 h.2)⟩⟩
  ·have hk' : (x.kd == wk) = false := by simp [hk]
   simp (maxSteps:=9^9) (disch:=omega) only [BZ, ↓reduceIte, nE, BM, BD, c10, c4, hk']
   repeat (rw [guard_if]; simp (maxSteps:=9^9) (disch:=omega) only [BS, BC, cond_if, ↓reduceIte, nE, reduceCtorEq, BM, c6])
   exact ⟨cl, .inl ⟨tt, fin fun h => hk h.1⟩⟩
 ·rintro W1 ⟨j0, j1, j2, j3⟩ hlp
  have k6' : (W1.put W0.nx (.loop .exhausted none)).get (rf W.nx 1) = some (.row [.bool false]) := by rw [put_ne (by omega), j2 _ (by omega)]; exact k6
  simp (maxSteps:=9^9) (disch:=omega) only [BZ, ↓reduceIte, nE, BM, BD, nL, k6', put_at]
  refine ⟨_, rfl, _, W, .weak (weak_back hok rfl fun y hy => ?_), lr _, rfl, false, rfl, ?_⟩
  ·rw [put_ne (by omega), put_ne (by omega), j2 y (by have := hEW.nx; omega)]
   exact hEW.get y hy
  ·simp only [Bool.false_eq_true, false_iff]
   rintro ⟨e, he, hh⟩
   obtain ⟨j, hj, rfl⟩ := List.getElem_of_mem he
   exact j3 j hj hj hh
 ·rintro W1 ⟨j1, j2, j3, j4⟩
  have k6' : ((W1.put W0.nx (.loop .done (some .ret))).put W0.nx (.loop .exhausted (some .ret))).get (rf W.nx 1) = some (.row [.bool true]) := by rw [put_ne (by omega), put_ne (by omega)]; exact j3
  simp (maxSteps:=9^9) (disch:=omega) only [BS, BC, ↓reduceIte, nE, BM, k6']
  refine ⟨_, rfl, _, W, .weak (weak_back hok rfl fun y hy => ?_), lr _, rfl, true, rfl, ?_⟩
  ·rw [put_ne (by omega), put_ne (by omega), j2 y (by have := hEW.nx; omega) (by omega)]
   exact hEW.get y hy
  ·simp only [true_iff]; exact j4
def c_cycles : AC := (.r [.v 2 (.int .u8 0)] (.seq (.r [.m 3 0,.p 4 (.bslice 1 1 (.int .u8 0) [0]) [.c (.int .u8 0)],.p 5 (.call 47) [.t 3,.c (.int .u8 0),.t 4]] (.cond (.t 5) (.reg [.m 6 2,.p 7 (.bin .or) [.t 6,.c (.int .u8 1)],.m 2 7]) .skip)) (.seq (.r [.m 8 0,.p 9 (.bslice 1 2 (.int .u8 0) [0, 1]) [.c (.int .u8 0),.c (.int .u8 1)],.p 10 (.call 47) [.t 8,.c (.int .u8 1),.t 9]] (.cond (.t 10) (.reg [.m 11 2,.p 12 (.bin .or) [.t 11,.c (.int .u8 8)],.m 2 12]) .skip)) (.seq (.r [.m 13 0,.p 14 (.bslice 1 3 (.int .u8 0) [0, 1, 2]) [.c (.int .u8 0),.c (.int .u8 1),.c (.int .u8 2)],.p 15 (.call 47) [.t 13,.c (.int .u8 2),.t 14]] (.cond (.t 15) (.reg [.m 16 2,.p 17 (.bin .or) [.t 16,.c (.int .u8 16)],.m 2 17]) .skip)) (.r [.m 18 2,.m 2 18] .ret)))))
theorem ok_cyclese : compF Tryz.prog Tryz.f14 ⟨false, false, []⟩ = some (c_cycles, [.tmp 2], 19) := by kernel_rfl
theorem sem_or {W : AW} {K : V → AW → Prop} {a b c : Int} (h : bitI .or .u8 a b = some c) : sem E (.bin .or) [.int .u8 a, .int .u8 b] W K = K (.int .u8 c) W := by
 simp [sem, rsem, tsem, binI, h]
theorem b8_1 {W : AW} {K : V → AW → Prop} {a : Int} : sem E (.bslice 1 1 (.int .u8 0) [0]) [.int .u8 a] W K = K (.sl 1 true [.int .u8 a]) W := sem_bslice1 rfl
theorem b8_2 {W : AW} {K : V → AW → Prop} {a b : Int} : sem E (.bslice 1 2 (.int .u8 0) [0, 1]) [.int .u8 a, .int .u8 b] W K = K (.sl 1 true [.int .u8 a, .int .u8 b]) W := by
 simp [sem, rsem, tsem, fillE, V.cells]
theorem b8_3 {W : AW} {K : V → AW → Prop} {a b c : Int} : sem E (.bslice 1 3 (.int .u8 0) [0, 1, 2]) [.int .u8 a, .int .u8 b, .int .u8 c] W K = K (.sl 1 true [.int .u8 a, .int .u8 b, .int .u8 c]) W := by
 simp [sem, rsem, tsem, fillE, V.cells]
def flagI (b0 b1 b2 : Bool) : Int := (if b0 = true then 1 else 0) + (if b1 = true then 8 else 0) + (if b2 = true then 16 else 0)
theorem cycles_c (hP : PE E) (W : AW) {g m lo : Nat} {h : V} {P : List Ek} {N : List Int} (hG : Gr W g m h P N lo) (hNs : N.Pairwise fun a b => a < b) (hPN : ∀ x ∈ P, x.1 ∈ N ∧ x.2.1 ∈ N) :
  ACalls E 14 [.ptr g 0] W fun Y W' => W' = W ∧ ∃ b0 b1 b2, Y = .int .u8 (flagI b0 b1 b2) ∧ (b0 = true ↔ ∃ e ∈ edL P, hitT P [0] 0 e) ∧ (b1 = true ↔ ∃ e ∈ edL P, hitT P [0, 1] 1 e) ∧ (b2 = true ↔ ∃ e ∈ edL P, hitT P [0, 1, 2] 2 e) := by
 refine ACalls.of hP Tryz.func14 ok_cyclese (by simp) fun _ hok => ?_
 have t0 := turns_c (E := E) hP W (kinds := [0]) (wk := 0) (kv := .sl 1 true [.int .u8 0]) hG hNs hPN .mk (by decide) (by decide)
 have t1 := turns_c (E := E) hP W (kinds := [0, 1]) (wk := 1) (kv := .sl 1 true [.int .u8 0, .int .u8 1]) hG hNs hPN .mk (by decide) (by decide)
 have t2 := turns_c (E := E) hP W (kinds := [0, 1, 2]) (wk := 2) (kv := .sl 1 true [.int .u8 0, .int .u8 1, .int .u8 2]) hG hNs hPN .mk (by decide) (by decide)
 have o1 : bitI .or .u8 0 1 = some 1 := by decide
 have o2 : bitI .or .u8 0 8 = some 8 := by decide
 have o3 : bitI .or .u8 1 8 = some 9 := by decide
 have o4 : bitI .or .u8 0 16 = some 16 := by decide
 have o5 : bitI .or .u8 1 16 = some 17 := by decide
 have o6 : bitI .or .u8 8 16 = some 24 := by decide
 have o7 : bitI .or .u8 9 16 = some 25 := by decide
 simp (maxSteps:=9^9) (disch:=omega) only [BZ, ↓reduceIte, nE, reduceCtorEq, c_cycles, b8_1]
 refine t0.mono ?_
 rintro _ _ ⟨rfl, b0, rfl, h0⟩
 have fin : ∀ (b1 b2 : Bool) (v : Int), (b1 = true ↔ ∃ e ∈ edL P, hitT P [0, 1] 1 e) → (b2 = true ↔ ∃ e ∈ edL P, hitT P [0, 1, 2] 2 e) → v = flagI b0 b1 b2 → ∃ b0 b1 b2, V.int .u8 v = .int .u8 (flagI b0 b1 b2) ∧ (b0 = true ↔ ∃ e ∈ edL P, hitT P [0] 0 e) ∧ (b1 = true ↔ ∃ e ∈ edL P, hitT P [0, 1] 1 e) ∧ (b2 = true ↔ ∃ e ∈ edL P, hitT P [0, 1, 2] 2 e) :=
  fun b1 b2 v h1 h2 e => ⟨b0, b1, b2, by rw [e], h0, h1, h2⟩
 cases b0 <;> (simp (maxSteps:=9^9) (disch:=omega) only [BX, ↓reduceIte, nE, reduceCtorEq, b8_2, sem_or o1]; refine t1.mono ?_; rintro _ _ ⟨rfl, b1, rfl, h1⟩; cases b1 <;> (simp (maxSteps:=9^9) (disch:=omega) only [BX, ↓reduceIte, nE, reduceCtorEq, b8_3, sem_or o2, sem_or o3]; refine t2.mono ?_; rintro _ _ ⟨rfl, b2, rfl, h2⟩; cases b2 <;> (simp (maxSteps:=9^9) (disch:=omega) only [BX, ↓reduceIte, nE, sem_or o4, sem_or o5, sem_or o6, sem_or o7]; exact ⟨_, rfl, _, _, .weak weak_id, lr _, rfl, fin _ _ _ h1 h2 (by decide)⟩)))
end Go.AL.S
namespace Go.AL.S
open Go Go.AL Go.Proofs
def c_appends_0 : AC := (.r [.b 11 (.bin .lss) 10 9] (.seq (.w 11 0) (.seq (.block 1 (.r [.b 12 (.idxp 3) 8 10,.u 13 (.load true 3) 12,.p 6 (.alloc [.bool false,.int .u8 0,.int .u16 0]) [],⟨none,.store 3, [.t 6,.t 13], none⟩] (.r [.u 14 (.fld 0) 6,.u 15 (.load false 1) 14,.u 16 (.un .not) 15,.m 17 16,.U 18 (.fld 1) 6 17 true,.U 19 (.load false 1) 18 17 true,.M 20 1 17 true,.B 21 (.bin .eql) 19 20 17 true,.p 22 .pick [.t 17,.t 21,.F]] (.cond (.t 22) (.reg [.m 23 4,.u 24 (.fld 2) 6,.u 25 (.load false 1) 24,.u 26 (.bslice 1 1 (.int .u16 0) [0]) 25,.b 27 (.append 1 2) 23 26,.m 4 27]) .skip)))) (.reg [.a 28 (.bin .add) 10 1,.m 10 28]))))
def c_appends : AC := (.r [.u 2 .box 0,.v 4 (.nilsl)] (.seq (.r [.u 7 (.fld 2) 2,.u 8 (.load false 1) 7,.u 9 (.len 1 0) 8,.v 10 (.int .i64 0)] (.block 0 (.loop c_appends_0))) (.r [.m 29 4,.m 4 29] .ret)))
theorem ok_appendse : compF Tryz.prog Tryz.f114 ⟨false, false, []⟩ = some (c_appends, [.tmp 4], 30) := by kernel_rfl
variable {E : Env}
def appR (l : List Mi) (k : Int) : List Int := (l.filter fun m => !m.read && decide (m.key = k)).map (·.v)
theorem appR_take {l : List Mi} {i : Nat} (h : i < l.length) (k : Int) : appR (l.take (i + 1)) k = appR (l.take i) k ++ (if (!l[i].read && decide (l[i].key = k)) = true then [l[i].v] else []) := by
 unfold appR
 rw [tao, gEg h, Option.toList_some, List.filter_append, mpp, List.filter_cons]
 split <;> simp
theorem appR_len (l : List Mi) (k : Int) : (appR l k).length ≤ l.length := by simp only [appR, lmp]; exact List.length_filter_le _ _
theorem bsU {W : AW} {K : V → AW → Prop} {a : Int} : sem E (.bslice 1 1 (.int .u16 0) [0]) [.int .u16 a] W K = K (.sl 1 true [.int .u16 a]) W := by
 simp [sem, rsem, tsem, fillE, V.cells]
theorem ints_bel (l : List Int) (n : Nat) : (nowGS 1 (intsV l)).bel n = true := by
 unfold nowGS
 split
 ·rfl
 ·exact belL_ints _ _
theorem appends_c (hP : PE E) (W : AW) {t : Tx} (ht : t.ok) (k : Int) : ACalls E 114 [t.V, .int .u8 k] W fun Y W' => Y = nowGS 1 (intsV (appR t.ms k)) ∧ W' = W := by
 refine ACalls.of hP Tryz.func114 ok_appendse (by simp) fun _ hok => ?_
 refine awp_start hok ?_
 have hms := msV_isMs t.ms
 have hml := ht.msl
 simp (maxSteps:=9^9) (disch:=omega) only [c_appends, BZ, ↓reduceIte, nE, BM, BD, Tx.V, hms.len, lmp]
 rw [e_loop]
 refine alp (fun (i : Nat) A1 W1 => A1 1 = some (.int .u8 k) ∧ A1 8 = some (msV t.ms) ∧ A1 9 = some (.int .i64 t.ms.length) ∧ A1 10 = some (.int .i64 i) ∧ i ≤ t.ms.length ∧ Cl W1 ∧ W.nx < W1.nx ∧ (∀ x, x < W.nx → W1.get x = W.get x) ∧
  ∃ h, A1 4 = some h ∧ nowG W1 h (intsV (appR (t.ms.take i) k)) 1 (W.nx + 1)) (fun i => t.ms.length - i) 0
  ⟨rfl, rfl, rfl, rfl, Nat.zero_le _, Cl.X, by simp [X], fun x hx => X_old hx, .nilsl, rfl, .inl ⟨rfl, rfl⟩⟩ ?_
 rintro i A1 W1 ⟨g1, g8, g9, g10, gk, gC, gn, gW, h, g4, gh⟩ _
 by_cases hk1 : i < t.ms.length
 ·have hrt := appR_take hk1 k
  have hrl := appR_len (t.ms.take i) k
  have hrl' : (t.ms.take i).length ≤ i := by simp; omega
  refine awp_startC gC ?_
  cases hm : (t.ms[i]).read with
  | true =>
   rw [hm, if_neg (by simp), apn] at hrt
   simp (maxSteps:=9^9) (disch:=omega) only [BX, ↓reduceIte, nE, BM, BD, nA, nL, nT, c_appends_0, g8, g9, g10, clt, hk1, dT, hms.idx (mi_at hk1), Mi.V, hm]
   repeat (rw [guard_if]; simp (maxSteps:=9^9) (disch:=omega) only [BS, BC, cond_if, ↓reduceIte, nE, BM, BD, g1, g4, g8, g9, g10, wadd1])
   refine ⟨i + 1, ⟨tt, tt, tt, tt, by omega, Cl.X, by show W.nx < W1.nx + 1; omega, fun x hx => (X_old (by omega)).trans (gW x hx), h, rfl, ?_⟩, by omega, by simp only [rf]; omega⟩
   rw [hrt]
   exact gh.to (by show W1.nx ≤ W1.nx + 1; omega) (fun r _ hr _ => X_old hr)
  | false =>
   by_cases hkk : (t.ms[i]).key = k
   ·rw [hm, hkk, if_pos (by simp)] at hrt
    simp (maxSteps:=9^9) (disch:=omega) only [BX, ↓reduceIte, nE, BM, BD, nA, nL, nT, c_appends_0, g8, g9, g10, clt, hk1, dT, hms.idx (mi_at hk1), Mi.V, hm, hkk]
    repeat (rw [guard_if]; simp (maxSteps:=9^9) (disch:=omega) only [BS, BC, cond_if, ↓reduceIte, nE, BM, BD, g1, g4, cmpeq, dT, bsU])
    refine app_now (lo := W.nx + 1) (gh.to (by show W1.nx ≤ W1.nx + 1; omega) (fun r _ hr _ => X_old hr)) Cl.X (by show W.nx + 1 ≤ W1.nx + 1; omega) (by omega) rfl (by rw [ints_len]; omega) ?_
    intro h' W' gh' gC' gx gk1 gk2
    have gx' : W1.nx + 1 ≤ W'.nx := gx
    simp (maxSteps:=9^9) (disch:=omega) only [BS, ↓reduceIte, nE, g1, g8, g9, g10, wadd1]
    refine ⟨i + 1, ⟨tt, tt, tt, tt, by omega, gC', by omega, fun x hx => (gk2 x (by omega)).trans ((X_old (by omega)).trans (gW x hx)), h', rfl, ?_⟩, by omega, by simp only [rf]; omega⟩
    rw [hrt, intsV, mpp]
    exact gh'
   ·rw [hm, if_neg (by simp [hkk]), apn] at hrt
    simp (maxSteps:=9^9) (disch:=omega) only [BX, ↓reduceIte, nE, BM, BD, nA, nL, nT, c_appends_0, g8, g9, g10, clt, hk1, dT, hms.idx (mi_at hk1), Mi.V, hm]
    repeat (rw [guard_if]; simp (maxSteps:=9^9) (disch:=omega) only [BS, BC, cond_if, ↓reduceIte, nE, BM, BD, g1, g4, g8, g9, g10, cmpeq, hkk, dF, wadd1])
    refine ⟨i + 1, ⟨tt, tt, tt, tt, by omega, Cl.X, by show W.nx < W1.nx + 1; omega, fun x hx => (X_old (by omega)).trans (gW x hx), h, rfl, ?_⟩, by omega, by simp only [rf]; omega⟩
    rw [hrt]
    exact gh.to (by show W1.nx ≤ W1.nx + 1; omega) (fun r _ hr _ => X_old hr)
 ·simp (maxSteps:=9^9) (disch:=omega) only [c_appends_0, BX, ↓reduceIte, nE, BM, BD, g4, g9, g10, clt, hk1, dF]
  have hke : i = t.ms.length := by omega
  subst hke
  rw [tkl] at gh
  rw [gh.frz]
  exact ⟨_, rfl, _, W, .weak (weak_back hok (ints_bel _ _) gW), lr _, rfl, rfl⟩
open Go Go.AL Go.AL.SE Go.Proofs
def c_pAb1 : AC := (.r [.u 2 .box 0,.v 4 (.bool false)] (.r [.m 5 1,.m 6 5,.U 7 (.load true 5) 2 6 true,.U 8 (.call 42) 7 6 true,.U 9 (.un .not) 8 6 true,.p 10 .pick [.t 6,.t 9,.F],.m 4 10] .ret))
theorem ok_pAb1e : compF Tryz.prog Tryz.f113 ⟨false, false, []⟩ = some (c_pAb1, [.tmp 4], 11) := by kernel_rfl
def c_pGa1 : AC := (.r [.u 2 .box 0,.v 4 (.bool false)] (.r [.m 5 1,.u 6 (.un .not) 5,.m 4 6] .ret))
theorem ok_pGa1e : compF Tryz.prog Tryz.f115 ⟨false, false, []⟩ = some (c_pGa1, [.tmp 4], 7) := by kernel_rfl
def c_pFirst_0 : AC := (.r [.b 15 (.bin .lss) 14 13] (.seq (.w 15 0) (.seq (.block 1 (.r [.b 16 (.idxp 1) 12 14,.u 17 (.load false 1) 16,.m 7 17] (.r [.u 19 (.fld 0) 2,.u 20 (.load false 1) 19,.u 21 (.fld 3) 2,.u 22 (.fld 0) 21,.u 23 (.load false 1) 22,.m 24 7,.p 25 (.call 73) [.t 20,.t 23,.t 24],.m 18 25,.u 26 (.ext 0) 18,.u 27 (.ext 1) 18,.p 8 (.alloc [.int .u16 0,.int .u8 0,.nilsl,.nilsl,.int .u8 0]) [],⟨none,.store 5, [.t 8,.t 26], none⟩,.m 9 27] (.r [.m 28 1,.u 29 (.load true 5) 8,.m 30 9,.p 31 .callv [.t 28,.t 29,.t 30]] (.cond (.t 31) (.r [.m 32 7,.m 4 32,.v 5 (.bool true)] .ret) .skip))))) (.reg [.a 33 (.bin .add) 14 1,.m 14 33]))))
def c_pFirst : AC := (.r [.u 2 .box 0,.v 4 (.int .u16 0),.v 5 (.bool false)] (.seq (.r [.u 10 (.fld 3) 2,.u 11 (.fld 1) 10,.u 12 (.load false 1) 11,.u 13 (.len 1 0) 12,.v 14 (.int .i64 0)] (.block 0 (.loop c_pFirst_0))) (.r [.v 4 (.int .u16 0),.v 5 (.bool false)] .ret)))
theorem ok_pFirste : compF Tryz.prog Tryz.f112 ⟨false, false, []⟩ = some (c_pFirst, [.tmp 4, .tmp 5], 34) := by kernel_rfl
def c_pAb : AC := (.r [.u 1 .box 0,.v 2 (.int .u16 0),.v 3 (.bool false)] (.r [.u 4 (.load true 5) 1,.p 5 (.call 112) [.t 4,.f 113],.u 6 (.ext 0) 5,.u 7 (.ext 1) 5,.m 2 6,.m 3 7] .ret))
theorem ok_pAbe : compF Tryz.prog Tryz.f85 ⟨false, false, []⟩ = some (c_pAb, [.tmp 2, .tmp 3], 8) := by kernel_rfl
def c_pGa : AC := (.r [.u 1 .box 0,.v 2 (.int .u16 0),.v 3 (.bool false)] (.r [.u 4 (.load true 5) 1,.p 5 (.call 112) [.t 4,.f 115],.u 6 (.ext 0) 5,.u 7 (.ext 1) 5,.m 2 6,.m 3 7] .ret))
theorem ok_pGae : compF Tryz.prog Tryz.f88 ⟨false, false, []⟩ = some (c_pGa, [.tmp 2, .tmp 3], 8) := by kernel_rfl
def c_pMid : AC := (.r [.u 1 .box 0,.v 2 (.int .u16 0),.v 3 (.bool false)] (.r [.u 9 (.fld 3) 1,.u 10 (.fld 1) 9,.u 11 (.load false 1) 10,.u 12 (.len 1 0) 11,.m 4 12] (.seq (.r [.m 13 4,.a 14 (.bin .eql) 13 0] (.cond (.t 14) (.r [.v 2 (.int .u16 0),.v 3 (.bool false)] .ret) .skip)) (.r [.u 15 (.fld 3) 1,.u 16 (.fld 1) 15,.u 17 (.load false 1) 16,.m 18 4,.a 19 (.bin .sub) 18 1,.b 20 (.idxp 1) 17 19,.u 21 (.load false 1) 20,.m 5 21] (.r [.u 23 (.fld 0) 1,.u 24 (.load false 1) 23,.u 25 (.fld 3) 1,.u 26 (.fld 0) 25,.u 27 (.load false 1) 26,.m 28 5,.p 29 (.call 73) [.t 24,.t 27,.t 28],.m 22 29,.u 30 (.ext 0) 22,.u 31 (.ext 1) 22,.p 6 (.alloc [.int .u16 0,.int .u8 0,.nilsl,.nilsl,.int .u8 0]) [],⟨none,.store 5, [.t 6,.t 30], none⟩,.m 7 31] (.r [.u 32 (.load true 5) 6,.u 33 (.fld 3) 1,.u 34 (.fld 0) 33,.u 35 (.load false 1) 34,.b 36 (.call 114) 32 35,.m 8 36] (.seq (.r [.m 37 7,.u 38 (.un .not) 37,.m 39 38,.U 40 (.load true 5) 6 39 false,.U 41 (.call 42) 40 39 false,.U 42 (.un .not) 41 39 false,.p 43 .pick [.t 39,.T,.t 42],.m 44 43,.U 45 (.fld 0) 6 44 false,.U 46 (.load false 1) 45 44 false,.U 47 (.fld 2) 1 44 false,.U 48 (.load false 1) 47 44 false,.B 49 (.bin .eql) 46 48 44 false,.p 50 .pick [.t 44,.T,.t 49],.m 51 50,.M 52 8 51 false,.M 53 8 51 false,.U 54 (.len 1 0) 53 51 false,.P 55 (.bin .sub) [.t 54,.i 1] 51 false,.B 56 (.idxp 1) 52 55 51 false,.U 57 (.load false 1) 56 51 false,.M 58 5 51 false,.B 59 (.bin .eql) 57 58 51 false,.p 60 .pick [.t 51,.T,.t 59]] (.cond (.t 60) (.r [.v 2 (.int .u16 0),.v 3 (.bool false)] .ret) .skip)) (.r [.m 61 5,.m 2 61,.v 3 (.bool true)] .ret))))))))
theorem ok_pMide : compF Tryz.prog Tryz.f86 ⟨false, false, []⟩ = some (c_pMid, [.tmp 2, .tmp 3], 62) := by kernel_rfl
def c_pAp : AC := (.r [.u 1 .box 0,.v 2 (.int .u16 0),.v 3 (.bool false)] (.seq (.par (.step 0 (.u 4 (.fld 3) 1) (.step 1 (.u 5 (.fld 1) 4) (.step 3 (.u 7 (.fld 1) 1) (.step 5 (.u 9 (.fld 3) 1) (.step 6 (.u 10 (.fld 0) 9) (.step 2 (.u 6 (.load false 1) 5) (.step 4 (.u 8 (.load false 1) 7) (.step 7 (.u 11 (.load false 1) 10) (.step 8 (.b 12 (.pcall 72) 8 11) (.step 9 (.b 13 (.pcall 59) 6 12) (.step 10 (.u 14 (.un .not) 13) (.step 11 (.v 2 (.int .u16 0)) (.step 12 (.m 3 14) .done)))))))))))))) .ret))
theorem ok_pApe : compF Tryz.prog Tryz.f87 ⟨false, false, []⟩ = some (c_pAp, [.tmp 2, .tmp 3], 15) := by kernel_rfl
def c_checks : AC := (.r [.v 0 (.nilsl)] (.r [.p 1 (.build [.int .i64 0,.nilfn] [(0, 1), (1, 1)]) [.i 1,.f 85],.p 2 (.build [.int .i64 0,.nilfn] [(0, 1), (1, 1)]) [.i 2,.f 86],.p 3 (.build [.int .i64 0,.nilfn] [(0, 1), (1, 1)]) [.i 5,.f 87],.p 4 (.build [.int .i64 0,.nilfn] [(0, 1), (1, 1)]) [.i 6,.f 88],.p 5 (.bslice 2 4 (.agg [.int .i64 0,.nilfn]) [0, 1, 2, 3]) [.t 1,.t 2,.t 3,.t 4],.m 0 5] .ret))
theorem ok_checkse : compF Tryz.prog Tryz.f48 ⟨false, false, []⟩ = some (c_checks, [.tmp 0], 6) := by kernel_rfl
structure Flt where
 fl : Int
 id : Int
 key : Int
 v : Int
 deriving DecidableEq
def Flt.V (f : Flt) : V := .agg [.int .u8 f.fl, .int .u16 f.id, .int .u8 f.key, .int .u16 f.v]
def abR (s : Str) (k : Int) (l : List Int) : Option Int := l.find? fun v => (who s k v).isSome && decide (((who s k v).getD Tx.zero).st = 2)
def gaR (s : Str) (k : Int) (l : List Int) : Option Int := l.find? fun v => !(who s k v).isSome
def beR (s : Str) (i k : Int) (l : List Int) : Option Int := match l.getLast? with
 | none => none
 | some v => match who s k v with
  | none => none
  | some t => if t.st = 2 ∨ t.id = i ∨ (appR t.ms k).getLast? = some v then none else some v
def apR (os : Ods) (k : Int) (l : List Int) : Option Int := if begins l (keyO os k) = true then none else some 0
theorem pAb1_c (hP : PE E) (W : AW) (t : Tx) (b : Bool) : ACalls E 113 [t.V, .bool b] W fun Y W' => Y = .bool (b && decide (t.st = 2)) ∧ W' = W := by
 refine ACalls.of hP Tryz.func113 ok_pAb1e (by simp [Tx.V]) fun _ hok => ?_
 refine awp_start hok ?_
 cases b with
 | false =>
  simp (maxSteps:=9^9) (disch:=omega) only [BZ, ↓reduceIte, nE, BM, BD, c_pAb1, Tx.V]
  repeat (rw [guard_if]; simp (maxSteps:=9^9) (disch:=omega) only [BS, BC, ↓reduceIte, nE, BM])
  exact ⟨_, rfl, _, W, backX hok rfl, lr _, rfl, rfl⟩
 | true =>
  simp (maxSteps:=9^9) (disch:=omega) only [BZ, ↓reduceIte, nE, BM, BD, c_pAb1, Tx.V]
  (rw [guard_if]; simp (maxSteps:=9^9) (disch:=omega) only [BS, BC, ↓reduceIte, nE, BM, BD, nA, nL])
  (rw [guard_if]; simp (maxSteps:=9^9) (disch:=omega) only [BS, BC, ↓reduceIte, nE])
  refine pc (alive_c hP _ t) ?_
  have hb : (!decide (t.st ≠ 2)) = decide (t.st = 2) := by by_cases h : t.st = 2 <;> simp [h]
  simp (maxSteps:=9^9) (disch:=omega) only [BS, ]
  repeat (rw [guard_if]; simp (maxSteps:=9^9) (disch:=omega) only [BS, BC, ↓reduceIte, nE, hb])
  exact ⟨_, rfl, _, W, backX hok rfl, lr _, rfl, rfl⟩
theorem pGa1_c (hP : PE E) (W : AW) (t : Tx) (b : Bool) : ACalls E 115 [t.V, .bool b] W fun Y W' => Y = .bool (!b) ∧ W' = W := by
 refine ACalls.of hP Tryz.func115 ok_pGa1e (by simp [Tx.V]) fun _ hok => ?_
 refine awp_start hok ?_
 simp (maxSteps:=9^9) (disch:=omega) only [BZ, ↓reduceIte, nE, BM, BD, c_pGa1, Tx.V]
 exact ⟨_, rfl, _, W, backX hok rfl, lr _, rfl, rfl⟩
theorem find_hit {α : Type} {p : α → Bool} : ∀ {l : List α} {k : Nat} (hk : k < l.length), (∀ j (hj : j < l.length), j < k → p l[j] = false) → p l[k] = true → l.find? p = some l[k]
 | x :: l, 0, _, _, h => by rw [List.find?_cons]; simp only [List.getElem_cons_zero] at h ⊢; rw [h]
 | x :: l, k + 1, hk, hp, h => by
  have h0 := hp 0 (by simp) (by omega)
  simp only [List.getElem_cons_zero] at h0
  rw [List.find?_cons, h0, List.getElem_cons_succ]
  exact find_hit (by simpa using hk) (fun j hj hjk => by have := hp (j + 1) (by simpa using hj) (by omega); simpa using this) (by simpa using h)
theorem find_no {α : Type} {p : α → Bool} {l : List α} (h : ∀ j (hj : j < l.length), p l[j] = false) : l.find? p = none := by
 rw [List.find?_eq_none]
 intro x hx
 obtain ⟨j, hj, rfl⟩ := List.getElem_of_mem hx
 rw [h j hj]; decide
def plV (p q : Nat) (i : Int) (r : Rd) : V := .agg [.ptr p 0, .ptr q 0, .int .u16 i, .int .u8 r.1, elV r.2]
def plC (p q : Nat) (i : Int) (r : Rd) : List V := [.ptr p 0, .ptr q 0, .int .u16 i, .int .u8 r.1, elV r.2]
def optV (o : Option Int) : V := .tuple [.int .u16 (o.getD 0), .bool o.isSome]
structure RdOk (r : Rd) : Prop where
 key : 0 ≤ r.1 ∧ r.1 < 256
 len : (nums r.2).length < 2 ^ 40
 num : ∀ n ∈ nums r.2, 0 ≤ n ∧ n < 65536
theorem first_c (hP : PE E) (W : AW) {p ra rw q : Nat} {s : Str} (hS : St W p ra rw s) (i : Int) {r : Rd} (hr : RdOk r) {f : FuncId} {pr : Tx → Bool → Bool} (hf : ∀ W t b, ACalls E f [t.V, .bool b] W fun Y W' => Y = .bool (pr t b) ∧ W' = W) :
  ACalls E 112 [plV p q i r, .fn (.func f) [] []] W fun Y W' => Y = optV ((nums r.2).find? fun v => pr ((who s r.1 v).getD Tx.zero) (who s r.1 v).isSome) ∧ W' = W := by
 refine ACalls.of hP Tryz.func112 ok_pFirste (by simp [plV]) fun _ hok => ?_
 refine awp_start hok ?_
 have he := (elV_isEl r.2).isS
 have hl := hr.len
 simp (maxSteps:=9^9) (disch:=omega) only [BZ, ↓reduceIte, nE, BM, BD, nA, c_pFirst, plV, he.len, ints_len]
 rw [e_loop]
 refine alp (fun (k : Nat) A1 W1 => A1 1 = some (.fn (.func f) [] []) ∧ A1 2 = some (.ptr (rf W.nx 0) 0) ∧ A1 12 = some (elV r.2) ∧ A1 13 = some (.int .i64 (nums r.2).length) ∧ A1 14 = some (.int .i64 k) ∧ k ≤ (nums r.2).length ∧ Ex W W1 ∧ W.nx < W1.nx ∧ W1.get (rf W.nx 0) = some (.row (plC p q i r)) ∧ ∀ j (hj : j < (nums r.2).length), j < k → pr ((who s r.1 (nums r.2)[j]).getD Tx.zero) (who s r.1 (nums r.2)[j]).isSome = false) (fun k => (nums r.2).length - k) 0
  ⟨rfl, rfl, rfl, rfl, rfl, Nat.zero_le _, .x0, by simp [X_nx, rf], by rw [X_get]; rfl, fun j _ h => by omega⟩ ?_
 rintro k A1 W1 ⟨g1, g2, g12, g13, g14, gk, gE, gn, gr, gp⟩ _
 have r0 : rf W.nx 0 = W.nx := rfl
 by_cases hk : k < (nums r.2).length
 ·have hv := hr.num _ (gmm hk)
  have hat := int_at hk
  have hfh := find_hit (p := fun v => pr ((who s r.1 v).getD Tx.zero) (who s r.1 v).isSome) hk gp
  have hgs : pr ((who s r.1 (nums r.2)[k]).getD Tx.zero) (who s r.1 (nums r.2)[k]).isSome = false → ∀ j (hj : j < (nums r.2).length), j < k + 1 → pr ((who s r.1 (nums r.2)[j]).getD Tx.zero) (who s r.1 (nums r.2)[j]).isSome = false := fun hn j hj hjk => by
   by_cases e : j = k
   ·subst e; exact hn
   ·exact gp j hj (by omega)
  generalize (nums r.2)[k] = v at hv hat hfh hgs
  refine awp_startC gE.cl ?_
  have hX : ∀ l, St (X W1 W1.nx l) p ra rw s := fun l => (hS.ex gE).ex ((Ex.refl gE.cl).X (l := l))
  simp (maxSteps:=9^9) (disch:=omega) only [BX, ↓reduceIte, nE, BM, BD, c_pFirst_0, g2, g12, g13, g14, clt, hk, dT, he.idx hat, gr, plC]
  refine pc (who_c hP _ (hX _) r.1 v hr.key.1 hr.key.2 hv.1 hv.2) ?_
  obtain ⟨t, hte⟩ : ∃ t, t = (who s r.1 v).getD Tx.zero := ⟨_, rfl⟩
  obtain ⟨b, hbe⟩ : ∃ b, b = (who s r.1 v).isSome := ⟨_, rfl⟩
  simp only [← hte, ← hbe] at hfh hgs ⊢
  have hfc := fun W => hf W t b
  simp (maxSteps:=9^9) (disch:=omega) only [BZ, ↓reduceIte, nE, BM, BD, nA, nL, nT, msV_one, lsV_one, Tx.V, g1]
  have hfc := fun W => hf W t b
  simp only [Tx.V] at hfc
  refine pc (hfc _) ?_
  cases hb : pr t b with
  | true =>
   simp (maxSteps:=9^9) (disch:=omega) only [BS, e_seq, cond_if, ↓reduceIte, nE]
   rw [hfh hb]
   exact ⟨_, rfl, _, W, .weak (weak_back hok rfl fun y hy => by rw [X_old (by omega)]; exact gE.get y hy), lr _, rfl, rfl⟩
  | false =>
   simp (maxSteps:=9^9) (disch:=omega) only [BS, BC, cond_if, ↓reduceIte, nE, BM, BD, g1, g2, g12, g13, g14, wadd1]
   exact ⟨k + 1, ⟨tt, tt, tt, tt, tt, hk, gE.X, by simp only [rf]; omega, gr, hgs hb⟩, by omega, by have := gE.nx; simp only [rf]; omega⟩
 ·obtain rfl : k = (nums r.2).length := by omega
  simp (maxSteps:=9^9) (disch:=omega) only [BX, ↓reduceIte, nE, BM, BD, c_pFirst_0, g13, g14, clt, hk, dF]
  rw [find_no fun j hj => gp j hj hj]
  exact ⟨_, rfl, _, W, .weak (weak_back hok rfl gE.get), lr _, rfl, rfl⟩
theorem pAb_c (hP : PE E) (W : AW) {p ra rw q : Nat} {s : Str} (hS : St W p ra rw s) (i : Int) {r : Rd} (hr : RdOk r) : ACalls E 85 [plV p q i r] W fun Y W' => Y = optV (abR s r.1 (nums r.2)) ∧ W' = W := by
 refine ACalls.of hP Tryz.func85 ok_pAbe (by simp [plV]) fun _ hok => ?_
 refine awp_start hok ?_
 have he := (elV_isEl r.2).isS
 have hlp := hS.lp
 have hf := first_c hP (X W W.nx [.row [.ptr p 0, .ptr q 0, .int .u16 i, .int .u8 r.1, elV r.2]]) (q := q) (hS.ex .x0) i hr (pr := fun t b => b && decide (t.st = 2)) (fun W t b => pAb1_c (E := E) hP W t b)
 simp only [plV] at hf
 simp (maxSteps:=9^9) (disch:=omega) only [BZ, ↓reduceIte, nE, BM, BD, nA, nL, c_pAb, plV]
 refine pc hf ?_
 simp (maxSteps:=9^9) (disch:=omega) only [BS, ↓reduceIte, nE, optV]
 exact ⟨_, rfl, _, W, backX hok rfl, lr _, rfl, rfl⟩
theorem pGa_c (hP : PE E) (W : AW) {p ra rw q : Nat} {s : Str} (hS : St W p ra rw s) (i : Int) {r : Rd} (hr : RdOk r) : ACalls E 88 [plV p q i r] W fun Y W' => Y = optV (gaR s r.1 (nums r.2)) ∧ W' = W := by
 refine ACalls.of hP Tryz.func88 ok_pGae (by simp [plV]) fun _ hok => ?_
 refine awp_start hok ?_
 have he := (elV_isEl r.2).isS
 have hlp := hS.lp
 have hf := first_c hP (X W W.nx [.row [.ptr p 0, .ptr q 0, .int .u16 i, .int .u8 r.1, elV r.2]]) (q := q) (hS.ex .x0) i hr (pr := fun t b => !b) (fun W t b => pGa1_c (E := E) hP W t b)
 simp only [plV] at hf
 simp (maxSteps:=9^9) (disch:=omega) only [BZ, ↓reduceIte, nE, BM, BD, nA, nL, c_pGa, plV]
 refine pc hf ?_
 simp (maxSteps:=9^9) (disch:=omega) only [BS, ↓reduceIte, nE, optV]
 exact ⟨_, rfl, _, W, backX hok rfl, lr _, rfl, rfl⟩
theorem pAp_c (hP : PE E) (W : AW) {p q : Nat} {os : Ods} (hO : Od W q os) (i : Int) {r : Rd} (hr : RdOk r) : ACalls E 87 [plV p q i r] W fun Y W' => Y = optV (apR os r.1 (nums r.2)) ∧ W' = W := by
 refine ACalls.of hP Tryz.func87 ok_pApe (by simp [plV]) fun _ hok => ?_
 refine awp_start hok ?_
 have he := (elV_isEl r.2).isS
 have ho := oV_isS (keyO os r.1)
 have hlq := hO.lq
 simp (maxSteps:=9^9) (disch:=omega) only [BZ, ↓reduceIte, nE, BM, BD, nA, c_pAp, plV]
 refine pcall_go rfl (of_c' hP _ (hO.ex .x0) r.1 hr.key.1 hr.key.2) ?_
 simp (maxSteps:=9^9) (disch:=omega) only [BS, ↓reduceIte, nE, ]
 refine pcall_go (by simp only [mcs, List.map_nil, he.frz, ho.frz]) (begins_c hP _ he ho hr.len) ?_
 have hb : ∀ b : Bool, (b = begins (nums r.2) (keyO os r.1)) → V.tuple [.int .u16 0, .bool (!b)] = optV (apR os r.1 (nums r.2)) := fun b hb => by
  rw [apR, ← hb]; cases b <;> rfl
 simp (maxSteps:=9^9) (disch:=omega) only [BS, ↓reduceIte, nE, ]
 exact ⟨_, rfl, _, W, backX hok rfl, lr _, hb _ rfl, rfl⟩
theorem app_has {t : Tx} {k v : Int} (h : S.has t k v = true) : appR t.ms k ≠ [] := by
 intro e
 simp only [S.has, aet] at h
 obtain ⟨m, hm, hh⟩ := h
 have : v ∈ appR t.ms k := by
  refine List.mem_map.2 ⟨m, List.mem_filter.2 ⟨hm, ?_⟩, ?_⟩ <;> simp_all
 rw [e] at this; cases this
theorem pMid_c (hP : PE E) (W : AW) {p ra rw q : Nat} {s : Str} (hS : St W p ra rw s) (i : Int) {r : Rd} (hr : RdOk r) : ACalls E 86 [plV p q i r] W fun Y W' => Y = optV (beR s i r.1 (nums r.2)) ∧ W' = W := by
 refine ACalls.of hP Tryz.func86 ok_pMide (by simp [plV]) fun _ hok => ?_
 refine awp_start hok ?_
 have he := (elV_isEl r.2).isS
 have hlp := hS.lp
 have hl := hr.len
 obtain ⟨l, hle⟩ : ∃ l, l = nums r.2 := ⟨_, rfl⟩
 rw [← hle] at he hl ⊢
 rcases List.eq_nil_or_concat l with rfl | ⟨l0, v, rfl⟩
 ·have h0 : ((((intsV []).length : Nat) : Int) == 0) = true := rfl
  simp (maxSteps:=9^9) (disch:=omega) only [BX, ↓reduceIte, nE, BM, BD, nA, c_pMid, plV, he.len, h0]
  exact ⟨_, rfl, _, W, backX hok rfl, lr _, rfl, rfl⟩
 ·have h0 : ((((intsV (l0.concat v)).length : Nat) : Int) == 0) = false := by simp [intsV]; omega
  have hlen : (intsV (l0.concat v)).length = l0.length + 1 := by simp [intsV]
  have hlt : l0.length < 2 ^ 40 := by rw [List.length_concat] at hl; omega
  have hpr := wpred (k := l0.length) (by omega)
  have hat : (intsV (l0.concat v))[l0.length]? = some (.int .u16 v) := by simp [intsV]
  have hv : 0 ≤ v ∧ v < 65536 := hr.num v (by rw [← hle]; simp)
  have hX : ∀ l, St (X W W.nx l) p ra rw s := fun l => hS.ex .x0
  have hgl : (l0.concat v).getLast? = some v := by simp
  rw [hlen] at h0
  simp (maxSteps:=9^9) (disch:=omega) only [BX, ↓reduceIte, nE, BM, BD, nA, c_pMid, plV, he.len, hlen, h0, hpr, he.idx hat]
  refine pc (who_c hP _ (hX _) r.1 v hr.key.1 hr.key.2 hv.1 hv.2) ?_
  cases hw : who s r.1 v with
  | none =>
   have hap := fun W => appends_c (E := E) hP W (t := Tx.zero) (by constructor <;> simp [Tx.zero]) r.1
   simp only [Tx.V] at hap
   simp (maxSteps:=9^9) (disch:=omega) only [BZ, ↓reduceIte, nE, BM, BD, nA, nL, nT, msV_one, lsV_one, Tx.V, Option.getD_none, Option.isSome_none]
   refine pc (hap _) ?_
   simp (maxSteps:=9^9) (disch:=omega) only [BS, e_seq, ↓reduceIte, nE, BD]
   repeat (rw [guard_if]; simp (maxSteps:=9^9) (disch:=omega) only [BX, ↓reduceIte, nE, BM])
   exact ⟨_, rfl, _, W, backX hok rfl, lr _, by simp [beR, hw, optV], rfl⟩
  | some t =>
   obtain ⟨ht1, ht2⟩ := who_mem hw
   have hto := hS.ok.ok t ht1
   have hne := app_has ht2
   have hap := fun W => appends_c (E := E) hP W hto r.1
   have hal := fun W => alive_c (E := E) hP W t
   simp only [Tx.V] at hap hal
   have hms := nowGS_S 1 (intsV (appR t.ms r.1))
   obtain ⟨L0, w, hL⟩ : ∃ (L0 : List Int) (w : Int), appR t.ms r.1 = L0.concat w := (List.eq_nil_or_concat _).resolve_left hne
   have hLl : (intsV (appR t.ms r.1)).length = L0.length + 1 := by rw [hL]; simp [intsV]
   have hLt : L0.length < 2 ^ 40 := by
    have h1 := appR_len t.ms r.1
    have := hto.msl
    rw [hL, List.length_concat] at h1
    omega
   have hpr2 := wpred (k := L0.length) (by omega)
   have hat2 : (intsV (appR t.ms r.1))[L0.length]? = some (.int .u16 w) := by rw [hL]; simp [intsV]
   have hgl2 : (appR t.ms r.1).getLast? = some w := by rw [hL]; simp
   have hbe : beR s i r.1 (l0.concat v) = if t.st = 2 ∨ t.id = i ∨ w = v then none else some v := by
    simp only [beR, hgl, hw, hgl2, Option.some.injEq]
   rw [hbe]
   simp (maxSteps:=9^9) (disch:=omega) only [BZ, ↓reduceIte, nE, BM, BD, nA, nL, nT, msV_one, lsV_one, Tx.V, Option.getD_some, Option.isSome_some]
   refine pc (hap _) ?_
   simp (maxSteps:=9^9) (disch:=omega) only [BS, e_seq, ↓reduceIte, nE, BD]
   repeat (rw [guard_if]; simp (maxSteps:=9^9) (disch:=omega) only [BS, BC, ↓reduceIte, nE, BM, BD, nA, nL])
   refine pc (hal _) ?_
   by_cases h2 : t.st = 2
   ·have e2 : decide (t.st ≠ 2) = false := by simp [h2]
    simp (maxSteps:=9^9) (disch:=omega) only [BS, e2]
    repeat (rw [guard_if]; simp (maxSteps:=9^9) (disch:=omega) only [BX, ↓reduceIte, nE, BM, BD])
    exact ⟨_, rfl, _, W, backX hok rfl, lr _, by rw [if_pos (.inl h2)]; rfl, rfl⟩
   ·have e2 : decide (t.st ≠ 2) = true := by simp [h2]
    by_cases hi : t.id = i
    ·have e3 : (t.id == i) = true := by simp [hi]
     simp (maxSteps:=9^9) (disch:=omega) only [BS, e2]
     repeat (rw [guard_if]; simp (maxSteps:=9^9) (disch:=omega) only [BX, ↓reduceIte, nE, BM, BD, e3])
     exact ⟨_, rfl, _, W, backX hok rfl, lr _, by rw [if_pos (.inr (.inl hi))]; rfl, rfl⟩
    ·have e3 : (t.id == i) = false := by simp [hi]
     by_cases hwv : w = v
     ·have e4 : (w == v) = true := by simp [hwv]
      simp (maxSteps:=9^9) (disch:=omega) only [BS, e2]
      repeat (rw [guard_if]; simp (maxSteps:=9^9) (disch:=omega) only [BX, ↓reduceIte, nE, BM, BD, e3, hms.len, hLl, hpr2, hms.idx hat2, e4])
      exact ⟨_, rfl, _, W, backX hok rfl, lr _, by rw [if_pos (.inr (.inr hwv))]; rfl, rfl⟩
     ·have e4 : (w == v) = false := by simp [hwv]
      simp (maxSteps:=9^9) (disch:=omega) only [BS, e2]
      repeat (rw [guard_if]; simp (maxSteps:=9^9) (disch:=omega) only [BX, ↓reduceIte, nE, BM, BD, e3, hms.len, hLl, hpr2, hms.idx hat2, e4])
      exact ⟨_, rfl, _, W, backX hok rfl, lr _, by rw [if_neg (by rintro (h | h | h) <;> contradiction)]; rfl, rfl⟩
def chkV : V := .sl 2 true [.agg [.int .i64 1, .fn (.func 85) [] []], .agg [.int .i64 2, .fn (.func 86) [] []], .agg [.int .i64 5, .fn (.func 87) [] []], .agg [.int .i64 6, .fn (.func 88) [] []]]
theorem checks_c (hP : PE E) (W : AW) : ACalls E 48 [] W fun Y W' => Y = chkV ∧ W' = W := by
 refine ACalls.of hP Tryz.func48 ok_checkse (by simp) fun _ hok => ?_
 have hb : ∀ (W : AW) (K : V → AW → Prop) (a b c d : Int) (f1 f2 f3 f4 : FuncId), sem E (.bslice 2 4 (.agg [.int .i64 0, .nilfn]) [0, 1, 2, 3]) [.agg [.int .i64 a, .fn (.func f1) [] []], .agg [.int .i64 b, .fn (.func f2) [] []], .agg [.int .i64 c, .fn (.func f3) [] []], .agg [.int .i64 d, .fn (.func f4) [] []]] W K = K (.sl 2 true [.agg [.int .i64 a, .fn (.func f1) [] []], .agg [.int .i64 b, .fn (.func f2) [] []], .agg [.int .i64 c, .fn (.func f3) [] []], .agg [.int .i64 d, .fn (.func f4) [] []]]) W := by
  intro W K a b c d f1 f2 f3 f4
  simp [sem, rsem, tsem, fillE, V.cells]
 simp (maxSteps:=9^9) (disch:=omega) only [BZ, ↓reduceIte, nE, BM, BD, nA, nL, c_checks, hb]
 exact ⟨_, rfl, _, _, .weak weak_id, lr _, rfl, rfl⟩
def c_faults_1 : AC := (.r [.b 38 (.bin .lss) 37 36] (.seq (.w 38 4) (.seq (.block 5 (.r [.b 39 (.idxp 2) 35 37,.u 40 (.load true 2) 39,.p 10 (.alloc [.int .i64 0,.nilfn]) [],⟨none,.store 2, [.t 10,.t 40], none⟩] (.r [.u 42 (.fld 1) 10,.u 43 (.load false 1) 42,.u 44 (.load true 5) 8,.b 45 .callv 43 44,.m 41 45,.u 46 (.ext 0) 41,.u 47 (.ext 1) 41,.m 11 46,.m 12 47] (.r [.m 48 12] (.cond (.t 48) (.par (.step 1 (.u 50 (.fld 0) 10) (.step 4 (.u 53 (.fld 0) 5) (.step 6 (.u 55 (.fld 0) 7) (.step 8 (.m 57 11) (.step 0 (.u 49 (.load false 1) 4) (.step 2 (.u 51 (.load false 1) 50) (.step 3 (.p 52 (.bin .shl) [.c (.int .u8 1),.t 51]) (.step 5 (.u 54 (.load false 1) 53) (.step 7 (.u 56 (.load false 1) 55) (.step 9 (.p 58 (.build [.int .u8 0,.int .u16 0,.int .u8 0,.int .u16 0] [(0, 1), (1, 1), (2, 1), (3, 1)]) [.t 52,.t 54,.t 56,.t 57]) (.step 10 (.u 59 (.bslice 4 1 (.agg [.int .u8 0,.int .u16 0,.int .u8 0,.int .u16 0]) [0]) 58) (.step 11 (.b 60 (.append 4 8) 49 59) (.step 12 ⟨none,.store 1, [.t 4,.t 60], none⟩ .done)))))))))))))) .skip))))) (.reg [.a 61 (.bin .add) 37 1,.m 37 61]))))
def c_faults_0 : AC := (.r [.b 26 (.bin .lss) 25 24] (.seq (.w 26 2) (.seq (.block 3 (.r [.b 27 (.idxp 2) 23 25,.u 28 (.load true 2) 27,.p 7 (.alloc [.int .u8 0,.nilsl]) [],⟨none,.store 2, [.t 7,.t 28], none⟩] (.r [.u 29 (.load false 1) 2,.u 30 (.load false 1) 3,.u 31 (.fld 0) 5,.u 32 (.load false 1) 31,.u 33 (.load true 2) 7,.p 34 (.build [.nilptr,.nilptr,.int .u16 0,.int .u8 0,.nilsl] [(0, 1), (1, 1), (2, 1), (3, 2)]) [.t 29,.t 30,.t 32,.t 33],.p 8 (.alloc [.nilptr,.nilptr,.int .u16 0,.int .u8 0,.nilsl]) [],⟨none,.store 5, [.t 8,.t 34], none⟩] (.r [.p 35 (.call 48) [],.u 36 (.len 1 0) 35,.v 37 (.int .i64 0)] (.block 4 (.loop c_faults_1)))))) (.reg [.a 62 (.bin .add) 25 1,.m 25 62]))))
def c_faults : AC := (.r [.u 2 .box 0,.u 3 .box 1,.p 4 (.alloc [.nilsl]) []] (.seq (.r [.u 13 (.load false 1) 2,.p 14 (.eqn false 0) [.t 13,.c (.nilptr)],.m 15 14,.U 16 (.load false 1) 3 15 false,.P 17 (.eqn false 0) [.t 16,.c (.nilptr)] 15 false,.p 18 .pick [.t 15,.T,.t 17]] (.cond (.t 18) (.r [⟨none,.store 1, [.t 4,.c (.nilsl)], none⟩] .ret) .skip)) (.seq (.r [.u 19 (.load false 1) 2,.u 20 (.call 41) 19] (.block 0 (.rangef (.t 20) [21] (.reg [.p 5 (.alloc [.int .u16 0,.int .u8 0,.nilsl,.nilsl,.int .u8 0]) [],⟨none,.store 5, [.t 5,.t 21], none⟩]) (.block 1 (.r [.u 22 (.load true 5) 5,.u 23 (.call 32) 22,.u 24 (.len 1 0) 23,.v 25 (.int .i64 0)] (.block 2 (.loop c_faults_0))))))) (.r [.u 63 (.load false 1) 4,⟨none,.store 1, [.t 4,.t 63], none⟩] .ret))))
theorem ok_faultse : compF Tryz.prog Tryz.f17 ⟨false, false, []⟩ = some (c_faults, [.cell 4 false 1], 64) := by kernel_rfl
def chkR (s : Str) (os : Ods) (i : Int) (r : Rd) : Nat → Option Int
 | 0 => abR s r.1 (nums r.2)
 | 1 => beR s i r.1 (nums r.2)
 | 2 => apR os r.1 (nums r.2)
 | _ => gaR s r.1 (nums r.2)
def flC : Nat → Int
 | 0 => 2
 | 1 => 4
 | 2 => 32
 | _ => 64
def bitC : Nat → Int
 | 0 => 1
 | 1 => 2
 | 2 => 5
 | _ => 6
def fnC : Nat → FuncId
 | 0 => 85
 | 1 => 86
 | 2 => 87
 | _ => 88
def fltC (s : Str) (os : Ods) (i : Int) (r : Rd) (c : Nat) : List Flt := match chkR s os i r c with
 | some v => [⟨flC c, i, r.1, v⟩]
 | none => []
def fltR (s : Str) (os : Ods) (i : Int) (r : Rd) : List Flt := (List.range 4).flatMap (fltC s os i r)
def faultsR (s : Str) (os : Ods) : List Flt := s.flatMap fun t => (readsR t).flatMap (fltR s os t.id)
theorem fltC_len (s : Str) (os : Ods) (i : Int) (r : Rd) (c : Nat) : (fltC s os i r c).length ≤ 1 := by unfold fltC; split <;> simp
theorem fltR_len (s : Str) (os : Ods) (i : Int) (r : Rd) : (fltR s os i r).length ≤ 4 := by
 have := flat_len (f := fltC s os i r) (n := 1) (l := List.range 4) fun c _ => fltC_len s os i r c
 simpa [fltR] using this
theorem chkA_c (hP : PE E) (W : AW) {p ra rw q : Nat} {s : Str} {os : Ods} (hS : St W p ra rw s) (hO : Od W q os) (i : Int) {r : Rd} (hr : RdOk r) (c : Nat) : ACalls E (fnC c) [plV p q i r] W fun Y W' => Y = optV (chkR s os i r c) ∧ W' = W := by
 match c with
 | 0 => exact pAb_c hP W hS i hr
 | 1 => exact pMid_c hP W hS i hr
 | 2 => exact pAp_c hP W hO i hr
 | c + 3 => exact pGa_c hP W hS i hr
theorem shlC (c : Nat) {W : AW} {K : V → AW → Prop} : sem E (.bin .shl) [.int .u8 1, .int .i64 (bitC c)] W K = K (.int .u8 (flC c)) W := by
 have h : ∀ n m : Int, 0 ≤ n → IntKind.u8.wrap (1 * 2 ^ (min n.toNat 8)) = m → sem E (.bin .shl) [.int .u8 1, .int .i64 n] W K = K (.int .u8 m) W := fun n m h0 h => by
  have : shI .shl .u8 1 n = some (.int .u8 m) := by simp only [shI, if_pos h0]; rw [← h]; rfl
  simp [sem, rsem, tsem, this]
 match c with
 | 0 => exact h 1 2 (by decide) (by decide)
 | 1 => exact h 2 4 (by decide) (by decide)
 | 2 => exact h 5 32 (by decide) (by decide)
 | c + 3 => exact h 6 64 (by decide) (by decide)
theorem chk_at {c : Nat} (h : c < 4) : ([.agg [.int .i64 1, .fn (.func 85) [] []], .agg [.int .i64 2, .fn (.func 86) [] []], .agg [.int .i64 5, .fn (.func 87) [] []], .agg [.int .i64 6, .fn (.func 88) [] []]] : List V)[c]? = some (.agg [.int .i64 (bitC c), .fn (.func (fnC c)) [] []]) := by
 match c, h with
 | 0, _ => rfl
 | 1, _ => rfl
 | 2, _ => rfl
 | 3, _ => rfl
theorem bsF {W : AW} {K : V → AW → Prop} {a b c d : Int} : sem E (.bslice 4 1 (.agg [.int .u8 0, .int .u16 0, .int .u8 0, .int .u16 0]) [0]) [.agg [.int .u8 a, .int .u16 b, .int .u8 c, .int .u16 d]] W K = K (.sl 4 true [Flt.V ⟨a, b, c, d⟩]) W := by
 simp [sem, rsem, tsem, fillE, V.cells, Flt.V]
theorem Flt.ones (f : Flt) : f.V.cells.all V.one = true := rfl
structure Fk (W W' : AW) (b4 lo : Nat) : Prop where
 cl : Cl W'
 nx : W.nx ≤ W'.nx
 get : ∀ x, x < W.nx → x ≠ b4 → (x < lo ∨ ∀ ys, W.get x ≠ some (.buf true 4 ys)) → W'.get x = W.get x
theorem Fk.refl {W : AW} (h : Cl W) (b4 lo : Nat) : Fk W W b4 lo := ⟨h, lr _, fun _ _ _ _ => rfl⟩
theorem Fk.trans {W W1 W2 : AW} {b4 lo : Nat} (a : Fk W W1 b4 lo) (b : Fk W1 W2 b4 lo) : Fk W W2 b4 lo :=
 ⟨b.cl, Nat.le_trans a.nx b.nx, fun x hx h1 h2 => by
  have e := a.get x hx h1 h2
  rw [b.get x (by have := a.nx; omega) h1 (by rw [e]; exact h2), e]⟩
theorem Fk.ofX {W : AW} (_ : Cl W) (l : List AObj) (b4 lo : Nat) : Fk W (X W W.nx l) b4 lo := ⟨Cl.X, by simp only [X_nx, rf]; omega, fun x hx _ _ => X_old hx⟩
structure Sl (W : AW) (p ra rw q : Nat) (s : Str) (os : Ods) (b4 lo : Nat) : Prop where
 st : St W p ra rw s
 od : Od W q os
 lt : p < lo ∧ ra < lo ∧ rw < lo ∧ q < lo
 ne : p ≠ b4 ∧ ra ≠ b4 ∧ rw ≠ b4 ∧ q ≠ b4
theorem Sl.to {W W' : AW} {p ra rw q b4 lo : Nat} {s : Str} {os : Ods} (h : Sl W p ra rw q s os b4 lo) (f : Fk W W' b4 lo) : Sl W' p ra rw q s os b4 lo := by
 obtain ⟨l1, l2, l3, l4⟩ := h.lt
 obtain ⟨n1, n2, n3, n4⟩ := h.ne
 exact ⟨h.st.by f.nx (f.get _ h.st.lp n1 (.inl l1)) (f.get _ h.st.la n2 (.inl l2)) (f.get _ h.st.lw n3 (.inl l3)), h.od.by f.nx (f.get _ h.od.lq n4 (.inl l4)), h.lt, h.ne⟩
theorem chk_go (hP : PE E) {W : AW} {p ra rw q b2 b3 b4 b5 b7 b8 lo : Nat} {s : Str} {os : Ods} (hS : Sl W p ra rw q s os b4 lo) {t : Tx} {r : Rd} (hr : RdOk r) {acc : List Flt} {h v23 v24 v25 : V} (hC : Cl W) (hlo : lo ≤ W.nx) (hb4 : b4 < lo) (hb5 : b5 < W.nx ∧ b5 ≠ b4) (hb7 : b7 < W.nx ∧ b7 ≠ b4) (hb8 : b8 < W.nx ∧ b8 ≠ b4) (h4 : W.get b4 = some (.row [h])) (hnow : nowG W h (acc.map Flt.V) 4 lo)
  (h5 : W.get b5 = some (.row [.int .u16 t.id, .int .u8 t.client, msV t.ms, lsV t.ls, .int .u8 t.st])) (h7 : W.get b7 = some (.row [.int .u8 r.1, elV r.2])) (h8 : W.get b8 = some (.row (plC p q t.id r))) (hal : acc.length < 2 ^ 40) {A : AFr} {Q : Exit → AFr → AW → Prop}
  (a2 : A 2 = some (.ptr b2 0)) (a3 : A 3 = some (.ptr b3 0)) (a4 : A 4 = some (.ptr b4 0)) (a5 : A 5 = some (.ptr b5 0)) (a7 : A 7 = some (.ptr b7 0)) (a8 : A 8 = some (.ptr b8 0)) (a23 : A 23 = some v23) (a24 : A 24 = some v24) (a25 : A 25 = some v25) (a35 : A 35 = some chkV) (a36 : A 36 = some (.int .i64 4)) (a37 : A 37 = some (.int .i64 0))
  (hQ : ∀ A' W' h', A' 2 = some (.ptr b2 0) → A' 3 = some (.ptr b3 0) → A' 4 = some (.ptr b4 0) → A' 5 = some (.ptr b5 0) → A' 23 = some v23 → A' 24 = some v24 → A' 25 = some v25 → Fk W W' b4 lo → W'.get b4 = some (.row [h']) → nowG W' h' ((acc ++ fltR s os t.id r).map Flt.V) 4 lo → Q (.exit 4) A' W') : awp E (.loop c_faults_1) Q A W := by
 rw [e_loop]
 refine alp (fun (c : Nat) A1 W1 => A1 2 = some (.ptr b2 0) ∧ A1 3 = some (.ptr b3 0) ∧ A1 4 = some (.ptr b4 0) ∧ A1 5 = some (.ptr b5 0) ∧ A1 7 = some (.ptr b7 0) ∧ A1 8 = some (.ptr b8 0) ∧ A1 23 = some v23 ∧ A1 24 = some v24 ∧ A1 25 = some v25 ∧ A1 35 = some chkV ∧ A1 36 = some (.int .i64 4) ∧ A1 37 = some (.int .i64 c) ∧ c ≤ 4 ∧ Fk W W1 b4 lo ∧ ∃ h1, W1.get b4 = some (.row [h1]) ∧ nowG W1 h1 ((acc ++ (List.range c).flatMap (fltC s os t.id r)).map Flt.V) 4 lo) (fun c => 4 - c) 0
  ⟨a2, a3, a4, a5, a7, a8, a23, a24, a25, a35, a36, a37, by omega, Fk.refl hC _ _, h, h4, by simpa using hnow⟩ ?_
 rintro c A1 W1 ⟨g2, g3, g4, g5, g7, g8, g23, g24, g25, g35, g36, g37, gc, gF, h1, k4, gnow⟩ _
 by_cases hc : c < 4
 ·have hc' : decide ((c : Int) < 4) = true := by simp; omega
  have hnx := gF.nx
  have e5 : W1.get b5 = some (.row [.int .u16 t.id, .int .u8 t.client, msV t.ms, lsV t.ls, .int .u8 t.st]) := by rw [gF.get _ hb5.1 hb5.2 (.inr fun ys => by rw [h5]; simp)]; exact h5
  have e7 : W1.get b7 = some (.row [.int .u8 r.1, elV r.2]) := by rw [gF.get _ hb7.1 hb7.2 (.inr fun ys => by rw [h7]; simp)]; exact h7
  have e8 : W1.get b8 = some (.row [.ptr p 0, .ptr q 0, .int .u16 t.id, .int .u8 r.1, elV r.2]) := by rw [gF.get _ hb8.1 hb8.2 (.inr fun ys => by rw [h8]; simp)]; exact h8
  have l5 : b5 < W1.nx := by omega
  have l7 : b7 < W1.nx := by omega
  have l8 : b8 < W1.nx := by omega
  have l4 : b4 < W1.nx := by omega
  have hst : (List.range (c + 1)).flatMap (fltC s os t.id r) = (List.range c).flatMap (fltC s os t.id r) ++ fltC s os t.id r c := by rw [List.range_succ, List.flatMap_append]; simp [List.flatMap]
  have hcl : ((List.range c).flatMap (fltC s os t.id r)).length ≤ c := by
   have := flat_len (f := fltC s os t.id r) (n := 1) (l := List.range c) fun c _ => fltC_len s os t.id r c
   simpa using this
  refine awp_startC gF.cl ?_
  have hFX : ∀ l, Fk W (X W1 W1.nx l) b4 lo := fun l => gF.trans (Fk.ofX gF.cl l b4 lo)
  have hca := fun l => chkA_c (E := E) hP (X W1 W1.nx l) (hS.to (hFX l)).st (hS.to (hFX l)).od t.id hr c
  simp only [plV] at hca
  have hat := chk_at hc
  have hfz := (elV_isEl r.2).isS.frz (W := X W1 W1.nx [.row [.int .i64 (bitC c), .fn (.func (fnC c)) [] []]])
  simp (maxSteps:=9^9) (disch:=omega) only [BX, ↓reduceIte, nE, BM, BD, nA, nL, nT, c_faults_1, chkV, g8, g35, g36, g37, hc', hat, e8]
  refine pc (hca _) ?_
  cases hch : chkR s os t.id r c with
  | none =>
   have hfc : fltC s os t.id r c = [] := by rw [fltC, hch]
   simp (maxSteps:=9^9) (disch:=omega) only [BX, ↓reduceIte, nE, BM, BD, optV, Option.getD_none, Option.isSome_none, g2, g3, g4, g5, g7, g8, g23, g24, g25, g35, g36, g37, wadd1]
   refine ⟨c + 1, ⟨tt, tt, tt, tt, tt, tt, tt, tt, tt, tt, tt, tt, hc, hFX _, h1, k4, ?_⟩, by omega, by simp only [rf]; omega⟩
   rw [hst, hfc, apn]
   exact gnow.to (by simp only [X_nx, rf]; omega) fun r _ hr _ => X_old hr
  | some v =>
   have hfc : fltC s os t.id r c = [⟨flC c, t.id, r.1, v⟩] := by rw [fltC, hch]
   simp (maxSteps:=9^9) (disch:=omega) only [BX, ↓reduceIte, nE, BM, BD, nA, nL, optV, Option.getD_some, Option.isSome_some, g4, g5, g7, e5, e7, k4, shlC, bsF]
   refine app_now (lo := lo) (gnow.to (by simp only [X_nx, rf]; omega) fun r _ hr _ => X_old hr) Cl.X (by simp only [X_nx, rf]; omega) (by omega) (Flt.ones _) (by rw [lmp, lap]; omega) ?_
   intro h' W' gh' gC' gx gk1 gk2
   have gx' : W1.nx + 1 ≤ W'.nx := gx
   have hh : h'.cells = [h'] ∧ h'.one = true := by
    rcases gh' with ⟨rfl, _⟩ | ⟨_, _, _, rfl, _⟩ <;> exact ⟨rfl, rfl⟩
   have k4' : W'.get b4 = some (.row [h1]) := by rw [gk2 b4 hb4, X_old l4]; exact k4
   simp (maxSteps:=9^9) (disch:=omega) only [BS, ↓reduceIte, nE, BM, BD, nL, g2, g3, g4, g5, g7, g8, g23, g24, g25, g35, g36, g37, k4', hh.1, hh.2, wadd1]
   have hb4' : b4 < W'.nx := by omega
   refine ⟨c + 1, ⟨tt, tt, tt, tt, tt, tt, tt, tt, tt, tt, tt, tt, hc, ⟨gC'.put hb4', by rw [put_nx]; omega, fun x hx hxb hxc => ?_⟩, h', put_at, ?_⟩, by omega, by rw [put_nx]; omega⟩
   ·have e1 := gF.get x hx hxb hxc
    rw [put_ne hxb]
    have hxx : (X W1 W1.nx [.row [.int .i64 (bitC c), .fn (.func (fnC c)) [] []]]).get x = W1.get x := X_old (by omega)
    rcases hxc with hxl | hxn
    ·rw [gk2 x hxl, hxx, e1]
    ·rw [gk1 x (by simp only [X_nx, rf]; omega) (fun ys => by rw [hxx, e1]; exact hxn ys), hxx, e1]
   ·rw [hst, hfc, ← List.append_assoc, mpp]
    exact gh'.to (by rw [put_nx]; exact lr _) fun r h1 h2 _ => put_ne (by omega)
 ·obtain rfl : c = 4 := by omega
  have hc' : decide (((4 : Nat) : Int) < 4) = false := by decide
  simp (maxSteps:=9^9) (disch:=omega) only [BX, ↓reduceIte, c_faults_1, g36, g37, hc']
  exact hQ _ _ h1 g2 g3 g4 g5 g23 g24 g25 gF k4 gnow
theorem rd_ok {t : Tx} (ht : t.ok) {r : Rd} (hr : r ∈ readsR t) : RdOk r := by
 obtain ⟨h1, h2⟩ := readsR_nums ht r hr
 exact ⟨readsR_key ht.ms r hr, by omega, h2⟩
theorem frds_go (hP : PE E) {W : AW} {p ra rw q b2 b3 b4 b5 lo : Nat} {s : Str} {os : Ods} (hS : Sl W p ra rw q s os b4 lo) {t : Tx} (ht : t.ok) {acc : List Flt} {h : V} (hC : Cl W) (hlo : lo ≤ W.nx) (hb4 : b4 < lo) (hb5 : b5 < W.nx ∧ b5 ≠ b4) (hb2 : b2 < lo ∧ b2 ≠ b4) (hb3 : b3 < lo ∧ b3 ≠ b4) (h4 : W.get b4 = some (.row [h])) (hnow : nowG W h (acc.map Flt.V) 4 lo)
  (h2 : W.get b2 = some (.row [.ptr p 0])) (h3 : W.get b3 = some (.row [.ptr q 0])) (h5 : W.get b5 = some (.row [.int .u16 t.id, .int .u8 t.client, msV t.ms, lsV t.ls, .int .u8 t.st])) (hal : acc.length < 2 ^ 30) {A : AFr} {Q : Exit → AFr → AW → Prop}
  (a2 : A 2 = some (.ptr b2 0)) (a3 : A 3 = some (.ptr b3 0)) (a4 : A 4 = some (.ptr b4 0)) (a5 : A 5 = some (.ptr b5 0)) (a23 : A 23 = some (nowGS 2 ((readsR t).map rdV))) (a24 : A 24 = some (.int .i64 (readsR t).length)) (a25 : A 25 = some (.int .i64 0))
  (hQ : ∀ A' W' h', Fk W W' b4 lo → W'.get b4 = some (.row [h']) → nowG W' h' ((acc ++ (readsR t).flatMap (fltR s os t.id)).map Flt.V) 4 lo → Q (.exit 2) A' W') : awp E (.loop c_faults_0) Q A W := by
 have hs := nowGS_S 2 ((readsR t).map rdV)
 have hl8 := readsR_len ht
 rw [e_loop]
 refine alp (fun (k : Nat) A1 W1 => A1 2 = some (.ptr b2 0) ∧ A1 3 = some (.ptr b3 0) ∧ A1 4 = some (.ptr b4 0) ∧ A1 5 = some (.ptr b5 0) ∧ A1 23 = some (nowGS 2 ((readsR t).map rdV)) ∧ A1 24 = some (.int .i64 (readsR t).length) ∧ A1 25 = some (.int .i64 k) ∧ k ≤ (readsR t).length ∧ Fk W W1 b4 lo ∧ ∃ h1, W1.get b4 = some (.row [h1]) ∧ nowG W1 h1 ((acc ++ ((readsR t).take k).flatMap (fltR s os t.id)).map Flt.V) 4 lo) (fun k => (readsR t).length - k) 0
  ⟨a2, a3, a4, a5, a23, a24, a25, Nat.zero_le _, Fk.refl hC _ _, h, h4, by simpa using hnow⟩ ?_
 rintro k A1 W1 ⟨g2, g3, g4, g5, g23, g24, g25, gk, gF, h1, k4, gnow⟩ _
 by_cases hk : k < (readsR t).length
 ·have hr := rd_ok ht (gmm hk)
  have hat := rdV_at hk
  have hst := flat_snoc (f := fltR s os t.id) hk
  have hfl := flat_len (f := fltR s os t.id) (n := 4) (l := (readsR t).take k) fun r _ => fltR_len s os t.id r
  have htk : ((readsR t).take k).length ≤ k := by simp; omega
  generalize (readsR t)[k] = r at hr hat hst
  have hnx := gF.nx
  have e2 : W1.get b2 = some (.row [.ptr p 0]) := by rw [gF.get _ (by omega) hb2.2 (.inl hb2.1)]; exact h2
  have e3 : W1.get b3 = some (.row [.ptr q 0]) := by rw [gF.get _ (by omega) hb3.2 (.inl hb3.1)]; exact h3
  have e5 : W1.get b5 = some (.row [.int .u16 t.id, .int .u8 t.client, msV t.ms, lsV t.ls, .int .u8 t.st]) := by rw [gF.get _ hb5.1 hb5.2 (.inr fun ys => by rw [h5]; simp)]; exact h5
  have l2 : b2 < W1.nx := by omega
  have l3 : b3 < W1.nx := by omega
  have l4 : b4 < W1.nx := by omega
  have l5 : b5 < W1.nx := by omega
  have he := (elV_isEl r.2).isS
  refine awp_startC gF.cl ?_
  simp (maxSteps:=9^9) (disch:=omega) only [BX, ↓reduceIte, nE, BM, BD, nA, nL, nT, c_faults_0, g2, g3, g5, g23, g24, g25, clt, hk, dT, hs.idx hat, rdV_cells, he.one, e2, e3, e5]
  refine pc (checks_c hP _) ?_
  obtain ⟨W2, hW2⟩ : ∃ W2, W2 = X W1 W1.nx [.row [.int .u8 r.1, elV r.2], .row [.ptr p 0, .ptr q 0, .int .u16 t.id, .int .u8 r.1, elV r.2]] := ⟨_, rfl⟩
  have hF2 : Fk W1 W2 b4 lo := by rw [hW2]; exact Fk.ofX gF.cl _ _ _
  have hg2 : ∀ x, x < W1.nx → W2.get x = W1.get x := fun x hx => by rw [hW2]; exact X_old hx
  have n2 : W2.nx = W1.nx + 2 := by rw [hW2]; rfl
  have h7 : W2.get (rf W1.nx 0) = some (.row [.int .u8 r.1, elV r.2]) := by rw [hW2, X_get]; rfl
  have h8 : W2.get (rf W1.nx 1) = some (.row (plC p q t.id r)) := by rw [hW2, X_get]; rfl
  rw [← hW2]
  clear hW2
  have r0 : rf W1.nx 0 = W1.nx := rfl
  have r1 : rf W1.nx 1 = W1.nx + 1 := rfl
  have hlen4 : ∀ K, sem E (.len 1 0) [chkV] W2 K = K (.int .i64 4) W2 := fun K => rfl
  simp (maxSteps:=9^9) (disch:=omega) only [BS, ↓reduceIte, hlen4]
  refine chk_go hP (b2 := b2) (b3 := b3) (b4 := b4) (b5 := b5) (b7 := rf W1.nx 0) (b8 := rf W1.nx 1) (lo := lo) (hS.to (gF.trans hF2)) hr (acc := acc ++ ((readsR t).take k).flatMap (fltR s os t.id)) (h := h1) hF2.cl (by omega) hb4 (by omega) (by omega) (by omega) ((hg2 _ l4).trans k4) (gnow.to (by omega) fun r _ hr _ => hg2 r hr) ((hg2 _ l5).trans e5) h7 h8 (by rw [lap]; omega) tt tt tt tt tt tt (v23 := nowGS 2 ((readsR t).map rdV)) (v24 := .int .i64 (readsR t).length) (v25 := .int .i64 k) tt tt tt tt tt tt ?_
  intro A' W3 h' u2 u3 u4 u5 u23 u24 u25 uF u6 u7
  simp (maxSteps:=9^9) (disch:=omega) only [BS, ↓reduceIte, nE, u2, u3, u4, u5, u23, u24, u25, wadd1]
  refine ⟨k + 1, ⟨tt, tt, tt, tt, tt, tt, tt, hk, (gF.trans hF2).trans uF, h', u6, ?_⟩, by omega, by have := uF.nx; omega⟩
  rw [hst, ← List.append_assoc]; exact u7
 ·obtain rfl : k = (readsR t).length := by omega
  rw [tkl] at gnow
  simp (maxSteps:=9^9) (disch:=omega) only [BX, ↓reduceIte, c_faults_0, g25, g24, clt, hk, dF]
  exact hQ _ _ h1 gF k4 gnow
theorem nowG.v {W : AW} {h : V} {xs : List V} {s lo : Nat} (hn : nowG W h xs s lo) : h.cells = [h] ∧ h.one = true := by
 rcases hn with ⟨rfl, _⟩ | ⟨_, _, _, rfl, _⟩ <;> exact ⟨rfl, rfl⟩
theorem bel_flt (l : List Flt) (n : Nat) : V.belL n (l.map Flt.V) = true := by
 induction l with
 | nil => rfl
 | cons x l ih => simp only [mcs, V.belL, Bool.and_eq_true]; exact ⟨rfl, ih⟩
theorem faults_c (hP : PE E) (W : AW) {p ra rw q : Nat} {s : Str} {os : Ods} (hS : St W p ra rw s) (hO : Od W q os) : ACalls E 17 [.ptr p 0, .ptr q 0] W fun Y W' => Y = nowGS 4 ((faultsR s os).map Flt.V) ∧ W' = W := by
 refine ACalls.of hP Tryz.func17 ok_faultse (by simp) fun _ hok => ?_
 refine awp_start hok ?_
 have hlp := hS.lp
 have hla := hS.la
 have hlw := hS.lw
 have hlq := hO.lq
 have hsl := st_len hS.ok
 simp (maxSteps:=9^9) (disch:=omega) only [BZ, ↓reduceIte, nE, BM, BD, nA, c_faults]
 repeat (rw [guard_if]; simp (maxSteps:=9^9) (disch:=omega) only [BX, ↓reduceIte, nE, BM, BD, nA, nL, nT, ])
 refine (all_c hP _ p).mono ?_
 rintro _ W2 ⟨rfl, hW2⟩
 have r0 : rf W.nx 0 = W.nx := rfl
 have r1 : rf W.nx 1 = W.nx + 1 := rfl
 have r2 : rf W.nx 2 = W.nx + 2 := rfl
 have n1 : (X W W.nx [.row [.ptr p 0], .row [.ptr q 0], .row [.nilsl]]).nx = W.nx + 3 := rfl
 have hq2 : W2.get (W.nx + 3) = some (.row [.ptr p 0]) := by rw [hW2, ← n1, alloc_at]
 have n2 : W2.nx = W.nx + 4 := by rw [hW2]; rfl
 have hE2 : Ex W W2 := ⟨fun x hx => by rw [n2] at hx; rw [hW2, al_gets, n1, if_neg (by omega)]; exact Cl.X x (by rw [n1]; omega), by omega, fun x hx => by rw [hW2, alloc_lt (by rw [n1]; omega), X_old hx]⟩
 have v2 : W2.get (rf W.nx 0) = some (.row [.ptr p 0]) := by rw [hW2, alloc_lt (by rw [n1]; omega), X_get]; rfl
 have v3 : W2.get (rf W.nx 1) = some (.row [.ptr q 0]) := by rw [hW2, alloc_lt (by rw [n1]; omega), X_get]; rfl
 have v4 : W2.get (rf W.nx 2) = some (.row [.nilsl]) := by rw [hW2, alloc_lt (by rw [n1]; omega), X_get]; rfl
 clear hW2
 have hS2 : Sl W2 p ra rw q s os (rf W.nx 2) W2.nx := ⟨hS.ex hE2, hO.ex hE2, by omega, by omega⟩
 simp (maxSteps:=9^9) (disch:=omega) only [BS, BM, BD, nA, ]
 refine range_all hP (q := W.nx + 3) (s := s) (W0 := W2) (by simp only [ev_t]; exact if_pos rfl) hq2 (by omega) hE2.cl hS2.st
  (fun i W' => Fk W2 W' (rf W.nx 2) W2.nx ∧ ∃ h1, W'.get (rf W.nx 2) = some (.row [h1]) ∧ nowG W' h1 (((s.take i).flatMap fun t => (readsR t).flatMap (fltR s os t.id)).map Flt.V) 4 W2.nx) ?_ ?_ ?_ ?_
 ·intro W' hE
  exact ⟨⟨hE.cl, hE.nx, fun x hx _ _ => hE.get x hx⟩, .nilsl, by rw [hE.get _ (by omega)]; exact v4, .inl ⟨rfl, by simp⟩⟩
 ·rintro i W' ⟨j0, _⟩
  exact ⟨j0.cl, j0.get _ (by omega) (by omega) (.inl (by omega)), j0.get _ (by omega) (by omega) (.inl (by omega)), j0.get _ (by omega) (by omega) (.inl (by omega))⟩
 ·rintro i hi W' ⟨j0, h1, j1, j2⟩ hl hnn
  have hto := hS.ok.ok s[i] (gmm hi)
  have hst := flat_snoc (f := fun t => (readsR t).flatMap (fltR s os t.id)) hi
  have hfl : ((s.take i).flatMap fun t => (readsR t).flatMap (fltR s os t.id)).length < 2 ^ 24 := by
   have h2 := flat_len (f := fun t => (readsR t).flatMap (fltR s os t.id)) (n := 32) (l := s.take i) fun t ht => by
    have h3 := readsR_len (hS.ok.ok t (List.mem_of_mem_take ht))
    have h4 := flat_len (f := fltR s os t.id) (n := 4) (l := readsR t) fun r _ => fltR_len s os t.id r
    omega
   have : (s.take i).length ≤ s.length := by simp; omega
   omega
  generalize s[i] = t at hto hst
  have hjn := j0.nx
  refine awp_startC j0.cl ?_
  simp (maxSteps:=9^9) (disch:=omega) only [BZ, ↓reduceIte, nE, BM, BD, nA, nL, nT, msV_one, lsV_one, Tx.V, hl]
  refine ⟨tt, ?_⟩
  obtain ⟨Wb, hWb⟩ : ∃ Wb, Wb = X (W'.put W2.nx (.loop .busy none)) W'.nx [.row [.int .u16 t.id, .int .u8 t.client, msV t.ms, lsV t.ls, .int .u8 t.st]] := ⟨_, rfl⟩
  have hgb : ∀ x, x < W'.nx → x ≠ W2.nx → Wb.get x = W'.get x := fun x hx hne => by rw [hWb, X_old hx, put_ne hne]
  have nb : Wb.nx = W'.nx + 1 := by rw [hWb]; rfl
  have cb : Cl Wb := by rw [hWb]; exact Cl.X
  have lb : Wb.get W2.nx = some (.loop .busy none) := by rw [hWb, X_old (by omega), put_at]
  have h5 : Wb.get (rf W'.nx 0) = some (.row [.int .u16 t.id, .int .u8 t.client, msV t.ms, lsV t.ls, .int .u8 t.st]) := by rw [hWb, X_get]; rfl
  rw [← hWb]
  clear hWb
  have r5 : rf W'.nx 0 = W'.nx := rfl
  have hSb : Sl Wb p ra rw q s os (rf W.nx 2) W2.nx := by
   obtain ⟨a1, a2, a3, a4⟩ := hS2.lt
   have hS' := hS2.to j0
   exact ⟨hS'.st.by (by omega) (hgb _ (by omega) (by omega)) (hgb _ (by omega) (by omega)) (hgb _ (by omega) (by omega)), hS'.od.by (by omega) (hgb _ (by omega) (by omega)), hS2.lt, hS2.ne⟩
  have hrd := fun W => reads_c (E := E) hP W hto
  simp only [Tx.V] at hrd
  have hs := nowGS_S 2 ((readsR t).map rdV)
  refine pc (hrd _) ?_
  simp (maxSteps:=9^9) (disch:=omega) only [BS, ↓reduceIte, hs.len, lmp]
  have e2 : Wb.get (rf W.nx 0) = some (.row [.ptr p 0]) := by rw [hgb _ (by omega) (by omega), j0.get _ (by omega) (by omega) (.inl (by omega))]; exact v2
  have e3 : Wb.get (rf W.nx 1) = some (.row [.ptr q 0]) := by rw [hgb _ (by omega) (by omega), j0.get _ (by omega) (by omega) (.inl (by omega))]; exact v3
  refine frds_go hP (b2 := rf W.nx 0) (b3 := rf W.nx 1) (b4 := rf W.nx 2) (b5 := rf W'.nx 0) (lo := W2.nx) hSb hto (acc := (s.take i).flatMap fun t => (readsR t).flatMap (fltR s os t.id)) (h := h1) cb (by omega) (by omega) (by omega) (by omega) (by omega) ((hgb _ (by omega) (by omega)).trans j1)
   (j2.to (by omega) fun r h1 h2 ⟨ys, hy⟩ => hgb r h2 (by rintro rfl; rw [hl] at hy; cases hy)) e2 e3 h5 (by omega) tt tt tt tt tt tt tt ?_
  intro A' W3 h' u1 u2 u3
  have hn3 := u1.nx
  have hlp3 : W3.get W2.nx = some (.loop .busy none) := by rw [u1.get W2.nx (by omega) (by omega) (.inr fun ys => by rw [lb]; simp)]; exact lb
  simp (maxSteps:=9^9) (disch:=omega) only [BS, ↓reduceIte, ]
  refine ⟨tt, hlp3, by omega, ⟨u1.cl.put (by omega), by rw [put_nx]; omega, fun x hx h1 h2 => ?_⟩, h', by rw [put_ne (by omega)]; exact u2, ?_⟩
  ·have hx' : x < W2.nx := hx
   rw [put_ne (by omega), u1.get x (by omega) h1 (.inl hx'), hgb x (by omega) (by omega)]
   exact j0.get x hx h1 (.inl hx')
  ·rw [hst]
   exact u3.to (by rw [put_nx]; exact lr _) fun r h1 h2 ⟨ys, hy⟩ => put_ne (by rintro rfl; rw [hlp3] at hy; cases hy)
 ·rintro W' ⟨j0, h1, j1, j2⟩ hl hnn
  rw [tkl] at j2
  have k4 : (W'.put W2.nx (.loop .exhausted none)).get (rf W.nx 2) = some (.row [h1]) := by rw [put_ne (by omega)]; exact j1
  have hv := j2.v
  have j3 : nowG ((W'.put W2.nx (.loop .exhausted none)).put (rf W.nx 2) (.row [h1])) h1 ((faultsR s os).map Flt.V) 4 W2.nx := j2.to (by simp only [put_nx]; exact lr _) fun r h1 h2 ⟨ys, hy⟩ => by rw [put_ne (by omega), put_ne (by rintro rfl; rw [hl] at hy; cases hy)]
  have hfz := j3.frz
  simp (maxSteps:=9^9) (disch:=omega) only [BZ, ↓reduceIte, nE, BM, BD, nL, k4, hv.1, hv.2, put_at, hfz]
  refine ⟨_, rfl, _, W, .weak (weak_back hok ?_ fun x hx => ?_), lr _, rfl, rfl⟩
  ·exact (nowGS_S 4 _).lens (bel_flt _ _)
  ·rw [put_ne (by omega), put_ne (by omega), j0.get x (by omega) (by omega) (.inl (by omega))]
   exact hE2.get x hx
def c_ofA_0 : AC := (.r [.b 17 (.bin .lss) 16 15] (.seq (.w 17 0) (.seq (.block 1 (.r [.b 18 (.idxp 4) 14 16,.u 19 (.load true 4) 18,.p 7 (.alloc [.int .u8 0,.int .u16 0,.int .u8 0,.int .u16 0]) [],⟨none,.store 4, [.t 7,.t 19], none⟩] (.reg [.m 20 5,.u 21 (.fld 0) 7,.u 22 (.load false 1) 21,.b 23 (.bin .or) 20 22,.m 5 23]))) (.reg [.a 24 (.bin .add) 16 1,.m 16 24]))))
def c_ofA : AC := (.r [.v 4 (.int .u8 0)] (.r [.m 8 0,.m 9 1,.b 10 (.call 11) 8 9,.u 11 (.call 14) 10,.m 5 11] (.seq (.r [.m 12 0,.m 13 1,.b 14 (.call 17) 12 13,.u 15 (.len 1 0) 14,.v 16 (.int .i64 0)] (.block 0 (.loop c_ofA_0))) (.r [.m 25 5,.m 4 25] .ret))))
theorem ok_ofAe : compF Tryz.prog Tryz.f16 ⟨false, false, []⟩ = some (c_ofA, [.tmp 4], 26) := by kernel_rfl
theorem wr_node {s : Str} {k v : Int} (h : (wrR s k v).2 = true) : (wrR s k v).1 ∈ nodesR s := by
 unfold wrR at h ⊢
 cases hw : who s k v with
 | none => rw [hw] at h; cases h
 | some t =>
  rw [hw] at h
  have h2 : t.st ≠ 2 := of_decide_eq_true h
  exact List.mem_map.2 ⟨t, List.mem_filter.2 ⟨(who_mem hw).1, by simpa using h2⟩, rfl⟩
theorem edgeP_ends {a b k : Int} {N : List Int} (ha : a ∈ N) (hb : b ∈ N) : ∀ x ∈ edgeP a b k, x.1 ∈ N ∧ x.2.1 ∈ N := by
 intro x hx
 unfold edgeP at hx
 split at hx
 ·cases hx
 ·rw [List.mem_singleton.1 hx]; exact ⟨ha, hb⟩
theorem build_ends (s : Str) (o : Ods) : ∀ x ∈ buildP s o, x.1 ∈ nodesR s ∧ x.2.1 ∈ nodesR s := by
 intro x hx
 rcases List.mem_append.1 hx with hx | hx
 ·obtain ⟨k, _, hx⟩ := List.mem_flatMap.1 hx
  obtain ⟨y, _, hx⟩ := List.mem_flatMap.1 hx
  split at hx
  ·rename_i h; exact edgeP_ends (wr_node h.1) (wr_node h.2) x hx
  ·cases hx
 ·obtain ⟨t, ht, hx⟩ := List.mem_flatMap.1 hx
  unfold txnP at hx
  split at hx
  ·cases hx
  ·rename_i h2
   have htn : t.id ∈ nodesR s := List.mem_map.2 ⟨t, List.mem_filter.2 ⟨ht, by simpa using h2⟩, rfl⟩
   obtain ⟨r, _, hx⟩ := List.mem_flatMap.1 hx
   split at hx
   ·rcases List.mem_append.1 hx with hx | hx
    ·unfold lastP at hx
     split at hx
     ·split at hx
      ·rename_i h; exact edgeP_ends (wr_node h) htn x hx
      ·cases hx
     ·cases hx
    ·unfold nextP at hx
     split at hx
     ·split at hx
      ·rename_i h; exact edgeP_ends htn (wr_node h) x hx
      ·cases hx
     ·cases hx
   ·cases hx
theorem nodes_pw {s : Str} (h : SOk s) : (nodesR s).Pairwise fun a b => a < b := List.pairwise_map.2 (List.Pairwise.filter _ h.lt)
theorem bitor8 (a b : Nat) (ha : a < 256) (hb : b < 256) : bitI .or .u8 (a : Int) (b : Int) = some ((a ||| b : Nat) : Int) := by
 have hlt : a ||| b < 256 := Nat.or_lt_two_pow (n := 8) ha hb
 have e1 : ∀ n : Nat, BitVec.ofInt IntKind.u8.bits (n : Int) = BitVec.ofNat 8 n := fun n => by simp [IntKind.bits, BitVec.ofInt_natCast]
 have e3 : (BitVec.ofNat 8 a ||| BitVec.ofNat 8 b).toNat = a ||| b := by
  rw [BitVec.toNat_or, BitVec.toNat_ofNat, BitVec.toNat_ofNat, Nat.mod_eq_of_lt (by simpa using ha), Nat.mod_eq_of_lt (by simpa using hb)]
 have e4 : bitI .or .u8 (a : Int) (b : Int) = some (IntKind.u8.wrap ((BitVec.ofInt IntKind.u8.bits (a : Int) ||| BitVec.ofInt IntKind.u8.bits (b : Int)).toNat : Nat)) := rfl
 rw [e4, e1, e1]
 refine congrArg some ?_
 have e5 : ((BitVec.ofNat 8 a ||| BitVec.ofNat 8 b).toNat : Int) = ((a ||| b : Nat) : Int) := congrArg Nat.cast e3
 exact (congrArg IntKind.u8.wrap e5).trans (IntWalk.u8_in _ (by omega))
def flagN (b0 b1 b2 : Bool) : Nat := (if b0 = true then 1 else 0) + (if b1 = true then 8 else 0) + (if b2 = true then 16 else 0)
theorem flag_IN (b0 b1 b2 : Bool) : flagI b0 b1 b2 = ((flagN b0 b1 b2 : Nat) : Int) := by cases b0 <;> cases b1 <;> cases b2 <;> rfl
theorem flag_lt (b0 b1 b2 : Bool) : flagN b0 b1 b2 < 256 := by cases b0 <;> cases b1 <;> cases b2 <;> decide
def orF (n : Nat) (l : List Flt) : Nat := l.foldl (fun n f => n ||| f.fl.toNat) n
theorem fl_ok {s : Str} {os : Ods} {f : Flt} (h : f ∈ faultsR s os) : 0 ≤ f.fl ∧ f.fl < 256 := by
 obtain ⟨t, _, h⟩ := List.mem_flatMap.1 h
 obtain ⟨r, _, h⟩ := List.mem_flatMap.1 h
 obtain ⟨c, hc, h⟩ := List.mem_flatMap.1 h
 unfold fltC at h
 split at h
 ·rw [List.mem_singleton.1 h]
  have hc := List.mem_range.1 hc
  show 0 ≤ flC c ∧ flC c < 256
  match c, hc with
  | 0, _ => exact (by decide : (0 : Int) ≤ flC 0 ∧ flC 0 < 256)
  | 1, _ => exact (by decide : (0 : Int) ≤ flC 1 ∧ flC 1 < 256)
  | 2, _ => exact (by decide : (0 : Int) ≤ flC 2 ∧ flC 2 < 256)
  | 3, _ => exact (by decide : (0 : Int) ≤ flC 3 ∧ flC 3 < 256)
 ·cases h
theorem orF_lt {l : List Flt} (h : ∀ f ∈ l, 0 ≤ f.fl ∧ f.fl < 256) : ∀ {n : Nat}, n < 256 → orF n l < 256 := by
 induction l with
 | nil => intro n hn; exact hn
 | cons f l ih =>
  intro n hn
  have := h f (by simp)
  exact ih (fun f hf => h f (by simp [hf])) (Nat.or_lt_two_pow (n := 8) hn (show f.fl.toNat < 2 ^ 8 by omega))
structure OfR (s : Str) (os : Ods) (n : Nat) : Prop where
 ex : ∃ b0 b1 b2, n = orF (flagN b0 b1 b2) (faultsR s os) ∧ (b0 = true ↔ ∃ e ∈ edL (buildP s os), hitT (buildP s os) [0] 0 e) ∧ (b1 = true ↔ ∃ e ∈ edL (buildP s os), hitT (buildP s os) [0, 1] 1 e) ∧ (b2 = true ↔ ∃ e ∈ edL (buildP s os), hitT (buildP s os) [0, 1, 2] 2 e)
theorem flts_len (s : Str) (os : Ods) (h : SOk s) : (faultsR s os).length < 2 ^ 24 := by
 have hsl := st_len h
 have h2 := flat_len (f := fun t => (readsR t).flatMap (fltR s os t.id)) (n := 32) (l := s) fun t ht => by
  have h3 := readsR_len (h.ok t ht)
  have h4 := flat_len (f := fltR s os t.id) (n := 4) (l := readsR t) fun r _ => fltR_len s os t.id r
  omega
 unfold faultsR; omega
theorem ofA_c (hP : PE E) (W : AW) {p ra rw q : Nat} {s : Str} {os : Ods} (hS : St W p ra rw s) (hO : Od W q os) : ACalls E 16 [.ptr p 0, .ptr q 0] W fun Y W' => W' = W ∧ ∃ n : Nat, Y = .int .u8 n ∧ OfR s os n := by
 refine ACalls.of hP Tryz.func16 ok_ofAe (by simp) fun _ hok => ?_
 have hfl := flts_len s os hS.ok
 simp (maxSteps:=9^9) (disch:=omega) only [BZ, ↓reduceIte, nE, reduceCtorEq, c_ofA]
 refine (build_c hP _ hS hO).mono ?_
 rintro _ W1 ⟨g, m, h, rfl, hG, hE⟩
 simp (maxSteps:=9^9) (disch:=omega) only [BS, BC, ↓reduceIte, ]
 refine (cycles_c hP _ hG (nodes_pw hS.ok) (build_ends s os)).mono ?_
 rintro _ _ ⟨rfl, b0, b1, b2, rfl, h0, h1, h2⟩
 simp (maxSteps:=9^9) (disch:=omega) only [BZ, ↓reduceIte, nE, reduceCtorEq, ]
 refine pc (faults_c hP _ (hS.ex hE) (hO.ex hE)) ?_
 have hs := nowGS_S 4 ((faultsR s os).map Flt.V)
 simp (maxSteps:=9^9) (disch:=omega) only [BS, ↓reduceIte, hs.len, lmp]
 rw [flag_IN, e_loop]
 refine alp (fun (k : Nat) A1 W2 => A1 5 = some (.int .u8 ((orF (flagN b0 b1 b2) ((faultsR s os).take k) : Nat) : Int)) ∧ A1 14 = some (nowGS 4 ((faultsR s os).map Flt.V)) ∧ A1 15 = some (.int .i64 (faultsR s os).length) ∧ A1 16 = some (.int .i64 k) ∧ k ≤ (faultsR s os).length ∧ Ex W W2) (fun k => (faultsR s os).length - k) 0
  ⟨rfl, rfl, rfl, rfl, Nat.zero_le _, hE⟩ ?_
 rintro k A1 W2 ⟨g5, g14, g15, g16, gk, gE⟩ _
 by_cases hk : k < (faultsR s os).length
 ·have hat : ((faultsR s os).map Flt.V)[k]? = some ((faultsR s os)[k]).V := by simp [hk]
  have hfo := fl_ok (gmm hk)
  have hst : orF (flagN b0 b1 b2) ((faultsR s os).take (k + 1)) = orF (flagN b0 b1 b2) ((faultsR s os).take k) ||| ((faultsR s os)[k]).fl.toNat := by
   rw [tao, gEg hk, orF, List.foldl_append]; rfl
  have hlt := orF_lt (l := (faultsR s os).take k) (fun f hf => fl_ok (List.mem_of_mem_take hf)) (flag_lt b0 b1 b2)
  generalize (faultsR s os)[k] = f at hat hfo hst
  have hor := bitor8 (orF (flagN b0 b1 b2) ((faultsR s os).take k)) f.fl.toNat hlt (by omega)
  rw [Int.toNat_of_nonneg hfo.1] at hor
  refine awp_startC gE.cl ?_
  simp (maxSteps:=9^9) (disch:=omega) only [BX, ↓reduceIte, nE, BM, BD, nA, nL, nT, c_ofA_0, g5, g14, g15, g16, clt, hk, dT, hs.idx hat, Flt.V, sem_or hor, wadd1]
  exact ⟨k + 1, ⟨by rw [hst], tt, tt, tt, hk, gE.X⟩, by omega, by have := gE.nx; simp only [rf]; omega⟩
 ·obtain rfl : k = (faultsR s os).length := by omega
  rw [tkl] at g5
  simp (maxSteps:=9^9) (disch:=omega) only [BX, ↓reduceIte, nE, c_ofA_0, g5, g15, g16, clt, hk, dF]
  exact ⟨_, rfl, _, W, .weak (weak_back hok rfl gE.get), lr _, rfl, _, rfl, ⟨b0, b1, b2, rfl, h0, h1, h2⟩⟩
def c_obeg_0 : AC := (.seq (.r [.m 11 5,.m 12 0,.u 13 (.len 1 0) 12,.b 14 (.bin .lss) 11 13] (.w 14 0)) (.seq (.block 1 (.seq (.par (.step 0 (.m 17 0) (.step 1 (.m 18 5) (.step 4 (.m 21 1) (.step 5 (.m 22 5) (.step 2 (.b 19 (.idxp 1) 17 18) (.step 3 (.u 20 (.load false 1) 19) (.step 6 (.b 23 (.idxp 1) 21 22) (.step 7 (.u 24 (.load false 1) 23) (.step 8 (.b 25 (.bin .neq) 20 24) .done)))))))))) (.cond (.t 25) (.r [.v 4 (.bool false)] .ret) .skip))) (.reg [.m 15 5,.a 16 (.bin .add) 15 1,.m 5 16])))
def c_obeg : AC := (.r [.v 4 (.bool false)] (.seq (.r [.m 6 0,.u 7 (.len 1 0) 6,.m 8 1,.u 9 (.len 1 0) 8,.b 10 (.bin .gtr) 7 9] (.cond (.t 10) (.r [.v 4 (.bool false)] .ret) .skip)) (.seq (.r [.v 5 (.int .i64 0)] (.block 0 (.loop c_obeg_0))) (.r [.v 4 (.bool true)] .ret))))
theorem ok_obege : compF Tryz.prog Tryz.f61 ⟨false, false, []⟩ = some (c_obeg, [.tmp 4], 26) := by kernel_rfl
def c_oTwice_1 : AC := (.seq (.r [.m 13 4,.m 14 0,.u 15 (.len 1 0) 14,.b 16 (.bin .lss) 13 15] (.w 16 2)) (.seq (.block 3 (.seq (.par (.step 0 (.m 19 0) (.step 1 (.m 20 3) (.step 4 (.m 23 0) (.step 5 (.m 24 4) (.step 2 (.b 21 (.idxp 1) 19 20) (.step 3 (.u 22 (.load false 1) 21) (.step 6 (.b 25 (.idxp 1) 23 24) (.step 7 (.u 26 (.load false 1) 25) (.step 8 (.b 27 (.bin .eql) 22 26) .done)))))))))) (.cond (.t 27) (.r [.v 2 (.bool true)] .ret) .skip))) (.reg [.m 17 4,.a 18 (.bin .add) 17 1,.m 4 18])))
def c_oTwice_0 : AC := (.seq (.r [.m 5 3,.m 6 0,.u 7 (.len 1 0) 6,.b 8 (.bin .lss) 5 7] (.w 8 0)) (.seq (.block 1 (.r [.m 11 3,.a 12 (.bin .add) 11 1,.m 4 12] (.block 2 (.loop c_oTwice_1)))) (.reg [.m 9 3,.a 10 (.bin .add) 9 1,.m 3 10])))
def c_oTwice : AC := (.r [.v 2 (.bool false)] (.seq (.r [.v 3 (.int .i64 0)] (.block 0 (.loop c_oTwice_0))) (.r [.v 2 (.bool false)] .ret)))
theorem ok_oTwicee : compF Tryz.prog Tryz.f60 ⟨false, false, []⟩ = some (c_oTwice, [.tmp 2], 28) := by kernel_rfl
theorem obeg_c (hP : PE E) (W : AW) {v v' : V} {l l' : List Int} (h : isS 1 v (intsV l)) (h' : isS 1 v' (intsV l')) (hl : l.length < 2 ^ 40) :
  ACalls E 61 [v, v'] W fun Y W' => Y = .bool (begins l l') ∧ W' = W := by
 refine ACalls.of hP Tryz.func61 ok_obege (by simp) fun _ hok => ?_
 by_cases hc : l.length > l'.length
 ·simp (maxSteps:=9^9) (disch:=omega) only [BX, ↓reduceIte, nE, reduceCtorEq, c_obeg, h.len, h'.len, ints_len, cgt, hc, dT]
  exact ⟨_, rfl, _, _, .weak weak_id, lr _, by rw [begins, show decide (l.length ≤ l'.length) = false from decide_eq_false (by omega)]; rfl, rfl⟩
 ·simp (maxSteps:=9^9) (disch:=omega) only [BX, ↓reduceIte, nE, reduceCtorEq, c_obeg, h.len, h'.len, ints_len, cgt, hc, dF]
  rw [e_loop]
  refine alp (fun (i : Nat) A1 W1 => A1 0 = some v ∧ A1 1 = some v' ∧ A1 5 = some (.int .i64 i) ∧ i ≤ l.length ∧ W1 = W ∧ l.take i = l'.take i) (fun k => l.length - k) 0
   ⟨rfl, rfl, rfl, Nat.zero_le _, rfl, by simp⟩ ?_
  rintro i A1 W1 ⟨g0, g1, g5, gi, rfl, ge⟩ _
  by_cases hi : i < l.length
  ·have hi' : i < l'.length := by omega
   by_cases he : l[i] = l'[i]
   ·simp (maxSteps:=9^9) (disch:=omega) only [BX, ↓reduceIte, nE, reduceCtorEq, BM, c_obeg_0, g0, g1, g5, h.len, ints_len, clt, hi, dT, h.idx (int_at hi), h'.idx (int_at hi'), he, bne_self_eq_false, wadd1]
    exact ⟨i + 1, ⟨tt, tt, tt, hi, tt, take_ext ge hi hi' he⟩, by omega, lr _⟩
   ·have hne : (l[i] != l'[i]) = true := by simpa using he
    simp (maxSteps:=9^9) (disch:=omega) only [BX, ↓reduceIte, nE, reduceCtorEq, BM, c_obeg_0, g0, g1, g5, h.len, ints_len, clt, hi, dT, h.idx (int_at hi), h'.idx (int_at hi'), hne]
    refine ⟨_, rfl, _, _, .weak weak_id, lr _, ?_, rfl⟩
    have : begins l l' = false := by
     rw [← Bool.not_eq_true, begins_iff]
     rintro ⟨t, rfl⟩
     exact he (by rw [List.getElem_append_left hi])
    rw [this]
  ·obtain rfl : i = l.length := by omega
   simp (maxSteps:=9^9) (disch:=omega) only [BX, ↓reduceIte, nE, reduceCtorEq, c_obeg_0, g0, g5, h.len, ints_len, clt, hi, dF]
   refine ⟨_, rfl, _, _, .weak weak_id, lr _, ?_, rfl⟩
   rw [tkl] at ge
   rw [begins_iff.2 (by rw [ge]; exact List.take_prefix _ _)]
theorem twice_at {l : List Int} : twiceB l = true ↔ ∃ i j, ∃ (hi : i < l.length) (hj : j < l.length), i < j ∧ l[i] = l[j] := by
 rw [twiceB, Bool.not_eq_true', decide_eq_false_iff_not, List.Nodup, List.pairwise_iff_getElem]
 constructor
 ·intro h
  refine Classical.byContradiction fun hn => h fun i j hi hj hlt he => hn ⟨i, j, hi, hj, hlt, he⟩
 ·rintro ⟨i, j, hi, hj, hlt, he⟩ h
  exact h i j hi hj hlt he
theorem oTwice_c (hP : PE E) (W : AW) {v : V} {l : List Int} (h : isS 1 v (intsV l)) (hl : l.length < 2 ^ 40) :
  ACalls E 60 [v] W fun Y W' => Y = .bool (twiceB l) ∧ W' = W := by
 refine ACalls.of hP Tryz.func60 ok_oTwicee (by simp) fun _ hok => ?_
 simp (maxSteps:=9^9) (disch:=omega) only [BS, e_seq, c_oTwice]
 rw [e_loop]
 refine alp (fun (i : Nat) A1 W1 => A1 0 = some v ∧ A1 3 = some (.int .i64 i) ∧ i ≤ l.length ∧ W1 = W ∧ ∀ a b (ha : a < l.length) (hb : b < l.length), a < i → a < b → l[a] ≠ l[b]) (fun k => l.length - k) 0
  ⟨rfl, rfl, Nat.zero_le _, rfl, fun a b _ _ h => by omega⟩ ?_
 rintro i A1 W1 ⟨g0, g3, gi, rfl, gn⟩ _
 by_cases hi : i < l.length
 ·simp (maxSteps:=9^9) (disch:=omega) only [BS, e_seq, cond_if, ↓reduceIte, nE, reduceCtorEq, c_oTwice_0, g0, g3, h.len, ints_len, clt, hi, dT, wadd1]
  rw [e_loop]
  refine alp (fun (j : Nat) A2 W2 => A2 0 = some v ∧ A2 3 = some (.int .i64 i) ∧ A2 4 = some (.int .i64 j) ∧ i < j ∧ j ≤ l.length ∧ W2 = W1 ∧ ∀ b (hb : b < l.length), i < b → b < j → l[i] ≠ l[b]) (fun k => l.length - k) (i + 1)
   ⟨tt, tt, rfl, by omega, hi, rfl, fun b _ h1 h2 => by omega⟩ ?_
  rintro j A2 W2 ⟨q0, q3, q4, qj, qj2, rfl, qn⟩ _
  by_cases hj : j < l.length
  ·by_cases he : l[i] = l[j]
   ·simp (maxSteps:=9^9) (disch:=omega) only [BX, ↓reduceIte, nE, reduceCtorEq, BM, c_oTwice_1, q0, q3, q4, h.len, ints_len, clt, hj, dT, h.idx (int_at hi), h.idx (int_at hj), he, cmpeq]
    exact ⟨_, rfl, _, _, .weak weak_id, lr _, by rw [twice_at.2 ⟨i, j, hi, hj, qj, he⟩], rfl⟩
   ·simp (maxSteps:=9^9) (disch:=omega) only [BX, ↓reduceIte, nE, reduceCtorEq, BM, c_oTwice_1, q0, q3, q4, h.len, ints_len, clt, hj, dT, h.idx (int_at hi), h.idx (int_at hj), cmpeq, he, dF, wadd1]
    refine ⟨j + 1, ⟨tt, tt, tt, by omega, hj, tt, fun b hb h1 h2 => ?_⟩, by omega, lr _⟩
    by_cases e : b = j
    ·subst e; exact he
    ·exact qn b hb h1 (by omega)
  ·obtain rfl : j = l.length := by omega
   simp (maxSteps:=9^9) (disch:=omega) only [BX, ↓reduceIte, nE, reduceCtorEq, c_oTwice_1, q0, q3, q4, h.len, ints_len, clt, hj, dF, wadd1]
   refine ⟨i + 1, ⟨tt, tt, hi, tt, fun a b ha hb h1 h2 => ?_⟩, by omega, lr _⟩
   by_cases e : a = i
   ·subst e; exact qn b hb h2 hb
   ·exact gn a b ha hb (by omega) h2
 ·obtain rfl : i = l.length := by omega
  simp (maxSteps:=9^9) (disch:=omega) only [BX, ↓reduceIte, nE, reduceCtorEq, c_oTwice_0, g0, g3, h.len, ints_len, clt, hi, dF]
  refine ⟨_, rfl, _, _, .weak weak_id, lr _, ?_, rfl⟩
  have : twiceB l = false := by
   rw [← Bool.not_eq_true, twice_at]
   rintro ⟨a, b, ha, hb, hlt, he⟩
   exact gn a b ha hb ha hlt he
  rw [this]
structure LsV (W : AW) (c : V) (ll : List (List Int)) (lo : Nat) (es : List V) : Prop where
 now : nowG W c es 1 lo
 len : es.length = ll.length
 el : ∀ j (h : j < es.length) (h' : j < ll.length), nowG W es[j] (intsV ll[j]) 1 lo
theorem nowG.idx' {W : AW} {K : V → AW → Prop} {h : V} {xs : List V} {s lo k : Nat} {kk : IntKind} {x : V} (hn : nowG W h xs s lo) (hx : xs[k]? = some x) : sem E (.idxp s) [h, .int kk (k : Int)] W K = K (.cptr x.cells) W := by
 have hk : k < xs.length := by
  by_cases h : k < xs.length
  ·exact h
  ·rw [List.getElem?_eq_none (by omega)] at hx; cases hx
 rw [gEg hk] at hx
 cases hx
 rcases hn with ⟨_, rfl⟩ | ⟨r, _, _, rfl, _, hg⟩
 ·simp at hk
 ·simp [sem, rsem, hg, hk]
theorem nowG.cellsX {W : AW} {h : V} {xs : List V} {s lo : Nat} (hn : nowG W h xs s lo) : h.cells = [h] ∧ h.one = true := by
 rcases hn with ⟨rfl, _⟩ | ⟨r, _, _, rfl, _⟩ <;> exact ⟨rfl, rfl⟩
theorem LsV.to {W W' : AW} {c : V} {ll : List (List Int)} {lo : Nat} {es : List V} (h : LsV W c ll lo es) (hx : W.nx ≤ W'.nx) (hg : ∀ r, lo ≤ r → r < W.nx → (∃ ys, W.get r = some (.buf true 1 ys)) → W'.get r = W.get r) : LsV W' c ll lo es :=
 ⟨h.now.to hx hg, h.len, fun j a b => (h.el j a b).to hx hg⟩
structure Ro (W : AW) (q : Nat) (L : List (List (List Int))) (lo : Nat) (cs : List V) (es : List (List V)) (N : Nat) : Prop where
 hp : W.get q = some (.row cs)
 lp : q < W.nx
 c8 : cs.length = 8
 l8 : L.length = 8
 e8 : es.length = 8
 ls : ∀ k (h : k < cs.length) (h' : k < L.length) (h'' : k < es.length), LsV W cs[k] L[k] lo es[k]
 rg : ∀ ll ∈ L, ll.length ≤ N ∧ ∀ l ∈ ll, l.length ≤ 32 ∧ ∀ n ∈ l, 0 ≤ n ∧ n < 65536
def keyL (L : List (List (List Int))) (k : Int) : List (List Int) := if k ≥ 8 then [] else L.getD k.toNat []
end Go.AL.S
