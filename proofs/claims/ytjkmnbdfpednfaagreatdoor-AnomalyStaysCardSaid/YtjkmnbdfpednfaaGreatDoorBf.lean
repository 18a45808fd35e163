/- What the program's functions do, part 6. Conditions: none. -/
import Derived.Test.YtjkmnbdfpednfaaGreatDoorBe
open Nat renaming reduceEqDiff → nE, reduceLeDiff → nL, reduceAdd → nA, reduceLT → nT, le_refl → lr
open List renaming getElem?_eq_getElem → gEg, length_map → lmp, getElem_mem → gmm, length_append → lap, length_cons → lcs, mem_singleton → msg, append_nil → apn, mem_append → map', take_length → tkl, map_cons → mcs, map_append → mpp, mem_map → mmp, any_eq_true → aet, length_replicate → lrp, take_add_one → tao, length_take → ltk, mem_filter → mfl
set_option maxRecDepth 100000
set_option maxHeartbeats 4000000
namespace Go.AL.S
open Go Go.AL Go.AL.SE Go.Proofs
def c_look : AC := (.r [.v 6 (.int .u8 0),.v 7 (.int .u8 0)] (.seq (.r [.m 9 0,.p 10 (.eqn false 0) [.t 9,.c (.nilptr)]] (.cond (.t 10) (.r [.v 6 (.int .u8 0),.v 7 (.int .u8 0)] .ret) .skip)) (.r [.m 11 1,.m 12 2,.b 13 (.call 16) 11 12,.m 8 13] (.r [.m 14 8,.m 15 0,.u 16 .nilck 15,.u 17 (.fld 0) 16,.u 18 (.load false 1) 17,.b 19 (.bin .andNot) 14 18,.m 7 19] (.r [.m 20 0,.u 21 .nilck 20,.u 22 (.fld 0) 21,.u 23 (.load false 1) 22,.m 24 8,.b 25 (.bin .or) 23 24,.u 26 .nilck 20,.u 27 (.fld 0) 26,⟨none,.store 1, [.t 27,.t 25], none⟩] (.r [.m 28 0,.u 29 .nilck 28,.u 30 (.fld 0) 29,.u 31 (.load false 1) 30,.m 32 7,.m 6 31,.m 7 32] .ret))))))
theorem ok_looke : compF Tryz.prog Tryz.f19 ⟨false, false, []⟩ = some (c_look, [.tmp 6, .tmp 7], 33) := by kernel_rfl
variable {E : Env}
theorem cnp : V.nilptr.cells = [.nilptr] := rfl
theorem eqnn {W : AW} {K : V → AW → Prop} : sem E (.eqn false 0) [.nilptr, .nilptr] W K = K (.bool true) W := rfl
theorem onp : V.nilptr.one = true := rfl
theorem sem_andn {W : AW} {K : V → AW → Prop} {a b c : Int} (h : bitI .andNot .u8 a b = some c) : sem E (.bin .andNot) [.int .u8 a, .int .u8 b] W K = K (.int .u8 c) W := by
 simp [sem, rsem, tsem, binI, h]
theorem look_c (hP : PE E) (W : AW) {r p ra rw q : Nat} {s : Str} {os : Ods} {n f m : Int} (hg : W.get r = some (.row [.int .u8 n])) (hS : St W p ra rw s) (hO : Od W q os) (hf : bitI .andNot .u8 (ofN s os : Nat) n = some f) (hm : bitI .or .u8 n (ofN s os : Nat) = some m) :
  ACalls E 19 [.ptr r 0, .ptr p 0, .ptr q 0] W fun Y W' => Y = .tuple [.int .u8 m, .int .u8 f] ∧ W' = W.put r (.row [.int .u8 m]) := by
 refine ACalls.of hP Tryz.func19 ok_looke (by simp) fun _ hok => ?_
 simp (disch:=omega) only [BX, ↓reduceIte, nE, reduceCtorEq, BM, c_look]
 refine pc (of_c29 hP W hS hO) ?_
 simp (disch:=omega) only [BZ, ↓reduceIte, nE, reduceCtorEq, BM, BD, nL, hg, sem_andn hf, sem_or hm]
 have h2 : (W.put r (.row [.int .u8 m])).get r = some (.row [.int .u8 m]) := put_at
 simp (disch:=omega) only [BS, BC, BM, h2]
 exact ⟨_, rfl, _, _, .weak weak_id, by rw [put_nx]; exact lr _, rfl, rfl⟩
theorem and0 {W : AW} {K : V → AW → Prop} : sem E (.bin .and) [.int .u8 ((0 : Nat) : Int), .int .u8 1] W K = K (.int .u8 0) W := rfl
set_option maxHeartbeats 2000000
theorem ac_load {W : AW} {K : V → AW → Prop} {a : Ac} : sem E (.load true 5) [.cptr a.V.cells] W K = K a.V W := rfl
theorem ac_frz {W : AW} {a : Ac} : W.frz a.V = a.V := rfl
set_option maxHeartbeats 8000000
def c_lawT_1 : AC := (.seq (.r [.m 58 13,.m 59 11,.u 60 (.len 1 0) 59,.b 61 (.bin .lss) 58 60] (.w 61 2)) (.seq (.block 3 (.seq (.par (.step 0 (.u 65 (.fld 0) 3) (.step 2 (.m 67 11) (.step 3 (.m 68 13) (.alt (.step 1 (.u 66 (.load false 1) 65) (.alt (.step 4 (.b 69 (.idxp 4) 67 68) (.step 5 (.u 70 (.fld 1) 69) (.alt (.step 6 (.u 71 (.load false 1) 70) (.alt (.step 7 (.b 72 (.pcall 18) 66 71) (.step 8 (.m 64 72) (.step 9 (.u 73 (.ext 0) 64) (.step 10 (.u 74 (.ext 1) 64) (.step 11 (.p 14 (.alloc [.int .u16 0,.int .u8 0,.nilsl,.nilsl,.int .u8 0]) []) (.step 12 ⟨none,.store 5, [.t 14,.t 73], none⟩ (.step 13 (.m 15 74) .done))))))) (.step 11 (.p 14 (.alloc [.int .u16 0,.int .u8 0,.nilsl,.nilsl,.int .u8 0]) []) (.step 7 (.b 72 (.pcall 18) 66 71) (.step 8 (.m 64 72) (.step 9 (.u 73 (.ext 0) 64) (.step 10 (.u 74 (.ext 1) 64) (.step 12 ⟨none,.store 5, [.t 14,.t 73], none⟩ (.step 13 (.m 15 74) .done))))))))) (.step 11 (.p 14 (.alloc [.int .u16 0,.int .u8 0,.nilsl,.nilsl,.int .u8 0]) []) (.step 6 (.u 71 (.load false 1) 70) (.step 7 (.b 72 (.pcall 18) 66 71) (.step 8 (.m 64 72) (.step 9 (.u 73 (.ext 0) 64) (.step 10 (.u 74 (.ext 1) 64) (.step 12 ⟨none,.store 5, [.t 14,.t 73], none⟩ (.step 13 (.m 15 74) .done))))))))))) (.step 11 (.p 14 (.alloc [.int .u16 0,.int .u8 0,.nilsl,.nilsl,.int .u8 0]) []) (.step 4 (.b 69 (.idxp 4) 67 68) (.step 5 (.u 70 (.fld 1) 69) (.step 6 (.u 71 (.load false 1) 70) (.step 7 (.b 72 (.pcall 18) 66 71) (.step 8 (.m 64 72) (.step 9 (.u 73 (.ext 0) 64) (.step 10 (.u 74 (.ext 1) 64) (.step 12 ⟨none,.store 5, [.t 14,.t 73], none⟩ (.step 13 (.m 15 74) .done)))))))))))) (.alt (.step 4 (.b 69 (.idxp 4) 67 68) (.step 5 (.u 70 (.fld 1) 69) (.alt (.step 1 (.u 66 (.load false 1) 65) (.alt (.step 6 (.u 71 (.load false 1) 70) (.alt (.step 7 (.b 72 (.pcall 18) 66 71) (.step 8 (.m 64 72) (.step 9 (.u 73 (.ext 0) 64) (.step 10 (.u 74 (.ext 1) 64) (.step 11 (.p 14 (.alloc [.int .u16 0,.int .u8 0,.nilsl,.nilsl,.int .u8 0]) []) (.step 12 ⟨none,.store 5, [.t 14,.t 73], none⟩ (.step 13 (.m 15 74) .done))))))) (.step 11 (.p 14 (.alloc [.int .u16 0,.int .u8 0,.nilsl,.nilsl,.int .u8 0]) []) (.step 7 (.b 72 (.pcall 18) 66 71) (.step 8 (.m 64 72) (.step 9 (.u 73 (.ext 0) 64) (.step 10 (.u 74 (.ext 1) 64) (.step 12 ⟨none,.store 5, [.t 14,.t 73], none⟩ (.step 13 (.m 15 74) .done))))))))) (.step 11 (.p 14 (.alloc [.int .u16 0,.int .u8 0,.nilsl,.nilsl,.int .u8 0]) []) (.step 6 (.u 71 (.load false 1) 70) (.step 7 (.b 72 (.pcall 18) 66 71) (.step 8 (.m 64 72) (.step 9 (.u 73 (.ext 0) 64) (.step 10 (.u 74 (.ext 1) 64) (.step 12 ⟨none,.store 5, [.t 14,.t 73], none⟩ (.step 13 (.m 15 74) .done)))))))))) (.alt (.step 6 (.u 71 (.load false 1) 70) (.alt (.step 1 (.u 66 (.load false 1) 65) (.alt (.step 7 (.b 72 (.pcall 18) 66 71) (.step 8 (.m 64 72) (.step 9 (.u 73 (.ext 0) 64) (.step 10 (.u 74 (.ext 1) 64) (.step 11 (.p 14 (.alloc [.int .u16 0,.int .u8 0,.nilsl,.nilsl,.int .u8 0]) []) (.step 12 ⟨none,.store 5, [.t 14,.t 73], none⟩ (.step 13 (.m 15 74) .done))))))) (.step 11 (.p 14 (.alloc [.int .u16 0,.int .u8 0,.nilsl,.nilsl,.int .u8 0]) []) (.step 7 (.b 72 (.pcall 18) 66 71) (.step 8 (.m 64 72) (.step 9 (.u 73 (.ext 0) 64) (.step 10 (.u 74 (.ext 1) 64) (.step 12 ⟨none,.store 5, [.t 14,.t 73], none⟩ (.step 13 (.m 15 74) .done))))))))) (.step 11 (.p 14 (.alloc [.int .u16 0,.int .u8 0,.nilsl,.nilsl,.int .u8 0]) []) (.step 1 (.u 66 (.load false 1) 65) (.step 7 (.b 72 (.pcall 18) 66 71) (.step 8 (.m 64 72) (.step 9 (.u 73 (.ext 0) 64) (.step 10 (.u 74 (.ext 1) 64) (.step 12 ⟨none,.store 5, [.t 14,.t 73], none⟩ (.step 13 (.m 15 74) .done)))))))))) (.step 11 (.p 14 (.alloc [.int .u16 0,.int .u8 0,.nilsl,.nilsl,.int .u8 0]) []) (.step 1 (.u 66 (.load false 1) 65) (.step 6 (.u 71 (.load false 1) 70) (.step 7 (.b 72 (.pcall 18) 66 71) (.step 8 (.m 64 72) (.step 9 (.u 73 (.ext 0) 64) (.step 10 (.u 74 (.ext 1) 64) (.step 12 ⟨none,.store 5, [.t 14,.t 73], none⟩ (.step 13 (.m 15 74) .done))))))))))))) (.step 11 (.p 14 (.alloc [.int .u16 0,.int .u8 0,.nilsl,.nilsl,.int .u8 0]) []) (.step 1 (.u 66 (.load false 1) 65) (.step 4 (.b 69 (.idxp 4) 67 68) (.step 5 (.u 70 (.fld 1) 69) (.step 6 (.u 71 (.load false 1) 70) (.step 7 (.b 72 (.pcall 18) 66 71) (.step 8 (.m 64 72) (.step 9 (.u 73 (.ext 0) 64) (.step 10 (.u 74 (.ext 1) 64) (.step 12 ⟨none,.store 5, [.t 14,.t 73], none⟩ (.step 13 (.m 15 74) .done))))))))))))))))) (.seq (.r [.m 75 15,.u 76 (.un .not) 75,.m 77 76,.U 78 (.fld 4) 14 77 false,.U 79 (.load false 1) 78 77 false,.P 80 (.bin .neq) [.t 79,.c (.int .u8 1)] 77 false,.p 81 .pick [.t 77,.T,.t 80]] (.cond (.t 81) (.r [.v 2 (.bool false)] .ret) .skip)) (.reg [.m 82 12,.m 83 11,.m 84 13,.b 85 (.idxp 4) 83 84,.u 86 (.fld 0) 85,.u 87 (.load false 1) 86,.b 88 (.bin .or) 82 87,.m 12 88])))) (.reg [.m 62 13,.a 63 (.bin .add) 62 1,.m 13 63])))
def c_lawT_0 : AC := (.seq (.r [.m 36 8,.m 37 0,.u 38 (.len 1 0) 37,.b 39 (.bin .lss) 36 38] (.w 39 0)) (.seq (.block 1 (.seq (.par (.step 1 (.m 43 0) (.step 2 (.m 44 8) (.step 0 (.u 42 (.load true 4) 3) (.step 3 (.b 45 (.idxp 5) 43 44) (.step 4 (.u 46 (.load true 5) 45) (.step 5 (.b 47 (.call 10) 42 46) (.step 6 (.m 9 47) .done)))))))) (.r [.u 48 (.fld 0) 3,.u 49 (.load false 1) 48,.u 50 (.fld 1) 3,.u 51 (.load false 1) 50,.b 52 (.call 16) 49 51,.m 10 52] (.r [.u 53 (.fld 0) 3,.u 54 (.load false 1) 53,.u 55 (.fld 1) 3,.u 56 (.load false 1) 55,.b 57 (.call 17) 54 56,.m 11 57] (.r [.v 12 (.int .u8 0)] (.seq (.r [.v 13 (.int .i64 0)] (.block 2 (.loop c_lawT_1))) (.r [.m 89 9,.a 90 (.bin .eql) 89 0,.m 91 90,.M 92 0 91 true,.M 93 8 91 true,.B 94 (.idxp 5) 92 93 91 true,.U 95 (.fld 0) 94 91 true,.U 96 (.load false 1) 95 91 true,.P 97 (.bin .rem) [.t 96,.c (.int .u8 6)] 91 true,.P 98 (.bin .eql) [.t 97,.c (.int .u8 4)] 91 true,.p 99 .pick [.t 91,.t 98,.F],.m 16 99] (.r [.m 101 5,.u 102 (.fld 0) 3,.u 103 (.load false 1) 102,.u 104 (.fld 1) 3,.u 105 (.load false 1) 104,.p 106 (.call 19) [.t 101,.t 103,.t 105],.m 100 106,.u 107 (.ext 0) 100,.u 108 (.ext 1) 100,.m 17 107,.m 18 108] (.seq (.r [.m 109 12,.m 110 10,.p 111 (.bin .and) [.t 110,.c (.int .u8 102)],.b 112 (.bin .neq) 109 111,.m 113 112,.M 114 16 113 false,.U 115 (.un .not) 114 113 false,.M 116 115 113 false,.M 117 6 116 true,.M 118 10 116 true,.B 119 (.bin .andNot) 117 118 116 true,.P 120 (.bin .andNot) [.t 119,.c (.int .u8 64)] 116 true,.P 121 (.bin .neq) [.t 120,.c (.int .u8 0)] 116 true,.P 122 .pick [.t 116,.t 121,.F] 113 false,.p 123 .pick [.t 113,.T,.t 122],.m 124 123,.M 125 16 124 false,.M 126 125 124 false,.M 127 6 126 true,.M 128 10 126 true,.B 129 (.bin .andNot) 127 128 126 true,.P 130 (.bin .and) [.t 129,.c (.int .u8 98)] 126 true,.P 131 (.bin .neq) [.t 130,.c (.int .u8 0)] 126 true,.P 132 .pick [.t 126,.t 131,.F] 124 false,.p 133 .pick [.t 124,.T,.t 132],.m 134 133,.M 135 7 134 false,.M 136 17 134 false,.B 137 (.bin .andNot) 135 136 134 false,.P 138 (.bin .neq) [.t 137,.c (.int .u8 0)] 134 false,.p 139 .pick [.t 134,.T,.t 138],.m 140 139,.M 141 18 140 false,.M 142 7 140 false,.B 143 (.bin .and) 141 142 140 false,.P 144 (.bin .neq) [.t 143,.c (.int .u8 0)] 140 false,.p 145 .pick [.t 140,.T,.t 144],.m 146 145,.M 147 10 146 false,.M 148 17 146 false,.B 149 (.bin .andNot) 147 148 146 false,.P 150 (.bin .neq) [.t 149,.c (.int .u8 0)] 146 false,.p 151 .pick [.t 146,.T,.t 150]] (.cond (.t 151) (.r [.v 2 (.bool false)] .ret) .skip)) (.r [.m 152 10,.m 6 152] (.reg [.m 153 17,.m 7 153]))))))))))) (.reg [.m 40 8,.a 41 (.bin .add) 40 1,.m 8 41])))
def c_lawT : AC := (.r [.v 2 (.bool false)] (.r [.p 20 (.call 7) [],.m 19 20,.u 21 (.ext 0) 19,.u 22 (.ext 1) 19,.p 3 (.alloc [.nilptr,.nilptr,.nilptr,.nilptr]) [],⟨none,.store 4, [.t 3,.t 21], none⟩,.m 4 22] (.seq (.r [.m 23 0,.u 24 (.call 8) 23,.u 25 (.un .not) 24,.m 26 25,.M 27 4 26 false,.U 28 (.un .not) 27 26 false,.p 29 .pick [.t 26,.T,.t 28]] (.cond (.t 29) (.r [.m 30 4,.m 31 30,.P 32 (.call 9) [] 31 true,.p 33 .pick [.t 31,.t 32,.F],.m 2 33] .ret) .skip)) (.r [.p 34 (.build [.int .u8 0] []) [],.u 35 .box 34,.m 5 35] (.r [.v 6 (.int .u8 0),.v 7 (.int .u8 0)] (.seq (.r [.v 8 (.int .i64 0)] (.block 0 (.loop c_lawT_0))) (.r [.p 154 (.call 9) [],.m 2 154] .ret)))))))
theorem ok_lawTe : compF Tryz.prog Tryz.f5 ⟨false, false, []⟩ = some (c_lawT, [.tmp 2], 155) := by kernel_rfl
theorem or_lt8 {a b : Nat} (ha : a < 256) (hb : b < 256) : a ||| b < 256 := Nat.or_lt_two_pow (n := 8) ha hb
theorem b64 {i : Nat} (h : i < 8) : Nat.testBit 64 i = decide (i = 6) := by
 rcases lt8 h with rfl | rfl | rfl | rfl | rfl | rfl | rfl | rfl <;> rfl
theorem b98 {i : Nat} (h : i < 8) : Nat.testBit 98 i = (decide (i = 1) || decide (i = 5) || decide (i = 6)) := by
 rcases lt8 h with rfl | rfl | rfl | rfl | rfl | rfl | rfl | rfl <;> rfl
theorem z_keep {was now : Nat} (hw : was < 256) (h : ∀ i, i < 8 → i ≠ 6 → was.testBit i = true → now.testBit i = true) : andN (andN was now) 64 = 0 := by
 refine zero_of (andN_lt (andN_lt hw)) fun i hi => ?_
 rw [andN_bit hi, andN_bit hi, b64 hi]
 by_cases h6 : i = 6
 ·simp [h6]
 ·cases hb : was.testBit i with
  | false => rfl
  | true => rw [h i hi h6 hb]; rfl
theorem z_gone {was now : Nat} (hw : was < 256) (h : ∀ i, i < 8 → (i = 1 ∨ i = 5 ∨ i = 6) → was.testBit i = true → now.testBit i = true) : andN was now &&& 98 = 0 := by
 refine zero_of (Nat.lt_of_le_of_lt Nat.and_le_left (andN_lt hw)) fun i hi => ?_
 rw [Nat.testBit_and, andN_bit hi, b98 hi]
 by_cases hc : i = 1 ∨ i = 5 ∨ i = 6
 ·cases hb : was.testBit i with
  | false => rfl
  | true => rw [h i hi hc hb]; rfl
 ·have : (decide (i = 1) || decide (i = 5) || decide (i = 6)) = false := by simp; omega
  rw [this, Bool.and_false]
theorem z_seen {a b : Nat} (ha : a < 256) : andN a (a ||| b) = 0 := zero_of (andN_lt ha) fun i hi => by
 rw [andN_bit hi, Nat.testBit_or]; cases a.testBit i <;> rfl
theorem z_now {a b : Nat} (hb : b < 256) : andN b (a ||| b) = 0 := zero_of (andN_lt hb) fun i hi => by
 rw [andN_bit hi, Nat.testBit_or]; cases b.testBit i <;> cases a.testBit i <;> rfl
theorem z_fresh {a b : Nat} (hb : b < 256) : andN b a &&& a = 0 := zero_of (Nat.lt_of_le_of_lt Nat.and_le_left (andN_lt hb)) fun i hi => by
 rw [Nat.testBit_and, andN_bit hi]; cases b.testBit i <;> cases a.testBit i <;> rfl
theorem sem_and8 {W : AW} {K : V → AW → Prop} {a b c : Int} (h : bitI .and .u8 a b = some c) : sem E (.bin .and) [.int .u8 a, .int .u8 b] W K = K (.int .u8 c) W := by
 simp [sem, rsem, tsem, binI, h]
theorem tell_go (hP : PE E) {W : AW} {p ra rw q b3 b5 F k : Nat} {v : V} {s : Str} {o : Ods} {was seen now e : Int} (hS : St W p ra rw s) (hC : Cl W) (h3 : W.get b3 = some (.row [.ptr p 0, .ptr q 0, .ptr F 0, .ptr (F + 1) 0])) (hb3 : b3 < W.nx) {A : AFr} {Q : Exit → AFr → AW → Prop}
  (a0 : A 0 = some v) (a3 : A 3 = some (.ptr b3 0)) (a5 : A 5 = some (.ptr b5 0)) (a6 : A 6 = some (.int .u8 was)) (a7 : A 7 = some (.int .u8 seen)) (a8 : A 8 = some (.int .i64 k)) (a9 : A 9 = some (.int .i64 e)) (a10 : A 10 = some (.int .u8 now)) (a11 : A 11 = some (nowGS 4 ((faultsR s o).map Flt.V))) (a12 : A 12 = some (.int .u8 0)) (a13 : A 13 = some (.int .i64 0))
  (hQ : ∀ A' W', A' 0 = some v → A' 3 = some (.ptr b3 0) → A' 5 = some (.ptr b5 0) → A' 6 = some (.int .u8 was) → A' 7 = some (.int .u8 seen) → A' 8 = some (.int .i64 k) → A' 9 = some (.int .i64 e) → A' 10 = some (.int .u8 now) → A' 12 = some (.int .u8 ((orF 0 (faultsR s o) : Nat) : Int)) → Ex W W' → Q (.exit 2) A' W') : awp E (.loop c_lawT_1) Q A W := by
 have hs := nowGS_S 4 ((faultsR s o).map Flt.V)
 have hfl : (faultsR s o).length < 2 ^ 40 := by have := flts_len s o hS.ok; omega
 rw [e_loop]
 refine alp (fun (j : Nat) A1 W1 => A1 0 = some v ∧ A1 3 = some (.ptr b3 0) ∧ A1 5 = some (.ptr b5 0) ∧ A1 6 = some (.int .u8 was) ∧ A1 7 = some (.int .u8 seen) ∧ A1 8 = some (.int .i64 k) ∧ A1 9 = some (.int .i64 e) ∧ A1 10 = some (.int .u8 now) ∧ A1 11 = some (nowGS 4 ((faultsR s o).map Flt.V)) ∧ A1 12 = some (.int .u8 ((orF 0 ((faultsR s o).take j) : Nat) : Int)) ∧ A1 13 = some (.int .i64 j) ∧ j ≤ (faultsR s o).length ∧ Ex W W1) (fun j => (faultsR s o).length - j) 0
  ⟨a0, a3, a5, a6, a7, a8, a9, a10, a11, a12, a13, Nat.zero_le _, Ex.refl hC⟩ ?_
 rintro j A1 W1 ⟨g0, g3, g5, g6, g7, g8, g9, g10, g11, g12, g13, gj, gE⟩ _
 by_cases hj : j < (faultsR s o).length
 ·have hat : ((faultsR s o).map Flt.V)[j]? = some ((faultsR s o)[j]).V := by simp [hj]
  have hfm := gmm hj
  have hfo := fl_ok hfm
  obtain ⟨t, ht, hst⟩ := flt_com hS.ok.lt hfm
  have hid := (find_ok hS.ok ht).2
  have htk : orF 0 ((faultsR s o).take (j + 1)) = orF 0 ((faultsR s o).take j) ||| ((faultsR s o)[j]).fl.toNat := by
   rw [tao, gEg hj, orF, List.foldl_append]; rfl
  have hlt := orF_lt (l := (faultsR s o).take j) (fun f hf => fl_ok (List.mem_of_mem_take hf)) (show 0 < 256 by decide)
  generalize (faultsR s o)[j] = f at hat hfo ht hid htk
  have hor := bitor8 (orF 0 ((faultsR s o).take j)) f.fl.toNat hlt (by omega)
  rw [Int.toNat_of_nonneg hfo.1] at hor
  have hgn := gE.nx
  have k3 : W1.get b3 = some (.row [.ptr p 0, .ptr q 0, .ptr F 0, .ptr (F + 1) 0]) := by rw [gE.get _ hb3]; exact h3
  refine awp_startC gE.cl ?_
  simp (disch:=omega) only [BX, ↓reduceIte, nE, BM, BD, nA, nL, c_lawT_1, g3, g11, g13, hs.len, lmp, clt, hj, dT, hs.idx hat, Flt.V, k3]
  have hfc : ∀ l, ACalls E 18 [.ptr p 0, .int .u16 f.id] (X W1 W1.nx l) fun Y W' => Y = .tuple [t.V, .bool true] ∧ W' = X W1 W1.nx l := fun l => by
   have := find_c (E := E) hP (X W1 W1.nx l) (hS.ex (gE.X (l := l))) f.id (by rw [← hid.1]; exact hid.2.id0) (by rw [← hid.1]; exact hid.2.id1)
   rw [ht] at this
   exact this
  have z1 : ((1 : Int) != 1) = false := rfl
  repeat' with_reducible refine And.intro ?_ ?_
  all_goals refine pcall_go rfl (hfc _) ?_
  all_goals simp (disch:=omega) only [BZ, ↓reduceIte, nE, BM, BD, nA, nL, nT, msV_one, lsV_one, Tx.V, hst]
  all_goals repeat (rw [guard_if]; simp (disch:=omega) only [BS, BC, cond_if, ↓reduceIte, nE, reduceCtorEq, BM, BD, nA, nL, z1, g12, g11, g13, hs.idx hat, Flt.V, sem_or hor, wadd1])
  all_goals exact ⟨j + 1, ⟨g0, g3, g5, g6, g7, g8, g9, g10, tt, by rw [htk], tt, hj, gE.X⟩, by omega, by simp only [rf]; omega⟩
 ·obtain rfl : j = (faultsR s o).length := by omega
  rw [tkl] at g12
  simp (disch:=omega) only [BX, ↓reduceIte, nE, c_lawT_1, g11, g13, hs.len, lmp, clt, hj, dF]
  exact hQ _ _ g0 g3 g5 g6 g7 g8 g9 g10 g12 gE
theorem Bt.put {Wb W : AW} {F p ra rw q N x : Nat} {s : Str} {o : Ods} {r : List V} (B : Bt Wb F p ra rw q W s o N) (h1 : F + 2 ≤ x) (h2 : x < W.nx) (hr : W.get x = some (.row r)) (ob : AObj) : Bt Wb F p ra rw q (W.put x ob) s o N := by
 obtain ⟨l1, l2, l3, l4, l5⟩ := B.lt
 obtain ⟨h, l, L, cs, es, hR, hO⟩ := B.doc
 have hF : FrO W x (W.put x ob) := ⟨B.cl.put h2, by rw [put_nx]; exact lr _, fun y _ hy => put_ne hy⟩
 exact ⟨B.sx.same hF.cl hF.nx fun y hy hc => put_ne (by omega), B.lt, by rw [put_nx]; exact B.nx, h, l, L, cs, es, hR.fo hF hr (by omega), hO.to hF.nx (put_ne (by omega)) fun y _ _ ⟨ys, hy⟩ => put_ne (by rintro rfl; rw [hr] at hy; cases hy)⟩
theorem acw {W : AW} {K : V → AW → Prop} {a : Ac} : sem E (.fld 0) [.cptr a.V.cells] W K = K (.cptr [.int .u8 a.what, .int .u8 a.client, .int .u16 a.id, a.tx, a.rd]) W := by
 simp [Ac.V, V.cells, sem, rsem, tsem]
theorem lawT_c (hP : PE E) (W : AW) {v : V} {l : List Ac} (hv : isS 5 v (l.map Ac.V)) (ha : ∀ a ∈ l, a.ok) (hl : l.length < 2 ^ 48) :
  ACalls E 5 [v] W fun Y _ => Y = .bool true := by
 refine ACalls.of hP Tryz.func5 ok_lawTe (by simp) fun _ hok => ?_
 refine awp_start hok ?_
 simp (disch:=omega) only [BZ, c_lawT]
 refine (fresh_c hP _).mono ?_
 rintro _ W1 ⟨F, p, ra, rw, q, rfl, hB⟩
 have hst := X_start hok
 rw [← hst] at hB
 rw [hB.cl.start]
 simp (disch:=omega) only [BZ, ↓reduceIte, nE, reduceCtorEq, BM, BD, nA, nL, nT, ]
 rw [hv.frz]
 refine (few_c hP _ hv ha hl).mono ?_
 rintro _ _ ⟨rfl, b, rfl, hb⟩
 have hE1 : ∀ l, Ex W1 (X W1 W1.nx l) := fun l => (Ex.refl hB.cl).X
 have r0 : rf W1.nx 0 = W1.nx := rfl
 have r1 : rf W1.nx 1 = W1.nx + 1 := rfl
 have l1 := hB.lt
 have l2 := hB.nx
 cases b with
 | false =>
  simp (disch:=omega) only [BS, ↓reduceIte, BD, ]
  repeat (rw [guard_if]; simp (disch:=omega) only [BX, ↓reduceIte, nE, BM, ])
  refine pc (awake_c hP _) ?_
  simp (disch:=omega) only [BS, BC, ↓reduceIte, nE, ]
  repeat (rw [guard_if]; simp (disch:=omega) only [BX, ↓reduceIte, nE, reduceCtorEq, BM, BD, nA, nL, nT, Nat.reduceMul, msV_cells, msV_one, lsV_cells, lsV_one, msV_frz, lsV_frz, ])
  exact ⟨_, rfl, _, W, .weak (weak_back hok rfl fun x hx => (hB.ex (hE1 _)).sx.nw.ex.get x hx), lr _, rfl⟩
 | true =>
  obtain ⟨hl60, hsm⟩ := hb rfl
  simp (disch:=omega) only [BS, ↓reduceIte, BD, ]
  repeat (rw [guard_if]; simp (disch:=omega) only [BX, ↓reduceIte, nE, BM, BD, ])
  obtain ⟨W2, hW2⟩ : ∃ W2, W2 = X W1 W1.nx [.row [.ptr p 0, .ptr q 0, .ptr F 0, .ptr (F + 1) 0], .row [.int .u8 0]] := ⟨_, rfl⟩
  have hB2 : Bt W F p ra rw q W2 [] os0 0 := by rw [hW2]; exact hB.ex (hE1 _)
  have g2a : W2.get (rf W1.nx 0) = some (.row [.ptr p 0, .ptr q 0, .ptr F 0, .ptr (F + 1) 0]) := by rw [hW2, X_get]; rfl
  have g2b : W2.get (rf W1.nx 1) = some (.row [.int .u8 0]) := by rw [hW2, X_get]; rfl
  have n2 : W2.nx = W1.nx + 2 := by rw [hW2]; rfl
  rw [← hW2]
  clear hW2
  have keep : ∀ {Wa Wb : AW} {x : Nat} {r : List V}, FrB Wa Wb F p ra rw q → W1.nx ≤ x → x < Wa.nx → Wa.get x = some (.row r) → Wb.get x = some (.row r) := fun hF hx hx' hg => by
   rw [hF.get _ hx' (by omega) (by omega) (by omega) (by omega) (by omega) (by omega) (fun cs => by rw [hg]; simp)]; exact hg
  rw [e_loop]
  refine alp (fun (σ : Nat × Nat × Nat) A1 Wa => A1 0 = some v ∧ A1 3 = some (.ptr (rf W1.nx 0) 0) ∧ A1 5 = some (.ptr (rf W1.nx 1) 0) ∧ A1 6 = some (.int .u8 (σ.2.1 : Nat)) ∧ A1 7 = some (.int .u8 (σ.2.2 : Nat)) ∧ A1 8 = some (.int .i64 (σ.1 : Nat)) ∧ σ.1 ≤ l.length ∧ W1.nx + 1 < Wa.nx ∧ Wa.get (rf W1.nx 0) = some (.row [.ptr p 0, .ptr q 0, .ptr F 0, .ptr (F + 1) 0]) ∧ Wa.get (rf W1.nx 1) = some (.row [.int .u8 (σ.2.2 : Nat)]) ∧ Bt W F p ra rw q Wa (runG ([], os0) (l.take σ.1)).1 (runG ([], os0) (l.take σ.1)).2 (8 * σ.1) ∧ OrdI (runG ([], os0) (l.take σ.1)).1 (runG ([], os0) (l.take σ.1)).2 ∧ σ.2.1 < 256 ∧ σ.2.2 < 256 ∧ ∀ i, i < 8 → σ.2.1.testBit i = true → (ofN (runG ([], os0) (l.take σ.1)).1 (runG ([], os0) (l.take σ.1)).2).testBit i = true) (fun σ => l.length - σ.1) (0, 0, 0)
   ⟨rfl, rfl, rfl, rfl, rfl, rfl, Nat.zero_le _, by omega, g2a, g2b, hB2, OrdI.zero, by decide, by decide, fun i _ h => by simp at h⟩ ?_
  rintro ⟨k, was, seen⟩ A1 Wa ⟨g0, g3, g5, g6, g7, g8, gk, gn, gr, gs, gB, gI, gw, ge, gb⟩ gW
  simp only at g6 g7 g8 gk gs gB gI gw ge gb
  by_cases hk : k < l.length
  ·have hat : (l.map Ac.V)[k]? = some (l[k]).V := by simp [hk]
   have hak := ha _ (gmm hk)
   have hsk := hsm _ (gmm hk)
   have hsn := run_snoc (x := ([], os0)) hk
   generalize l[k] = a at hat hak hsk hsn
   generalize runG ([], os0) (l.take k) = so at gB gI gb hsn
   obtain ⟨s, o⟩ := so
   simp only at gB gI gb hsn
   have hact := act_c (E := E) hP Wa gB (by omega) hak hsk
   simp (disch:=omega) only [BX, ↓reduceIte, nE, reduceCtorEq, BM, BD, nA, nL, c_lawT_0, g0, g3, g8, gr, hv.len, lmp, clt, hk, dT, hv.idx hat, ac_load, ac_frz]
   refine hact.mono ?_
   rintro _ Wb ⟨rfl, b1, b2⟩
   have hnb := b2.nx
   have kr := keep b2 (by omega) (by omega) gr
   have ks := keep b2 (by omega) (by omega) gs
   have hso := gB.sx.nw.st.ok
   have hso' := b1.sx.nw.st.ok
   have stp := stp_act hso gI a hso' hak.ms
   have hrun : runG ([], os0) (l.take (k + 1)) = ((actG s o a).1, (actG s o a).2.1) := hsn
   generalize (actG s o a).2.2.1 = e at stp ⊢
   generalize (actG s o a).1 = s' at b1 hso' stp hrun
   generalize (actG s o a).2.1 = o' at b1 stp hrun
   simp (disch:=omega) only [BZ, ↓reduceIte, nE, BM, BD, g3, kr]
   refine pc (of_c29 hP _ b1.sx.nw.st b1.sx.od) ?_
   simp (disch:=omega) only [BZ, ↓reduceIte, nE, BM, BD, kr, g3]
   refine pc (faults_c hP _ b1.sx.nw.st b1.sx.od) ?_
   simp (disch:=omega) only [BS, e_seq, ↓reduceIte]
   refine tell_go hP b1.sx.nw.st b1.cl kr (by omega) (k := k) (e := e) (now := ofN s' o') (was := was) (seen := seen) (b5 := rf W1.nx 1) (v := v) (by simp only [e_put]; exact g0) (by simp only [e_put]; exact g3) (by simp only [e_put]; exact g5) (by simp only [e_put]; exact g6) (by simp only [e_put]; exact g7) (by simp only [e_put]; exact g8) tt tt tt tt tt ?_
   intro A' Wd u0 u3 u5 u6 u7 u8 u9 u10 u12 hEd
   have kr' : Wd.get (rf W1.nx 0) = some (.row [.ptr p 0, .ptr q 0, .ptr F 0, .ptr (F + 1) 0]) := by rw [hEd.get _ (by omega)]; exact kr
   have ks' : Wd.get (rf W1.nx 1) = some (.row [.int .u8 (seen : Nat)]) := by rw [hEd.get _ (by omega)]; exact ks
   have Bd := b1.ex hEd
   have hnd := hEd.nx
   have hnow := of_lt s' o'
   have hall := or_lt8 ge hnow
   have htl : ofN s' o' &&& 102 = orF 0 (faultsR s' o') := (told_mask s' o').symm
   have m1 : bitI .and .u8 ((ofN s' o' : Nat) : Int) 102 = some ((ofN s' o' &&& 102 : Nat) : Int) := bitand8 (ofN s' o') 102 hnow (by decide)
   rw [htl] at m1
   have m2 := bitandn8 was (ofN s' o') gw hnow
   have m3 : bitI .andNot .u8 ((andN was (ofN s' o') : Nat) : Int) 64 = some ((andN (andN was (ofN s' o')) 64 : Nat) : Int) := bitandn8 (andN was (ofN s' o')) 64 (andN_lt gw) (by decide)
   have m4 : bitI .and .u8 ((andN was (ofN s' o') : Nat) : Int) 98 = some ((andN was (ofN s' o') &&& 98 : Nat) : Int) := bitand8 (andN was (ofN s' o')) 98 (andN_lt gw) (by decide)
   have m5 := bitandn8 seen (seen ||| ofN s' o') ge hall
   rw [z_seen ge] at m5
   have m6 := bitand8 (andN (ofN s' o') seen) seen (andN_lt hnow) ge
   rw [z_fresh hnow] at m6
   have m7 := bitandn8 (ofN s' o') (seen ||| ofN s' o') hnow hall
   rw [z_now hnow] at m7
   have m8 := bitandn8 (ofN s' o') seen hnow ge
   have m9 := bitor8 seen (ofN s' o') ge hnow
   have w0 : ((((0 : Nat) : Int)) != 0) = false := rfl
   have we : ((((orF 0 (faultsR s' o') : Nat) : Int)) != ((orF 0 (faultsR s' o') : Nat) : Int)) = false := by simp
   have hlook := look_c hP Wd ks' Bd.sx.nw.st Bd.sx.od m8 m9
   have hlc : rf W1.nx 1 < Wd.nx := by omega
   have fin : (fun (σ : Nat × Nat × Nat) (Wz : AW) => σ.1 ≤ l.length ∧ W1.nx + 1 < Wz.nx ∧ Wz.get (rf W1.nx 0) = some (.row [.ptr p 0, .ptr q 0, .ptr F 0, .ptr (F + 1) 0]) ∧ Wz.get (rf W1.nx 1) = some (.row [.int .u8 (σ.2.2 : Nat)]) ∧ Bt W F p ra rw q Wz (runG ([], os0) (l.take σ.1)).1 (runG ([], os0) (l.take σ.1)).2 (8 * σ.1) ∧ OrdI (runG ([], os0) (l.take σ.1)).1 (runG ([], os0) (l.take σ.1)).2 ∧ σ.2.1 < 256 ∧ σ.2.2 < 256 ∧ ∀ i, i < 8 → σ.2.1.testBit i = true → (ofN (runG ([], os0) (l.take σ.1)).1 (runG ([], os0) (l.take σ.1)).2).testBit i = true) (k + 1, ofN s' o', seen ||| ofN s' o') (Wd.put (rf W1.nx 1) (.row [.int .u8 ((seen ||| ofN s' o' : Nat) : Int)])) := by
    refine ⟨hk, by rw [put_nx]; omega, by rw [put_ne (by omega)]; exact kr', put_at, ?_, ?_, hnow, hall, ?_⟩
    ·simp only [hrun]
     rw [show 8 * (k + 1) = 8 * k + 8 by omega]
     exact Bd.put (by omega) hlc ks' _
    ·simp only [hrun]; exact stp.oi
    ·simp only [hrun]; exact fun i _ h => h
   have hfk : goneB a e = false → andN (andN was (ofN s' o')) 64 = 0 := fun hg => z_keep gw fun i hi h6 hb => of_stays hso gI stp hi (fun _ => h6) (fun h => by rw [hg] at h; cases h) (gb i hi hb)
   have hfg : goneB a e = true → andN was (ofN s' o') &&& 98 = 0 := fun hg => z_gone gw fun i hi h6 hb => of_stays hso gI stp hi (fun h => by rw [hg] at h; cases h) (fun _ => h6) (gb i hi hb)
   by_cases he : e = 0
   ·have e0 : (e == 0) = true := by simp [he]
    by_cases h4 : w6 a = 4
    ·have e4 : (a.what.tmod 6 == 4) = true := by simp [w6] at h4; simp [h4]
     have hg : goneB a e = true := by simp [goneB, he, h4]
     have f2 := hfg hg
     rw [f2] at m4
     simp (disch:=omega) only [BS, e_seq, ↓reduceIte, u9, e0]
     repeat (rw [guard_if]; simp (disch:=omega) only [BS, e_seq, ↓reduceIte, nE, reduceCtorEq, BM, u0, u8, hv.idx hat, acw, m_rem6, e4])
     simp (disch:=omega) only [BS, BC, ↓reduceIte, nE, BM, BD, u5, u3, kr']
     refine hlook.mono ?_
     rintro _ _ ⟨rfl, rfl⟩
     simp (disch:=omega) only [BS, e_seq, ↓reduceIte, nE, u10, u12, sem_and8 m1, we]
     repeat (rw [guard_if]; simp (disch:=omega) only [BX, ↓reduceIte, nE, reduceCtorEq, BM, BD, u6, u7, u10, sem_andn m2, sem_and8 m4, sem_andn m5, sem_and8 m6, sem_andn m7, w0, u0, u3, u5, u8, wadd1])
     exact ⟨(k + 1, ofN s' o', seen ||| ofN s' o'), ⟨tt, tt, tt, tt, tt, tt, fin⟩, by show l.length - (k + 1) < l.length - k; omega, by rw [put_nx]; omega⟩
    ·have e4 : (a.what.tmod 6 == 4) = false := by simpa [w6] using h4
     have hg : goneB a e = false := by simp [goneB, h4]
     have f1 := hfk hg
     rw [f1] at m3
     simp (disch:=omega) only [BS, e_seq, ↓reduceIte, u9, e0]
     repeat (rw [guard_if]; simp (disch:=omega) only [BS, e_seq, ↓reduceIte, nE, reduceCtorEq, BM, u0, u8, hv.idx hat, acw, m_rem6, e4])
     simp (disch:=omega) only [BS, BC, ↓reduceIte, nE, BM, BD, u5, u3, kr']
     refine hlook.mono ?_
     rintro _ _ ⟨rfl, rfl⟩
     simp (disch:=omega) only [BS, e_seq, ↓reduceIte, nE, u10, u12, sem_and8 m1, we]
     repeat (rw [guard_if]; simp (disch:=omega) only [BX, ↓reduceIte, nE, reduceCtorEq, BM, BD, u6, u7, u10, sem_andn m2, sem_andn m3, sem_andn m5, sem_and8 m6, sem_andn m7, w0, u0, u3, u5, u8, wadd1])
     exact ⟨(k + 1, ofN s' o', seen ||| ofN s' o'), ⟨tt, tt, tt, tt, tt, tt, fin⟩, by show l.length - (k + 1) < l.length - k; omega, by rw [put_nx]; omega⟩
   ·have e0 : (e == 0) = false := by simpa using he
    have hg : goneB a e = false := by simp [goneB, he]
    have f1 := hfk hg
    rw [f1] at m3
    simp (disch:=omega) only [BS, e_seq, ↓reduceIte, u9, e0]
    repeat (rw [guard_if]; simp (disch:=omega) only [BZ, ↓reduceIte, nE, BM, ])
    simp (disch:=omega) only [BS, BC, ↓reduceIte, nE, BM, BD, u5, u3, kr']
    refine hlook.mono ?_
    rintro _ _ ⟨rfl, rfl⟩
    simp (disch:=omega) only [BS, e_seq, ↓reduceIte, nE, u10, u12, sem_and8 m1, we]
    repeat (rw [guard_if]; simp (disch:=omega) only [BX, ↓reduceIte, nE, reduceCtorEq, BM, BD, u6, u7, u10, sem_andn m2, sem_andn m3, sem_andn m5, sem_and8 m6, sem_andn m7, w0, u0, u3, u5, u8, wadd1])
    exact ⟨(k + 1, ofN s' o', seen ||| ofN s' o'), ⟨tt, tt, tt, tt, tt, tt, fin⟩, by show l.length - (k + 1) < l.length - k; omega, by rw [put_nx]; omega⟩
  ·obtain rfl : k = l.length := by omega
   simp (disch:=omega) only [BX, ↓reduceIte, nE, reduceCtorEq, c_lawT_0, g0, g8, hv.len, lmp, clt, hk, dF]
   refine pc (awake_c hP _) ?_
   simp (disch:=omega) only [BS, BC, ↓reduceIte, ]
   exact ⟨_, rfl, _, W, .weak (weak_back hok rfl fun x hx => gB.sx.nw.ex.get x hx), lr _, rfl⟩
end Go.AL.S
namespace Go.AL.S
open Go Go.AL
def shMi : Sh := .st [.bool, .int .u8, .int .u16]
def shAc : Sh := .st [.int .u8, .int .u8, .int .u16, .sl shMi, .sl (.sl (.int .u16))]
theorem wf_u8 {n : Int} (h : (Lit.int .u8 n).wf = true) : 0 ≤ n ∧ n < 256 := by
 simp [Lit.wf, IntKind.min, IntKind.max, IntKind.signed, IntKind.bits] at h; omega
theorem wf_u16 {n : Int} (h : (Lit.int .u16 n).wf = true) : 0 ≤ n ∧ n < 65536 := by
 simp [Lit.wf, IntKind.min, IntKind.max, IntKind.signed, IntKind.bits] at h; omega
theorem list_of {α : Type} {f : α → V} {p : α → Prop} : ∀ {xs : List V}, (∀ x ∈ xs, ∃ a, x = f a ∧ p a) → ∃ l : List α, xs = l.map f ∧ ∀ a ∈ l, p a
 | [], _ => ⟨[], rfl, by simp⟩
 | x :: xs, h => by
  obtain ⟨a, rfl, ha⟩ := h x (by simp)
  obtain ⟨l, rfl, hl⟩ := list_of (xs := xs) fun y hy => h y (by simp [hy])
  refine ⟨a :: l, rfl, fun b hb => ?_⟩
  rcases List.mem_cons.1 hb with rfl | hb
  ·exact ha
  ·exact hl b hb
theorem mi_of {ws : List V} (h : shMi.Is ws) : ∃ m : Mi, shMi.val ws = m.V ∧ m.ok := by
 obtain ⟨_, _, rfl, ⟨b, rfl⟩, _, _, rfl, ⟨k, rfl, hk⟩, _, _, rfl, ⟨n, rfl, hn⟩, rfl⟩ := h
 have h1 := wf_u8 hk
 have h2 := wf_u16 hn
 exact ⟨⟨b, k, n⟩, rfl, h1.1, h1.2, h2.1, h2.2⟩
theorem mis_of {ws : List V} (h : (Sh.sl shMi).Is ws) : ∃ v l, ws = [v] ∧ isMs v l ∧ ∀ m ∈ l, m.ok := by
 obtain ⟨v, xs, rfl, hs, _, hx⟩ := h
 obtain ⟨l, rfl, hl⟩ := list_of (f := Mi.V) (p := Mi.ok) fun x hxm => by
  obtain ⟨ws, h1, rfl⟩ := hx x hxm
  obtain ⟨m, h2, h3⟩ := mi_of h1
  exact ⟨m, h2, h3⟩
 exact ⟨v, l, rfl, hs, hl⟩
theorem ints_of {ws : List V} (h : (Sh.sl (.int .u16)).Is ws) : ∃ v o, ws = [v] ∧ isEl v o ∧ ∀ n ∈ nums o, 0 ≤ n ∧ n < 65536 := by
 obtain ⟨v, xs, rfl, hs, _, hx⟩ := h
 obtain ⟨l, rfl, hl⟩ := list_of (f := V.int .u16) (p := fun n => 0 ≤ n ∧ n < 65536) fun x hxm => by
  obtain ⟨ws, ⟨n, rfl, hn⟩, rfl⟩ := hx x hxm
  exact ⟨n, rfl, wf_u16 hn⟩
 rcases hs with ⟨rfl, _⟩ | ⟨rfl, _⟩ | ⟨f, rfl⟩
 ·exact ⟨_, none, rfl, .inl ⟨rfl, rfl⟩, by simp [nums]⟩
 ·exact ⟨_, some [], rfl, .inr (.inl ⟨rfl, rfl⟩), by simp [nums]⟩
 ·exact ⟨_, some l, rfl, .inr (.inr ⟨f, l, rfl, rfl⟩), hl⟩
theorem lists_of {ws : List V} (h : (Sh.sl (.sl (.int .u16))).Is ws) : ∃ v ls, ws = [v] ∧ isLs v ls ∧ ∀ o ∈ ls, ∀ n ∈ nums o, 0 ≤ n ∧ n < 65536 := by
 obtain ⟨v, xs, rfl, hs, _, hx⟩ := h
 have hgo : ∀ xs : List V, (∀ x ∈ xs, ∃ ws, (Sh.sl (.int .u16)).Is ws ∧ x = (Sh.sl (.int .u16)).val ws) → ∃ ls : List (Option (List Int)), xs.length = ls.length ∧ (∀ k (h : k < xs.length) (h' : k < ls.length), isEl xs[k] ls[k]) ∧ ∀ o ∈ ls, ∀ n ∈ nums o, 0 ≤ n ∧ n < 65536 := by
  intro xs
  induction xs with
  | nil => intro _; exact ⟨[], rfl, fun k h => by simp at h, by simp⟩
  | cons x xs ih =>
   intro h
   obtain ⟨ws, h1, rfl⟩ := h x (by simp)
   obtain ⟨v, o, rfl, h2, h3⟩ := ints_of h1
   obtain ⟨ls, l1, l2, l3⟩ := ih fun y hy => h y (by simp [hy])
   refine ⟨o :: ls, by simp [l1], fun k hk hk' => ?_, fun o' ho' => ?_⟩
   ·cases k with
    | zero => exact h2
    | succ k => exact l2 k (by simpa using hk) (by simpa using hk')
   ·rcases List.mem_cons.1 ho' with rfl | ho'
    ·exact h3
    ·exact l3 o' ho'
 obtain ⟨ls, l1, l2, l3⟩ := hgo xs hx
 exact ⟨v, ls, rfl, ⟨xs, hs, l1, l2⟩, l3⟩
theorem ac_of {ws : List V} (h : shAc.Is ws) : ∃ a : Ac, shAc.val ws = a.V ∧ a.ok := by
 obtain ⟨_, _, rfl, ⟨w, rfl, hw⟩, _, _, rfl, ⟨c, rfl, hc⟩, _, _, rfl, ⟨i, rfl, hi⟩, ws3, _, rfl, h3, ws4, _, rfl, h4, rfl⟩ := h
 have hb := h4.bel (n := 0)
 obtain ⟨t, l, rfl, t1, t2⟩ := mis_of h3
 obtain ⟨r, ls, rfl, r1, r2⟩ := lists_of h4
 refine ⟨⟨w, c, i, t, l, r, ls⟩, rfl, wf_u8 hw, wf_u8 hc, wf_u16 hi, t1, r1, t2, r2, ?_⟩
 simpa [V.belL] using hb
theorem acs_of {ws : List V} (h : (Sh.sl shAc).Is ws) : ∃ v, ∃ l : List Ac, ws = [v] ∧ isS 5 v (l.map Ac.V) ∧ (∀ a ∈ l, a.ok) ∧ l.length < 2 ^ 48 := by
 obtain ⟨v, xs, rfl, hs, hl, hx⟩ := h
 obtain ⟨l, rfl, hl'⟩ := list_of (f := Ac.V) (p := Ac.ok) fun x hxm => by
  obtain ⟨ws, h1, rfl⟩ := hx x hxm
  obtain ⟨a, h2, h3⟩ := ac_of h1
  exact ⟨a, h2, h3⟩
 exact ⟨v, l, rfl, hs, hl', by simpa using hl⟩
end Go.AL.S
