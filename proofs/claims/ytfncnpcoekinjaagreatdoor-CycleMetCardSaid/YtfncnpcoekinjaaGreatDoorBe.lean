/- What the program's functions do, part 5. Conditions: none. -/
import Derived.Test.YtfncnpcoekinjaaGreatDoorBd
import Derived.Shelf.Strings.BuilderK
import Derived.Shelf.Strconv.Itoa3
import Derived.WalkKit
import Derived.BigCall
open Nat renaming reduceEqDiff → nE, reduceLeDiff → nL, reduceAdd → nA, reduceLT → nT, le_refl → lr
open List renaming getElem?_eq_getElem → gEg, length_map → lmp, getElem_mem → gmm, length_append → lap, length_cons → lcs, mem_singleton → msg, append_nil → apn, mem_append → map', take_length → tkl, map_cons → mcs, map_append → mpp, mem_map → mmp, any_eq_true → aet, length_replicate → lrp, take_add_one → tao, length_take → ltk, mem_filter → mfl
set_option maxRecDepth 100000
set_option maxHeartbeats 8000000
namespace Go.AL.S
open Go Go.AL Go.AL.SE Go.Proofs
def c_cAhead_B3 : AC := (.block 3 (.r [.b 33 (.idxp 3) 29 31,.u 34 (.load true 3) 33,.p 13 (.alloc [.int .u16 0,.int .u16 0,.int .u8 0]) [],⟨none,.store 3, [.t 13,.t 34], none⟩] (.seq (.par (.step 0 (.u 35 (.fld 1) 13) (.step 2 (.u 37 (.fld 1) 11) (.alt (.step 1 (.u 36 (.load false 1) 35) (.alt (.step 3 (.u 38 (.load false 1) 37) (.step 4 (.m 39 38) (.step 5 (.U 40 (.fld 2) 13 39 false) (.step 7 (.M 42 0 39 false) (.step 8 (.U 43 .nilck 42 39 false) (.step 9 (.U 44 (.fld 0) 43 39 false) (.step 10 (.U 45 (.fld 0) 44 39 false) (.alt (.step 6 (.U 41 (.load false 1) 40 39 false) (.alt (.step 11 (.U 46 (.load false 1) 45 39 false) (.step 12 (.B 47 (.bin .eql) 41 46 39 false) (.step 13 (.p 48 .pick [.t 39,.T,.t 47]) (.step 14 (.b 49 (.build [.int .u16 0,.bool false] [(0, 1), (1, 1)]) 36 48) (.step 15 (.p 14 (.alloc [.int .u16 0,.bool false]) []) (.step 16 ⟨none,.store 2, [.t 14,.t 49], none⟩ .done)))))) (.step 15 (.p 14 (.alloc [.int .u16 0,.bool false]) []) (.step 11 (.U 46 (.load false 1) 45 39 false) (.step 12 (.B 47 (.bin .eql) 41 46 39 false) (.step 13 (.p 48 .pick [.t 39,.T,.t 47]) (.step 14 (.b 49 (.build [.int .u16 0,.bool false] [(0, 1), (1, 1)]) 36 48) (.step 16 ⟨none,.store 2, [.t 14,.t 49], none⟩ .done)))))))) (.alt (.step 11 (.U 46 (.load false 1) 45 39 false) (.alt (.step 6 (.U 41 (.load false 1) 40 39 false) (.step 12 (.B 47 (.bin .eql) 41 46 39 false) (.step 13 (.p 48 .pick [.t 39,.T,.t 47]) (.step 14 (.b 49 (.build [.int .u16 0,.bool false] [(0, 1), (1, 1)]) 36 48) (.step 15 (.p 14 (.alloc [.int .u16 0,.bool false]) []) (.step 16 ⟨none,.store 2, [.t 14,.t 49], none⟩ .done)))))) (.step 15 (.p 14 (.alloc [.int .u16 0,.bool false]) []) (.step 6 (.U 41 (.load false 1) 40 39 false) (.step 12 (.B 47 (.bin .eql) 41 46 39 false) (.step 13 (.p 48 .pick [.t 39,.T,.t 47]) (.step 14 (.b 49 (.build [.int .u16 0,.bool false] [(0, 1), (1, 1)]) 36 48) (.step 16 ⟨none,.store 2, [.t 14,.t 49], none⟩ .done)))))))) (.step 15 (.p 14 (.alloc [.int .u16 0,.bool false]) []) (.step 6 (.U 41 (.load false 1) 40 39 false) (.step 11 (.U 46 (.load false 1) 45 39 false) (.step 12 (.B 47 (.bin .eql) 41 46 39 false) (.step 13 (.p 48 .pick [.t 39,.T,.t 47]) (.step 14 (.b 49 (.build [.int .u16 0,.bool false] [(0, 1), (1, 1)]) 36 48) (.step 16 ⟨none,.store 2, [.t 14,.t 49], none⟩ .done)))))))))))))))) (.step 15 (.p 14 (.alloc [.int .u16 0,.bool false]) []) (.step 3 (.u 38 (.load false 1) 37) (.step 4 (.m 39 38) (.step 5 (.U 40 (.fld 2) 13 39 false) (.step 7 (.M 42 0 39 false) (.step 8 (.U 43 .nilck 42 39 false) (.step 9 (.U 44 (.fld 0) 43 39 false) (.step 10 (.U 45 (.fld 0) 44 39 false) (.step 6 (.U 41 (.load false 1) 40 39 false) (.step 11 (.U 46 (.load false 1) 45 39 false) (.step 12 (.B 47 (.bin .eql) 41 46 39 false) (.step 13 (.p 48 .pick [.t 39,.T,.t 47]) (.step 14 (.b 49 (.build [.int .u16 0,.bool false] [(0, 1), (1, 1)]) 36 48) (.step 16 ⟨none,.store 2, [.t 14,.t 49], none⟩ .done)))))))))))))))) (.alt (.step 3 (.u 38 (.load false 1) 37) (.step 4 (.m 39 38) (.step 5 (.U 40 (.fld 2) 13 39 false) (.step 7 (.M 42 0 39 false) (.step 8 (.U 43 .nilck 42 39 false) (.step 9 (.U 44 (.fld 0) 43 39 false) (.step 10 (.U 45 (.fld 0) 44 39 false) (.alt (.step 1 (.u 36 (.load false 1) 35) (.alt (.step 6 (.U 41 (.load false 1) 40 39 false) (.alt (.step 11 (.U 46 (.load false 1) 45 39 false) (.step 12 (.B 47 (.bin .eql) 41 46 39 false) (.step 13 (.p 48 .pick [.t 39,.T,.t 47]) (.step 14 (.b 49 (.build [.int .u16 0,.bool false] [(0, 1), (1, 1)]) 36 48) (.step 15 (.p 14 (.alloc [.int .u16 0,.bool false]) []) (.step 16 ⟨none,.store 2, [.t 14,.t 49], none⟩ .done)))))) (.step 15 (.p 14 (.alloc [.int .u16 0,.bool false]) []) (.step 11 (.U 46 (.load false 1) 45 39 false) (.step 12 (.B 47 (.bin .eql) 41 46 39 false) (.step 13 (.p 48 .pick [.t 39,.T,.t 47]) (.step 14 (.b 49 (.build [.int .u16 0,.bool false] [(0, 1), (1, 1)]) 36 48) (.step 16 ⟨none,.store 2, [.t 14,.t 49], none⟩ .done)))))))) (.alt (.step 11 (.U 46 (.load false 1) 45 39 false) (.alt (.step 6 (.U 41 (.load false 1) 40 39 false) (.step 12 (.B 47 (.bin .eql) 41 46 39 false) (.step 13 (.p 48 .pick [.t 39,.T,.t 47]) (.step 14 (.b 49 (.build [.int .u16 0,.bool false] [(0, 1), (1, 1)]) 36 48) (.step 15 (.p 14 (.alloc [.int .u16 0,.bool false]) []) (.step 16 ⟨none,.store 2, [.t 14,.t 49], none⟩ .done)))))) (.step 15 (.p 14 (.alloc [.int .u16 0,.bool false]) []) (.step 6 (.U 41 (.load false 1) 40 39 false) (.step 12 (.B 47 (.bin .eql) 41 46 39 false) (.step 13 (.p 48 .pick [.t 39,.T,.t 47]) (.step 14 (.b 49 (.build [.int .u16 0,.bool false] [(0, 1), (1, 1)]) 36 48) (.step 16 ⟨none,.store 2, [.t 14,.t 49], none⟩ .done)))))))) (.step 15 (.p 14 (.alloc [.int .u16 0,.bool false]) []) (.step 6 (.U 41 (.load false 1) 40 39 false) (.step 11 (.U 46 (.load false 1) 45 39 false) (.step 12 (.B 47 (.bin .eql) 41 46 39 false) (.step 13 (.p 48 .pick [.t 39,.T,.t 47]) (.step 14 (.b 49 (.build [.int .u16 0,.bool false] [(0, 1), (1, 1)]) 36 48) (.step 16 ⟨none,.store 2, [.t 14,.t 49], none⟩ .done)))))))))) (.alt (.step 6 (.U 41 (.load false 1) 40 39 false) (.alt (.step 1 (.u 36 (.load false 1) 35) (.alt (.step 11 (.U 46 (.load false 1) 45 39 false) (.step 12 (.B 47 (.bin .eql) 41 46 39 false) (.step 13 (.p 48 .pick [.t 39,.T,.t 47]) (.step 14 (.b 49 (.build [.int .u16 0,.bool false] [(0, 1), (1, 1)]) 36 48) (.step 15 (.p 14 (.alloc [.int .u16 0,.bool false]) []) (.step 16 ⟨none,.store 2, [.t 14,.t 49], none⟩ .done)))))) (.step 15 (.p 14 (.alloc [.int .u16 0,.bool false]) []) (.step 11 (.U 46 (.load false 1) 45 39 false) (.step 12 (.B 47 (.bin .eql) 41 46 39 false) (.step 13 (.p 48 .pick [.t 39,.T,.t 47]) (.step 14 (.b 49 (.build [.int .u16 0,.bool false] [(0, 1), (1, 1)]) 36 48) (.step 16 ⟨none,.store 2, [.t 14,.t 49], none⟩ .done)))))))) (.alt (.step 11 (.U 46 (.load false 1) 45 39 false) (.step 12 (.B 47 (.bin .eql) 41 46 39 false) (.step 13 (.p 48 .pick [.t 39,.T,.t 47]) (.alt (.step 1 (.u 36 (.load false 1) 35) (.step 14 (.b 49 (.build [.int .u16 0,.bool false] [(0, 1), (1, 1)]) 36 48) (.step 15 (.p 14 (.alloc [.int .u16 0,.bool false]) []) (.step 16 ⟨none,.store 2, [.t 14,.t 49], none⟩ .done)))) (.step 15 (.p 14 (.alloc [.int .u16 0,.bool false]) []) (.step 1 (.u 36 (.load false 1) 35) (.step 14 (.b 49 (.build [.int .u16 0,.bool false] [(0, 1), (1, 1)]) 36 48) (.step 16 ⟨none,.store 2, [.t 14,.t 49], none⟩ .done)))))))) (.step 15 (.p 14 (.alloc [.int .u16 0,.bool false]) []) (.step 1 (.u 36 (.load false 1) 35) (.step 11 (.U 46 (.load false 1) 45 39 false) (.step 12 (.B 47 (.bin .eql) 41 46 39 false) (.step 13 (.p 48 .pick [.t 39,.T,.t 47]) (.step 14 (.b 49 (.build [.int .u16 0,.bool false] [(0, 1), (1, 1)]) 36 48) (.step 16 ⟨none,.store 2, [.t 14,.t 49], none⟩ .done)))))))))) (.alt (.step 11 (.U 46 (.load false 1) 45 39 false) (.alt (.step 1 (.u 36 (.load false 1) 35) (.alt (.step 6 (.U 41 (.load false 1) 40 39 false) (.step 12 (.B 47 (.bin .eql) 41 46 39 false) (.step 13 (.p 48 .pick [.t 39,.T,.t 47]) (.step 14 (.b 49 (.build [.int .u16 0,.bool false] [(0, 1), (1, 1)]) 36 48) (.step 15 (.p 14 (.alloc [.int .u16 0,.bool false]) []) (.step 16 ⟨none,.store 2, [.t 14,.t 49], none⟩ .done)))))) (.step 15 (.p 14 (.alloc [.int .u16 0,.bool false]) []) (.step 6 (.U 41 (.load false 1) 40 39 false) (.step 12 (.B 47 (.bin .eql) 41 46 39 false) (.step 13 (.p 48 .pick [.t 39,.T,.t 47]) (.step 14 (.b 49 (.build [.int .u16 0,.bool false] [(0, 1), (1, 1)]) 36 48) (.step 16 ⟨none,.store 2, [.t 14,.t 49], none⟩ .done)))))))) (.alt (.step 6 (.U 41 (.load false 1) 40 39 false) (.step 12 (.B 47 (.bin .eql) 41 46 39 false) (.step 13 (.p 48 .pick [.t 39,.T,.t 47]) (.alt (.step 1 (.u 36 (.load false 1) 35) (.step 14 (.b 49 (.build [.int .u16 0,.bool false] [(0, 1), (1, 1)]) 36 48) (.step 15 (.p 14 (.alloc [.int .u16 0,.bool false]) []) (.step 16 ⟨none,.store 2, [.t 14,.t 49], none⟩ .done)))) (.step 15 (.p 14 (.alloc [.int .u16 0,.bool false]) []) (.step 1 (.u 36 (.load false 1) 35) (.step 14 (.b 49 (.build [.int .u16 0,.bool false] [(0, 1), (1, 1)]) 36 48) (.step 16 ⟨none,.store 2, [.t 14,.t 49], none⟩ .done)))))))) (.step 15 (.p 14 (.alloc [.int .u16 0,.bool false]) []) (.step 1 (.u 36 (.load false 1) 35) (.step 6 (.U 41 (.load false 1) 40 39 false) (.step 12 (.B 47 (.bin .eql) 41 46 39 false) (.step 13 (.p 48 .pick [.t 39,.T,.t 47]) (.step 14 (.b 49 (.build [.int .u16 0,.bool false] [(0, 1), (1, 1)]) 36 48) (.step 16 ⟨none,.store 2, [.t 14,.t 49], none⟩ .done)))))))))) (.step 15 (.p 14 (.alloc [.int .u16 0,.bool false]) []) (.step 1 (.u 36 (.load false 1) 35) (.step 6 (.U 41 (.load false 1) 40 39 false) (.step 11 (.U 46 (.load false 1) 45 39 false) (.step 12 (.B 47 (.bin .eql) 41 46 39 false) (.step 13 (.p 48 .pick [.t 39,.T,.t 47]) (.step 14 (.b 49 (.build [.int .u16 0,.bool false] [(0, 1), (1, 1)]) 36 48) (.step 16 ⟨none,.store 2, [.t 14,.t 49], none⟩ .done)))))))))))))))))) (.step 15 (.p 14 (.alloc [.int .u16 0,.bool false]) []) (.step 1 (.u 36 (.load false 1) 35) (.step 3 (.u 38 (.load false 1) 37) (.step 4 (.m 39 38) (.step 5 (.U 40 (.fld 2) 13 39 false) (.step 7 (.M 42 0 39 false) (.step 8 (.U 43 .nilck 42 39 false) (.step 9 (.U 44 (.fld 0) 43 39 false) (.step 10 (.U 45 (.fld 0) 44 39 false) (.step 6 (.U 41 (.load false 1) 40 39 false) (.step 11 (.U 46 (.load false 1) 45 39 false) (.step 12 (.B 47 (.bin .eql) 41 46 39 false) (.step 13 (.p 48 .pick [.t 39,.T,.t 47]) (.step 14 (.b 49 (.build [.int .u16 0,.bool false] [(0, 1), (1, 1)]) 36 48) (.step 16 ⟨none,.store 2, [.t 14,.t 49], none⟩ .done)))))))))))))))))))) (.r [.m 51 2,.u 52 (.load true 2) 14,.b 53 (.lookup (true, [.i .u16,.b]) (.int .i64 0) true) 51 52,.m 50 53,.u 54 (.ext 0) 50,.u 55 (.ext 1) 50,.m 15 54,.m 16 55] (.block 4 (.seq (.par (.step 0 (.m 59 16) (.step 1 (.u 60 (.un .not) 59) (.step 2 (.m 61 60) (.step 3 (.M 62 15 61 false) (.step 4 (.M 63 3 61 false) (.step 5 (.B 64 (.bin .neq) 62 63 61 false) (.step 6 (.p 65 .pick [.t 61,.T,.t 64]) (.step 7 (.m 66 65) (.step 8 (.M 67 9 66 false) (.step 9 (.U 68 (.len 1 0) 67 66 false) (.step 10 (.P 69 (.bin .gtr) [.t 68,.i 0] 66 false) (.step 11 (.M 70 69 66 false) (.step 12 (.U 71 (.fld 0) 14 70 true) (.step 14 (.M 73 9 70 true) (.step 13 (.U 72 (.load false 1) 71 70 true) (.step 15 (.P 74 (.idxp 2) [.t 73,.i 0] 70 true) (.step 16 (.U 75 (.fld 0) 74 70 true) (.step 17 (.U 76 (.load false 1) 75 70 true) (.step 18 (.B 77 (.bin .gtr) 72 76 70 true) (.step 19 (.P 78 .pick [.t 70,.t 77,.F] 66 false) (.step 20 (.p 79 .pick [.t 66,.T,.t 78]) (.step 21 (.m 80 79) (.step 22 (.M 81 9 80 false) (.step 23 (.U 82 (.load true 2) 14 80 false) (.step 24 (.B 83 (.call 111) 81 82 80 false) (.step 25 (.p 84 .pick [.t 80,.T,.t 83]) (.step 26 (.m 58 84) .done)))))))))))))))))))))))))))) (.cond (.t 58) .skip (.seq (.par (.step 0 (.m 86 9) (.step 1 (.u 87 (.len 1 0) 86) (.step 2 (.a 88 (.bin .gtr) 87 0) (.step 3 (.m 89 88) (.step 4 (.U 90 (.fld 0) 14 89 true) (.step 6 (.M 92 9 89 true) (.step 5 (.U 91 (.load false 1) 90 89 true) (.step 7 (.P 93 (.idxp 2) [.t 92,.i 0] 89 true) (.step 8 (.U 94 (.fld 0) 93 89 true) (.step 9 (.U 95 (.load false 1) 94 89 true) (.step 10 (.B 96 (.bin .eql) 91 95 89 true) (.step 11 (.p 97 .pick [.t 89,.t 96,.F]) (.step 12 (.m 85 97) .done)))))))))))))) (.cond (.t 85) (.reg [.m 98 9,.u 99 (.load true 2) 14,.u 100 (.bslice 2 1 (.agg [.int .u16 0,.bool false]) [0]) 99,.b 101 (.append 2 4) 98 100,.m 9 101]) (.reg [.u 56 (.load true 2) 14,.u 57 (.bslice 2 1 (.agg [.int .u16 0,.bool false]) [0]) 56,.m 9 57]))))))))))
def c_cAhead_1 : AC := (.r [.b 32 (.bin .lss) 31 30] (.seq (.w 32 2) (.seq c_cAhead_B3 (.reg [.a 102 (.bin .add) 31 1,.m 31 102]))))
def c_cAhead_0 : AC := (.r [.b 20 (.bin .lss) 19 18] (.seq (.w 20 0) (.seq (.block 1 (.r [.b 21 (.idxp 2) 17 19,.u 22 (.load true 2) 21,.p 11 (.alloc [.int .u16 0,.bool false]) [],⟨none,.store 2, [.t 11,.t 22], none⟩] (.seq (.par (.step 0 (.m 23 0) (.step 1 (.u 24 .nilck 23) (.step 2 (.u 25 (.fld 1) 24) (.step 4 (.u 27 (.fld 0) 11) (.step 8 (.v 31 (.int .i64 0)) (.step 3 (.u 26 (.load false 1) 25) (.step 5 (.u 28 (.load false 1) 27) (.step 6 (.b 29 (.lookup (false, [.i .u16]) (.nilsl) false) 26 28) (.step 7 (.u 30 (.len 1 0) 29) .done)))))))))) (.block 2 (.loop c_cAhead_1))))) (.reg [.a 103 (.bin .add) 19 1,.m 19 103]))))
def c_cAhead : AC := (.r [.v 8 (.nilsl)] (.r [.v 9 (.nilsl)] (.seq (.r [.m 17 1,.u 18 (.len 1 0) 17,.v 19 (.int .i64 0)] (.block 0 (.loop c_cAhead_0))) (.r [.m 104 9,.m 8 104] .ret))))
theorem Ss : compF Tryz.prog Tryz.f83 ⟨false, false, []⟩ = some (c_cAhead, [.tmp 8], 105) := by kernel_rfl
variable {E : Env}
theorem ahB_go (hP : PE E) {W : AW} {sp mo mi m c b11 lo lq left k n1 k1 n2 : Nat} {own : Int} {mes : List En} {far : Fl} {x : Sp} {e : Ed} {h ho v17 : V} {best : List Sp} {eds : List Ed} (hs : W.get sp = some (.row [.int .u8 own, .map mo, .map mi])) (gm : W.get m = some (.map mes c)) (F : FarM mes far) (hfd : ∀ z d, lookF far z = some d → d < 2 ^ 32) (hl : left < 2 ^ 32) (g11 : W.get b11 = some (.row [.int .u16 x.1, .bool x.2])) (ls : sp < W.nx) (lm : m < W.nx) (l11 : b11 < W.nx) (hv : nowG W ho (eds.map Ed.V) 3 lq) (hat : (eds.map Ed.V)[k]? = some e.V) (he : 0 ≤ e.to ∧ e.to < 65536) (hB : BI best) (hq : Bq W h best lo) (hlo : lo ≤ W.nx) (hC : Cl W)
  {A : AFr} {Q : Exit → AFr → AW → Prop} (a0 : A 0 = some (.ptr sp 0)) (a2 : A 2 = some (.map m)) (a3 : A 3 = some (.int .i64 left)) (a9 : A 9 = some h) (a11 : A 11 = some (.ptr b11 0)) (a17 : A 17 = some v17) (a18 : A 18 = some (.int .i64 n1)) (a19 : A 19 = some (.int .i64 k1)) (a29 : A 29 = some ho) (a30 : A 30 = some (.int .i64 n2)) (a31 : A 31 = some (.int .i64 k))
  (hQ : ∀ A' W' h', A' 0 = some (.ptr sp 0) → A' 2 = some (.map m) → A' 3 = some (.int .i64 left) → A' 9 = some h' → A' 11 = some (.ptr b11 0) → A' 17 = some v17 → A' 18 = some (.int .i64 n1) → A' 19 = some (.int .i64 k1) → A' 29 = some ho → A' 30 = some (.int .i64 n2) → A' 31 = some (.int .i64 k) → Bq W' h' (ahStep own far left x.2 best e) lo → Cl W' → W.nx ≤ W'.nx → (∀ y, y < W.nx → (y < lo ∨ ∀ bs, W.get y ≠ some (.buf false 2 bs)) → W'.get y = W.get y) → Q .normal A' W') : awp E c_cAhead_B3 Q A W := by
 unfold c_cAhead_B3
 refine Au hC ?_
 simp (maxSteps:=9^9) (disch:=omega) only [BS, ]
 rw [Am]
 have hvX : nowG (X W W.nx []) ho (eds.map Ed.V) 3 lq := hv.keep (Ex.refl hC).X.nx fun r _ hr => (Ex.refl hC).X.get r hr
 simp (maxSteps:=9^9) (disch:=omega) only [BS, BC, ↓reduceIte, nE, BM, BD, nA, nL, nT, a29, a31, hvX.idx' hat, Fe]
 rw [Am]
 obtain ⟨W1, hW1⟩ : ∃ W1, W1 = X W W.nx [.row [.int .u16 e.fr, .int .u16 e.to, .int .u8 e.kd]] := ⟨_, rfl⟩
 refine Ao (Q := fun z A' W' => z = .normal ∧ A' 0 = some (.ptr sp 0) ∧ A' 2 = some (.map m) ∧ A' 3 = some (.int .i64 left) ∧ A' 9 = some h ∧ A' 11 = some (.ptr b11 0) ∧ A' 17 = some v17 ∧ A' 18 = some (.int .i64 n1) ∧ A' 19 = some (.int .i64 k1) ∧ A' 29 = some ho ∧ A' 30 = some (.int .i64 n2) ∧ A' 31 = some (.int .i64 k) ∧ A' 14 = some (.ptr (rf W.nx 1) 0) ∧ W' = X W W.nx [.row [.int .u16 e.fr, .int .u16 e.to, .int .u8 e.kd], .row [.int .u16 e.to, .bool (x.2 || ownE own e)]]) _ ?_ ?_
 ·rintro _ A' W' ⟨rfl, b0, b2, b3, b9, b11', b17, b18, b19, b29, b30, b31, b14, rfl⟩
  have hE : Ex W (X W W.nx [.row [.int .u16 e.fr, .int .u16 e.to, .int .u8 e.kd], .row [.int .u16 e.to, .bool (x.2 || ownE own e)]]) := (Ex.refl hC).X
  have g14 : (X W W.nx [.row [.int .u16 e.fr, .int .u16 e.to, .int .u8 e.kd], .row [.int .u16 e.to, .bool (x.2 || ownE own e)]]).get (rf W.nx 1) = some (.row [.int .u16 e.to, .bool (x.2 || ownE own e)]) := by rw [Ap]; rfl
  have gm' := (hE.get m lm).trans gm
  have hq' := hq.to (W' := X W W.nx [.row [.int .u16 e.fr, .int .u16 e.to, .int .u8 e.kd], .row [.int .u16 e.to, .bool (x.2 || ownE own e)]]) hE.nx fun r bs _ hr _ => hE.get r hr
  have hst : ahStep own far left x.2 best e = ahStep own far left x.2 best e := rfl
  conv at hst => rhs; unfold ahStep
  generalize hy : (x.2 || ownE own e) = yb at hE g14 gm' hq' hst
  have hlk : ∀ K, sem E (.lookup (true, [.i .u16, .b]) (.int .i64 0) true) [.map m, .agg [.int .u16 e.to, .bool yb]] _ K = K (.tuple [.int .i64 (((lookF far (e.to, yb)).getD 0 : Nat)), .bool (lookF far (e.to, yb)).isSome]) _ := fun K => F.look (z := (e.to, yb)) he gm'
  generalize hWy : X W W.nx [.row [.int .u16 e.fr, .int .u16 e.to, .int .u8 e.kd], .row [.int .u16 e.to, .bool yb]] = Wy at hE g14 gm' hq' hlk
  show awp E _ _ A' Wy
  have stay : ∀ A', A' 0 = some (.ptr sp 0) → A' 2 = some (.map m) → A' 3 = some (.int .i64 left) → A' 9 = some h → A' 11 = some (.ptr b11 0) → A' 17 = some v17 → A' 18 = some (.int .i64 n1) → A' 19 = some (.int .i64 k1) → A' 29 = some ho → A' 30 = some (.int .i64 n2) → A' 31 = some (.int .i64 k) → ahStep own far left x.2 best e = best → Q .normal A' Wy := fun A' h0 h2 h3 h9 h11 h17 h18 h19 h29 h30 h31 e => hQ A' Wy h h0 h2 h3 h9 h11 h17 h18 h19 h29 h30 h31 (by rw [e]; exact hq') hE.cl hE.nx fun y hy _ => hE.get y hy
  have hbs : ∀ W K, sem E (.bslice 2 1 (.agg [.int .u16 0, .bool false]) [0]) [.agg [.int .u16 e.to, .bool yb]] W K = K (.sl 2 true [spV (e.to, yb)]) W := fun W K => rfl
  have anew : ∀ A', A' 0 = some (.ptr sp 0) → A' 2 = some (.map m) → A' 3 = some (.int .i64 left) → A' 9 = some (.sl 2 true [spV (e.to, yb)]) → A' 11 = some (.ptr b11 0) → A' 17 = some v17 → A' 18 = some (.int .i64 n1) → A' 19 = some (.int .i64 k1) → A' 29 = some ho → A' 30 = some (.int .i64 n2) → A' 31 = some (.int .i64 k) → ahStep own far left x.2 best e = [(e.to, yb)] → Q .normal A' Wy := fun A' h0 h2 h3 h9 h11 h17 h18 h19 h29 h30 h31 e => hQ A' Wy _ h0 h2 h3 h9 h11 h17 h18 h19 h29 h30 h31 (by rw [e]; exact .inr (.inl rfl)) hE.cl hE.nx fun y hy _ => hE.get y hy
  cases hf : lookF far (e.to, yb) with
  | none =>
   rw [hf] at hlk hst
   simp (maxSteps:=9^9) (disch:=omega) only [BS, Am, ↓reduceIte, nE, BM, BD, nA, nL, b2, b14, g14, hlk, Option.getD_none, Option.isSome_none]
   repeat (rw [Aa]; simp (maxSteps:=9^9) (disch:=omega) only [BS, BC, Ac, ↓reduceIte, nE, BM])
   refine stay _ ?_ ?_ ?_ ?_ ?_ ?_ ?_ ?_ ?_ ?_ ?_ hst
   all_goals (simp only [Gh, ↓reduceIte, nE, reduceCtorEq]; assumption)
  | some d =>
   rw [hf] at hlk hst
   simp only at hst
   have hd32 := hfd _ _ hf
   by_cases hdl : d = left
   ·subst hdl
    rw [if_neg (fun h => h rfl)] at hst
    have hne : (((d : Nat) : Int) != ((d : Nat) : Int)) = false := by simp
    cases best with
    | nil =>
     have z0 : decide (((0 : Nat) : Int) > 0) = false := rfl
     have hh := Vl hP Wy hq'.frz (by simp) hB.rg (e.to, yb) he
     simp (maxSteps:=9^9) (disch:=omega) only [BS, Am, ↓reduceIte, nE, BM, BD, nA, nL, b2, b14, g14, hlk, Option.getD_some, Option.isSome_some]
     repeat (rw [Aa]; simp (maxSteps:=9^9) (disch:=omega) only [BS, BC, ↓reduceIte, nE, BM, BD, nA, nL, b3, b9, b14, g14, hne, hq'.len, z0])
     refine pc hh ?_
     simp (maxSteps:=9^9) (disch:=omega) only [BX, ↓reduceIte, nE, BD, b9, hq'.len, z0, show decide ((e.to, yb) ∈ ([] : List Sp)) = false from rfl]
     repeat (rw [Aa]; simp (maxSteps:=9^9) (disch:=omega) only [BS, BC, Ac, ↓reduceIte, nE, BM, BD, nA, nL, b14, g14, hbs])
     refine anew _ ?_ ?_ ?_ ?_ ?_ ?_ ?_ ?_ ?_ ?_ ?_ hst
     all_goals simp only [Gh, ↓reduceIte, nE, reduceCtorEq]
     all_goals assumption
    | cons y tl =>
     have z0 : ∀ n : Nat, decide (((n + 1 : Nat) : Int) > 0) = true := fun n => decide_eq_true (by omega)
     have hh := Vl hP Wy hq'.frz (by have := hB.len; omega) hB.rg (e.to, yb) he
     have hhd : ∀ K, sem E (.idxp 2) [h, .int .i64 0] Wy K = K (.cptr (spV y).cells) Wy := fun K => hq'.head
     simp only at hst
     by_cases hgt : e.to > y.1
     ·rw [if_pos hgt] at hst
      have hgt' : decide (e.to > y.1) = true := decide_eq_true hgt
      simp (maxSteps:=9^9) (disch:=omega) only [BS, Am, ↓reduceIte, nE, BM, BD, nA, nL, b2, b14, g14, hlk, Option.getD_some, Option.isSome_some]
      repeat (rw [Aa]; simp (maxSteps:=9^9) (disch:=omega) only [BS, BC, Ac, ↓reduceIte, nE, BM, BD, nA, nL, b3, b9, b14, g14, hne, hq'.len, z0, hhd, Dh, hgt'])
      refine stay _ ?_ ?_ ?_ ?_ ?_ ?_ ?_ ?_ ?_ ?_ ?_ hst
      all_goals (simp only [Gh, ↓reduceIte, nE, reduceCtorEq]; assumption)
     ·rw [if_neg hgt] at hst
      have hgt' : decide (e.to > y.1) = false := decide_eq_false hgt
      by_cases hm : (e.to, yb) ∈ y :: tl
      ·rw [if_pos hm] at hst
       simp (maxSteps:=9^9) (disch:=omega) only [BS, Am, ↓reduceIte, nE, BM, BD, nA, nL, b2, b14, g14, hlk, Option.getD_some, Option.isSome_some]
       repeat (rw [Aa]; simp (maxSteps:=9^9) (disch:=omega) only [BS, BC, ↓reduceIte, nE, BM, BD, nA, nL, b3, b9, b14, g14, hne, hq'.len, z0, hhd, Dh, hgt'])
       refine pc hh ?_
       simp (maxSteps:=9^9) (disch:=omega) only [BS, BC, Ac, ↓reduceIte, nE, decide_eq_true hm]
       repeat (rw [Aa]; simp (maxSteps:=9^9) (disch:=omega) only [BX, ↓reduceIte, nE, reduceCtorEq, BM, BD, nA, nL, nT, Nat.reduceMul, Ei, Ce, Ej, Ca, H9, Ia, b0, b2, b3, b9, b11', b17, b18, b19, b29, b30, b31, b14, g14])
       refine stay _ ?_ ?_ ?_ ?_ ?_ ?_ ?_ ?_ ?_ ?_ ?_ hst
       all_goals (simp only [Gh, ↓reduceIte, nE, reduceCtorEq]; assumption)
      ·rw [if_neg hm] at hst
       simp (maxSteps:=9^9) (disch:=omega) only [BS, Am, ↓reduceIte, nE, BM, BD, nA, nL, b2, b14, g14, hlk, Option.getD_some, Option.isSome_some]
       repeat (rw [Aa]; simp (maxSteps:=9^9) (disch:=omega) only [BS, BC, ↓reduceIte, nE, BM, BD, nA, nL, b3, b9, b14, g14, hne, hq'.len, z0, hhd, Dh, hgt'])
       refine pc hh ?_
       by_cases heq : e.to = y.1
       ·rw [if_pos heq] at hst
        have heq' : (e.to == y.1) = true := by simp [heq]
        simp (maxSteps:=9^9) (disch:=omega) only [BX, ↓reduceIte, nE, BD, b9, decide_eq_false hm, hq'.len, z0]
        repeat (rw [Aa]; simp (maxSteps:=9^9) (disch:=omega) only [BS, BC, Ac, ↓reduceIte, nE, BM, BD, nA, nL, b9, b14, g14, hhd, Dh, heq', hbs])
        refine Bq.app hq' hE.cl (by have := hE.nx; omega) (by have := hB.len; simp only [lcs] at this; omega) ?_
        intro h' W3 w1 w2 w3 w4
        simp (maxSteps:=9^9) (disch:=omega) only [BS, ↓reduceIte]
        refine hQ _ W3 h' ?_ ?_ ?_ ?_ ?_ ?_ ?_ ?_ ?_ ?_ ?_ (by rw [hst]; exact w1) w2 (Nat.le_trans hE.nx w3) fun y hy hv => ?_
        rotate_right
        ·rw [w4 y (Nat.lt_of_lt_of_le hy hE.nx) (hv.imp id fun hv bs => by rw [hE.get y hy]; exact hv bs), hE.get y hy]
        all_goals simp only [Gh, ↓reduceIte, nE, reduceCtorEq]
        all_goals assumption
       ·rw [if_neg heq] at hst
        have heq' : (e.to == y.1) = false := by simp [heq]
        simp (maxSteps:=9^9) (disch:=omega) only [BX, ↓reduceIte, nE, BD, b9, decide_eq_false hm, hq'.len, z0]
        repeat (rw [Aa]; simp (maxSteps:=9^9) (disch:=omega) only [BS, BC, Ac, ↓reduceIte, nE, BM, BD, nA, nL, b9, b14, g14, hhd, Dh, heq', hbs])
        refine anew _ ?_ ?_ ?_ ?_ ?_ ?_ ?_ ?_ ?_ ?_ ?_ hst
        all_goals simp only [Gh, ↓reduceIte, nE, reduceCtorEq]
        all_goals assumption
   ·rw [if_pos hdl] at hst
    have hne : (((d : Nat) : Int) != ((left : Nat) : Int)) = true := by simp; omega
    simp (maxSteps:=9^9) (disch:=omega) only [BS, Am, ↓reduceIte, nE, BM, BD, nA, nL, b2, b14, g14, hlk, Option.getD_some, Option.isSome_some]
    repeat (rw [Aa]; simp (maxSteps:=9^9) (disch:=omega) only [BS, BC, Ac, ↓reduceIte, nE, BM, b3, hne])
    refine stay _ ?_ ?_ ?_ ?_ ?_ ?_ ?_ ?_ ?_ ?_ ?_ hst
    all_goals (simp only [Gh, ↓reduceIte, nE, reduceCtorEq]; assumption)
 ·have xo : ∀ l y, y < W.nx → (X W W.nx l).get y = W.get y := fun l y hy => Ag hy
  obtain ⟨x1, x2⟩ := x
  cases x2 with
  | true =>
   simp (maxSteps:=9^9) (disch:=omega) only [BS, BC, ↓reduceIte, nE, BM, BD, a11, g11]
   repeat' (first | with_reducible refine And.intro ?_ ?_ | (rw [Aa]; simp (maxSteps:=9^9) (disch:=omega) only [BS, BC, ↓reduceIte, nE, reduceCtorEq, BM, BD, nA, nL, nT, a0, a11]))
   all_goals first | trivial | assumption | rfl
  | false =>
   simp (maxSteps:=9^9) (disch:=omega) only [BS, BC, ↓reduceIte, nE, BM, BD, a11, g11]
   repeat' (first | with_reducible refine And.intro ?_ ?_ | (rw [Aa]; simp (maxSteps:=9^9) (disch:=omega) only [BS, BC, ↓reduceIte, nE, reduceCtorEq, BM, BD, nA, nL, nT, a0, a11, hs]))
   all_goals first | trivial | assumption | rfl
structure Kb (lo : Nat) (W W' : AW) : Prop where
 cl : Cl W'
 nx : W.nx ≤ W'.nx
 get : ∀ y, y < W.nx → (y < lo ∨ ∀ bs, W.get y ≠ some (.buf false 2 bs)) → W'.get y = W.get y
theorem Kb.refl {lo : Nat} {W : AW} (hC : Cl W) : Kb lo W W := ⟨hC, lr _, fun _ _ _ => rfl⟩
theorem Kb.trans {lo : Nat} {W W1 W2 : AW} (a : Kb lo W W1) (b : Kb lo W1 W2) : Kb lo W W2 := ⟨b.cl, Nat.le_trans a.nx b.nx, fun y hy hv => by
 have e := a.get y hy hv
 rw [b.get y (by have := a.nx; omega) (by rw [e]; exact hv), e]⟩
theorem Kb.ex {lo : Nat} {W W1 : AW} (h : Ex W W1) : Kb lo W W1 := ⟨h.cl, h.nx, fun y hy _ => h.get y hy⟩
theorem Kb.row {lo : Nat} {W W1 : AW} (h : Kb lo W W1) {r : Nat} {c : List V} (hr : r < W.nx) (hg : W.get r = some (.row c)) : W1.get r = some (.row c) := by
 rw [h.get r hr (.inr fun bs => by rw [hg]; simp)]; exact hg
theorem Kb.map {lo : Nat} {W W1 : AW} (h : Kb lo W W1) {r c : Nat} {es : List En} (hr : r < W.nx) (hg : W.get r = some (.map es c)) : W1.get r = some (.map es c) := by
 rw [h.get r hr (.inr fun bs => by rw [hg]; simp)]; exact hg
theorem Kb.now {lo lq : Nat} {W W1 : AW} (h : Kb lo W W1) {v : V} {xs : List V} (hn : nowG W v xs 3 lq) : nowG W1 v xs 3 lq := hn.keep h.nx fun r e hr => h.get r hr (.inr fun bs => by rw [hn.at e]; simp)
theorem Ow {own : Int} {far : Fl} {left : Nat} {b : Bool} : ∀ {l : List Ed} {best : List Sp}, BI best → (∀ e ∈ l, 0 ≤ e.to ∧ e.to < 65536) → BI (l.foldl (ahStep own far left b) best)
 | [], _, h, _ => h
 | e :: l, _, h, he => Ow (l := l) (h.step (he e (by simp))) fun x hx => he x (by simp [hx])
theorem ahI_go (hP : PE E) {W : AW} {sp mo mi m c b11 lo lq left n1 k1 : Nat} {own : Int} {mes : List En} {far : Fl} {x : Sp} {h ho v17 : V} {best : List Sp} {eds : List Ed} (hs : W.get sp = some (.row [.int .u8 own, .map mo, .map mi])) (gm : W.get m = some (.map mes c)) (F : FarM mes far) (hfd : ∀ z d, lookF far z = some d → d < 2 ^ 32) (hl : left < 2 ^ 32) (g11 : W.get b11 = some (.row [.int .u16 x.1, .bool x.2])) (ls : sp < W.nx) (lm : m < W.nx) (l11 : b11 < W.nx) (hv : nowG W ho (eds.map Ed.V) 3 lq) (hel : eds.length < 2 ^ 32) (he : ∀ e ∈ eds, 0 ≤ e.to ∧ e.to < 65536) (hB : BI best) (hq : Bq W h best lo) (hlo : lo ≤ W.nx) (hC : Cl W)
  {A : AFr} {Q : Exit → AFr → AW → Prop} (a0 : A 0 = some (.ptr sp 0)) (a2 : A 2 = some (.map m)) (a3 : A 3 = some (.int .i64 left)) (a9 : A 9 = some h) (a11 : A 11 = some (.ptr b11 0)) (a17 : A 17 = some v17) (a18 : A 18 = some (.int .i64 n1)) (a19 : A 19 = some (.int .i64 k1)) (a29 : A 29 = some ho) (a30 : A 30 = some (.int .i64 eds.length)) (a31 : A 31 = some (.int .i64 0))
  (hQ : ∀ A' W' h', A' 0 = some (.ptr sp 0) → A' 2 = some (.map m) → A' 3 = some (.int .i64 left) → A' 9 = some h' → A' 17 = some v17 → A' 18 = some (.int .i64 n1) → A' 19 = some (.int .i64 k1) → Bq W' h' (eds.foldl (ahStep own far left x.2) best) lo → Kb lo W W' → Q (.exit 2) A' W') : awp E (.loop c_cAhead_1) Q A W := by
 rw [Ai]
 refine alp (fun (σ : Nat × V) A1 W1 => A1 0 = some (.ptr sp 0) ∧ A1 2 = some (.map m) ∧ A1 3 = some (.int .i64 left) ∧ A1 9 = some σ.2 ∧ A1 11 = some (.ptr b11 0) ∧ A1 17 = some v17 ∧ A1 18 = some (.int .i64 n1) ∧ A1 19 = some (.int .i64 k1) ∧ A1 29 = some ho ∧ A1 30 = some (.int .i64 eds.length) ∧ A1 31 = some (.int .i64 (σ.1 : Nat)) ∧ σ.1 ≤ eds.length ∧ Bq W1 σ.2 ((eds.take σ.1).foldl (ahStep own far left x.2) best) lo ∧ Kb lo W W1) (fun σ => eds.length - σ.1) (0, h)
  ⟨a0, a2, a3, a9, a11, a17, a18, a19, a29, a30, a31, Nat.zero_le _, hq, Kb.refl hC⟩ ?_
 rintro ⟨k, h⟩ A1 W1 ⟨q0, q2, q3, q9, q11, q17, q18, q19, q29, q30, q31, qk, qB, qK⟩ _
 simp only at q9 q31 qk qB
 have nn := qK.nx
 by_cases hk : k < eds.length
 ·have hat := Wc hk
  have hek := he _ (gmm hk)
  have hBk : BI ((eds.take k).foldl (ahStep own far left x.2) best) := Ow hB fun e h => he e (List.mem_of_mem_take h)
  have hst : (eds.take (k + 1)).foldl (ahStep own far left x.2) best = ahStep own far left x.2 ((eds.take k).foldl (ahStep own far left x.2) best) eds[k] := by
   rw [tao, gEg hk, List.foldl_append]; rfl
  generalize eds[k] = e at hat hek hst
  simp (disch:=omega) only [BS, Am, Ac, ↓reduceIte, c_cAhead_1, q30, q31, clt, hk, dT]
  refine ahB_go hP (b11 := b11) (k := k) (qK.row ls hs) (qK.map lm gm) F hfd hl (qK.row l11 g11) (by omega) (by omega) (by omega) (qK.now hv) hat hek hBk qB (by omega) qK.cl tt tt tt tt tt tt tt tt tt tt tt ?_
  intro A' W' h' z0 z2 z3 z9 z11 z17 z18 z19 z29 z30 z31 zB zC zn zg
  simp (disch:=omega) only [BS, ↓reduceIte, nE, reduceCtorEq, z0, z2, z3, z9, z11, z17, z18, z19, z29, z30, z31, Ah]
  exact ⟨(k + 1, h'), ⟨tt, tt, tt, tt, tt, tt, tt, tt, tt, tt, tt, hk, by rw [hst]; exact zB, qK.trans ⟨zC, zn, zg⟩⟩, by show eds.length - (k + 1) < eds.length - k; omega, by omega⟩
 ·obtain rfl : k = eds.length := by omega
  rw [tkl] at qB
  simp (disch:=omega) only [BX, ↓reduceIte, c_cAhead_1, q30, q31, clt, hk, dF]
  exact hQ _ _ h q0 q2 q3 q9 q17 q18 q19 qB qK
theorem Ic {es : List Ed} {own : Int} {far : Fl} {left : Nat} (he : ∀ e ∈ es, 0 ≤ e.to ∧ e.to < 65536) : ∀ {l : List Sp} {best : List Sp}, BI best → BI (l.foldl (ahSpot es own far left) best)
 | [], _, h => h
 | _ :: l, _, h => Ic he (l := l) (Ow h fun e h => he e (List.mem_filter.1 h).1)
theorem Bq.bel {W : AW} {h : V} {l : List Sp} {lo n : Nat} (hn : Bq W h l lo) : (W.frz h).bel n = true := by
 have h1 : ∀ l : List Sp, V.belL n (l.map spV) = true := fun l => by
  induction l with
  | nil => rfl
  | cons a l ih => simp only [mcs, V.belL, ih, Bool.and_true]; rfl
 exact hn.frz.lens (h1 l)
theorem ahead_c (hP : PE E) (W : AW) {sp lo m c left : Nat} {own : Int} {es : List Ed} {mes : List En} {far : Fl} {v : V} {at' : List Sp} (hS : Se W sp own es lo) (he : ∀ e ∈ es, 0 ≤ e.fr ∧ e.fr < 65536 ∧ 0 ≤ e.to ∧ e.to < 65536) (gm : W.get m = some (.map mes c)) (lm : m < W.nx) (F : FarM mes far) (hfd : ∀ z d, lookF far z = some d → d < 2 ^ 32) (hl : left < 2 ^ 32) (hv : isS 2 v (at'.map spV)) (ha : ∀ x ∈ at', 0 ≤ x.1 ∧ x.1 < 65536) (hes : es.length < 2 ^ 32) (hal : at'.length < 2 ^ 32) :
  ACalls E 83 [.ptr sp 0, v, .map m, .int .i64 left] W fun Y W' => isS 2 Y ((aheadR es own at' far left).map spV) ∧ W' = W := by
 refine ACalls.of hP Tryz.func83 Ss (by simp) fun _ hok => ?_
 refine Ae hok ?_
 obtain ⟨mo, mi, eo, ei, co, ci, s1, s2, s3, s4⟩ := hS.is
 have hC := H6 hok
 have lp := hS.lp
 have lmo := s2.o.lm
 have hst := G0 hok
 rw [← hst]
 simp (disch:=omega) only [BZ, ↓reduceIte, nE, c_cAhead, hv.len, lmp]
 rw [Ai]
 refine alp (fun (σ : Nat × V) A1 W1 => A1 0 = some (.ptr sp 0) ∧ A1 2 = some (.map m) ∧ A1 3 = some (.int .i64 left) ∧ A1 9 = some σ.2 ∧ A1 17 = some v ∧ A1 18 = some (.int .i64 at'.length) ∧ A1 19 = some (.int .i64 (σ.1 : Nat)) ∧ σ.1 ≤ at'.length ∧ Bq W1 σ.2 ((at'.take σ.1).foldl (ahSpot es own far left) []) W.nx ∧ Kb W.nx W W1) (fun σ => at'.length - σ.1) (0, .nilsl)
  ⟨tt, tt, tt, tt, tt, tt, tt, Nat.zero_le _, .inl ⟨rfl, rfl⟩, Kb.refl hC⟩ ?_
 rintro ⟨k, h⟩ A1 W1 ⟨q0, q2, q3, q9, q17, q18, q19, qk, qB, qK⟩ _
 simp only at q9 q19 qk qB
 have nn := qK.nx
 by_cases hk : k < at'.length
 ·have hat := sp_at hk
  have hxk := ha _ (gmm hk)
  have hBk : BI ((at'.take k).foldl (ahSpot es own far left) []) := Ic (fun e h => (he e h).2.2) BI.nil
  have hst : (at'.take (k + 1)).foldl (ahSpot es own far left) [] = (outL es own at'[k].1).foldl (ahStep own far left at'[k].2) ((at'.take k).foldl (ahSpot es own far left) []) := by
   rw [tao, gEg hk, List.foldl_append]; rfl
  generalize at'[k] = x at hat hxk hst
  have M1 : Mg W1 mo (outL es own) lo eo co := ⟨qK.map s2.o.lm s2.o.hm, by omega, s2.o.ky, fun x => qK.now (s2.o.vl x), s2.o.ne⟩
  have hvo := M1.vl x.1
  have hE0 : ∀ l, Ex W1 (X W1 W1.nx l) := fun l => (Ex.refl qK.cl).X
  refine Au qK.cl ?_
  have ks := qK.row lp s1
  have hlk : ∀ l K, sem E (.lookup (false, [.i .u16]) .nilsl false) [.map mo, .int .u16 x.1] (X W1 W1.nx l) K = K (hdM eo x.1) (X W1 W1.nx l) := fun l K => (M1.ex (hE0 l)).look hxk.1 hxk.2
  have hel : (outL es own x.1).length < 2 ^ 32 := Nat.lt_of_le_of_lt (List.length_filter_le _ _) hes
  simp (disch:=omega) only [BX, ↓reduceIte, nE, reduceCtorEq, BM, BD, nA, nL, nT, c_cAhead_0, q0, q17, q18, q19, clt, hk, dT, hv.idx hat, Dh, ks, hlk, hvo.len, lmp]
  refine ahI_go hP (W := X W1 W1.nx [.row [.int .u16 x.1, .bool x.2]]) (b11 := rf W1.nx 0) (x := x) (lo := W.nx) ((hE0 _).get _ (by omega) |>.trans ks) ((hE0 _).get _ (by omega) |>.trans (qK.map lm gm)) F hfd hl (by rw [Ap]; rfl) (by simp only [Ar, rf]; omega) (by simp only [Ar, rf]; omega) (by simp only [Ar, rf, lcs, List.length_nil]; omega) ((M1.ex (hE0 _)).vl x.1) hel (fun e h => (he e (List.mem_filter.1 h).1).2.2) hBk (qB.to (hE0 _).nx fun r bs _ hr _ => (hE0 _).get r hr) (by simp only [Ar, rf]; omega) Cl.X tt tt tt tt tt tt tt tt tt tt tt ?_
  intro A' W' h' z0 z2 z3 z9 z17 z18 z19 zB zK
  have zn := zK.nx
  simp only [Ar, rf] at zn
  simp (disch:=omega) only [BS, ↓reduceIte, nE, reduceCtorEq, z0, z2, z3, z9, z17, z18, z19, Ah]
  exact ⟨(k + 1, h'), ⟨tt, tt, tt, tt, tt, tt, tt, hk, by rw [hst]; exact zB, (qK.trans (Kb.ex (hE0 _))).trans zK⟩, by show at'.length - (k + 1) < at'.length - k; omega, by omega⟩
 ·obtain rfl : k = at'.length := by omega
  rw [tkl] at qB
  simp (disch:=omega) only [BX, ↓reduceIte, nE, c_cAhead_0, q9, q18, q19, clt, hk, dF]
  exact ⟨_, rfl, _, W, .weak (Aj hok qB.bel fun y hy => qK.get y hy (.inl hy)), lr _, qB.frz, rfl⟩
structure FP (es : List Ed) (own : Int) (to : Sp) (L : Fl) : Prop where
 nd : (L.map (·.1)).Nodup
 st : (to, 0) ∈ L
 pa : ∀ y ∈ L, (y.2 = 0 ∧ y.1 = to) ∨ ∃ z ∈ L, Lds es own y.1 z.1 ∧ y.2 = z.2 + 1
theorem FP.put {es : List Ed} {own : Int} {to : Sp} {L : Fl} (h : FP es own to L) {x : Sp × Nat} (hx : x ∈ L) {z : Sp} (hz : Lds es own z x.1) : FP es own to (putF x.2 L z) := by
 have hp := (H4 x.2 L z).subset
 refine ⟨?_, hp h.st, fun y hy => ?_⟩
 ·unfold putF
  split
  ·exact h.nd
  ·rename_i hn
   rw [mpp, List.nodup_append]
   refine ⟨h.nd, by simp, fun a ha b hb e => ?_⟩
   have : b = z := by simpa using hb
   exact hn (this ▸ e ▸ ha)
 ·rcases N7 hy with hy | ⟨rfl, _⟩
  ·rcases h.pa y hy with h1 | ⟨w, h1, h2, h3⟩
   ·exact .inl h1
   ·exact .inr ⟨w, hp h1, h2, h3⟩
  ·exact .inr ⟨x, hp hx, hz, rfl⟩
theorem FP.fold {es : List Ed} {own : Int} {to : Sp} {x : Sp × Nat} : ∀ {l : List Sp} {L : Fl}, FP es own to L → x ∈ L → (∀ z ∈ l, Lds es own z x.1) → FP es own to (l.foldl (putF x.2) L)
 | [], _, h, _, _ => h
 | z :: l, L, h, hx, hz => FP.fold (l := l) (h.put hx (hz z (by simp))) ((H4 x.2 L z).subset hx) fun y hy => hz y (by simp [hy])
theorem FP.go {es : List Ed} {own : Int} {to : Sp} : ∀ {n i : Nat} {L : Fl}, FP es own to L → FP es own to (farGo es own n i L)
 | 0, _, _, h => h
 | n + 1, i, L, h => by
  unfold farGo
  split
  ·exact h
  ·rename_i x hx
   exact FP.go (h.fold (List.mem_of_getElem? hx) fun z hz => Og.1 hz)
theorem Lk (es : List Ed) (own : Int) (to : Sp) : FP es own to (farR es own to) := FP.go ⟨by simp, by simp, fun y hy => .inl (by rw [List.mem_singleton.1 hy]; exact ⟨rfl, rfl⟩)⟩
def Nears (es : List Ed) (own : Int) (far : Fl) : Prop := ∀ z d, lookF far z = some (d + 1) → ∃ y, Lds es own z y ∧ lookF far y = some d
theorem Ig (es : List Ed) (own : Int) (to : Sp) : Nears es own (farR es own to) := fun z d h => by
 have hF := Lk es own to
 rcases hF.pa _ ((C5 hF.nd).1 h) with ⟨h1, _⟩ | ⟨w, h1, h2, h3⟩
 ·cases h1
 ·refine ⟨w.1, h2, (C5 hF.nd).2 ?_⟩
  have : w.2 = d := by simp only at h3; omega
  rw [← this]; exact h1
theorem far_zero (es : List Ed) (own : Int) (to : Sp) : lookF (farR es own to) to = some 0 := (C5 (Lk es own to).nd).2 (Lk es own to).st
theorem Te {es : List Ed} {own : Int} {to z : Sp} (h : lookF (farR es own to) z = some 0) : z = to := by
 have hF := Lk es own to
 rcases hF.pa _ ((C5 hF.nd).1 h) with ⟨_, h1⟩ | ⟨w, _, _, h3⟩
 ·exact h1
 ·simp only at h3; omega
theorem ahst_mem {own : Int} {far : Fl} {left : Nat} {b : Bool} {best : List Sp} {e : Ed} {y : Sp} (h : y ∈ ahStep own far left b best e) : y ∈ best ∨ (y = (e.to, b || ownE own e) ∧ lookF far y = some left) := by
 unfold ahStep at h
 split at h
 ·exact .inl h
 ·rename_i d hd
  split at h
  ·exact .inl h
  ·rename_i hdl
   have hdl : d = left := Decidable.not_not.1 hdl
   subst hdl
   split at h
   ·rw [List.mem_singleton.1 h]; exact .inr ⟨rfl, hd⟩
   ·split at h
    ·exact .inl h
    ·split at h
     ·exact .inl h
     ·split at h
      ·rcases List.mem_append.1 h with h | h
       ·exact .inl h
       ·rw [List.mem_singleton.1 h]; exact .inr ⟨rfl, hd⟩
      ·rw [List.mem_singleton.1 h]; exact .inr ⟨rfl, hd⟩
theorem Nb {own : Int} {far : Fl} {left : Nat} {b : Bool} {y : Sp} : ∀ {l : List Ed} {best : List Sp}, y ∈ l.foldl (ahStep own far left b) best → y ∈ best ∨ ∃ e ∈ l, y = (e.to, b || ownE own e) ∧ lookF far y = some left
 | [], _, h => .inl h
 | e :: l, best, h => by
  rcases Nb (l := l) h with h | ⟨e', h1, h2⟩
  ·rcases ahst_mem h with h | h
   ·exact .inl h
   ·exact .inr ⟨e, by simp, h⟩
  ·exact .inr ⟨e', by simp [h1], h2⟩
theorem Gp {es : List Ed} {own x : Int} {e : Ed} : e ∈ outL es own x ↔ e ∈ es ∧ e.kd ≤ own ∧ e.fr = x := by
 simp [outL]
theorem Jj {es : List Ed} {own : Int} {far : Fl} {left : Nat} {y : Sp} : ∀ {l best : List Sp}, y ∈ l.foldl (ahSpot es own far left) best → y ∈ best ∨ ∃ x ∈ l, Lds es own x y ∧ lookF far y = some left
 | [], _, h => .inl h
 | x :: l, best, h => by
  rcases Jj (l := l) h with h | ⟨x', h1, h2⟩
  ·rcases Nb h with h | ⟨e, h1, rfl, h3⟩
   ·exact .inl h
   ·obtain ⟨a1, a2, a3⟩ := Gp.1 h1
    exact .inr ⟨x, by simp, ⟨e, a1, a2, a3, rfl, rfl⟩, h3⟩
  ·exact .inr ⟨x', by simp [h1], h2⟩
theorem Ub {own : Int} {far : Fl} {left : Nat} {b : Bool} {best : List Sp} {e : Ed} (h : best ≠ [] ∨ lookF far (e.to, b || ownE own e) = some left) : ahStep own far left b best e ≠ [] := by
 unfold ahStep
 cases hf : lookF far (e.to, b || ownE own e) with
 | none =>
  rcases h with h | h
  ·exact h
  ·rw [hf] at h; cases h
 | some d =>
  simp only
  by_cases hd : d = left
  ·rw [if_neg (fun h => h hd)]
   cases best with
   | nil => simp
   | cons y t =>
    simp only
    split
    ·simp
    ·split
     ·simp
     ·split <;> simp
  ·rw [if_pos hd]
   rcases h with h | h
   ·exact h
   ·rw [hf] at h; cases h; exact absurd rfl hd
theorem Lf {own : Int} {far : Fl} {left : Nat} {b : Bool} : ∀ {l : List Ed} {best : List Sp}, (best ≠ [] ∨ ∃ e ∈ l, lookF far (e.to, b || ownE own e) = some left) → l.foldl (ahStep own far left b) best ≠ []
 | [], _, h => h.elim id fun ⟨_, he, _⟩ => by cases he
 | e :: l, best, h => by
  refine Lf (l := l) ?_
  rcases h with h | ⟨e', he, h2⟩
  ·exact .inl (Ub (.inl h))
  ·rcases List.mem_cons.1 he with rfl | he
   ·exact .inl (Ub (.inr h2))
   ·exact .inr ⟨e', he, h2⟩
theorem L0 {es : List Ed} {own : Int} {far : Fl} {left : Nat} : ∀ {l best : List Sp}, (best ≠ [] ∨ ∃ x ∈ l, ∃ y, Lds es own x y ∧ lookF far y = some left) → l.foldl (ahSpot es own far left) best ≠ []
 | [], _, h => h.elim id fun ⟨_, he, _⟩ => by cases he
 | x :: l, best, h => by
  refine L0 (l := l) ?_
  rcases h with h | ⟨x', he, y, ⟨e, h1, h2, h3, h4, h5⟩, h6⟩
  ·exact .inl (Lf (.inl h))
  ·rcases List.mem_cons.1 he with rfl | he
   ·refine .inl (Lf (.inr ⟨e, Gp.2 ⟨h1, h2, h3⟩, ?_⟩))
    rw [← h5, h4]; exact h6
   ·exact .inr ⟨x', he, y, ⟨e, h1, h2, h3, h4, h5⟩, h6⟩
def Bi (W : AW) (h : V) (l : List Int) (lo : Nat) : Prop := h = .sl 1 true (intsV l) ∨ ∃ r, lo ≤ r ∧ r < W.nx ∧ h = .buf false r 1 l.length ∧ W.get r = some (.buf false 1 (intsV l))
theorem Bi.frz {W : AW} {h : V} {l : List Int} {lo : Nat} (hn : Bi W h l lo) : isS 1 (W.frz h) (intsV l) := by
 rcases hn with rfl | ⟨r, _, _, rfl, hg⟩
 ·exact .mk
 ·have : W.frz (.buf false r 1 l.length) = .sl 1 false (intsV l) := by simp [AW.frz, hg, Al]
  rw [this]; exact .mk
theorem Bi.app {W : AW} {K : V → AW → Prop} {h : V} {l : List Int} {lo : Nat} {y : Int} (hn : Bi W h l lo) (hC : Cl W) (hlo : lo ≤ W.nx) (hb : l.length < 2 ^ 40)
  (hk : ∀ h' W', Bi W' h' (l ++ [y]) lo → Cl W' → W.nx ≤ W'.nx → (∀ r, r < lo → W'.get r = W.get r) → K h' W') : sem E (.append 1 2) [h, .sl 1 true [.int .u16 y]] W K := by
 have e1 : intsV (l ++ [y]) = intsV l ++ [.int .u16 y] := by simp [intsV]
 rcases hn with rfl | ⟨r, h1, h2, rfl, h3⟩
 ·simp only [sem, elemsV, if_true]
  refine ⟨by decide, tt, by simp only [Al, lcs, List.length_nil]; omega, ?_⟩
  refine hk _ _ (.inr ⟨W.nx, hlo, by rw [Ad]; omega, by simp [Al], by rw [Ay, e1]⟩) ?_ (by rw [Ad]; omega) fun r hr => Ak (by omega)
  exact fun x hx => by rw [Ad] at hx; rw [Ci, if_neg (by omega)]; exact hC x (by omega)
 ·simp only [sem, elemsV, if_true, h3]
  refine ⟨by decide, tt, tt, tt, by simp [Al], by simp only [lcs, List.length_nil]; omega, rfl, ?_⟩
  refine hk _ _ (.inr ⟨r, h1, by rw [Af]; exact h2, by simp, by rw [put_at, e1]⟩) (hC.put h2) (by rw [Af]; exact lr _) fun y hy => put_ne (by omega)
def c_cIds_0 : AC := (.seq (.r [.m 19 11,.a 20 (.bin .gtr) 19 0] (.w 20 0)) (.seq (.block 1 (.r [.m 23 0,.m 24 10,.m 25 2,.m 26 11,.p 27 (.call 83) [.t 23,.t 24,.t 25,.t 26],.m 10 27] (.reg [.m 28 9,.m 29 10,.a 30 (.idxp 2) 29 0,.u 31 (.fld 0) 30,.u 32 (.load false 1) 31,.u 33 (.bslice 1 1 (.int .u16 0) [0]) 32,.b 34 (.append 1 2) 28 33,.m 9 34]))) (.reg [.m 21 11,.a 22 (.bin .sub) 21 1,.m 11 22])))
def c_cIds : AC := (.r [.v 8 (.nilsl)] (.r [.m 12 1,.u 13 (.bslice 1 1 (.int .u16 0) [0]) 12,.m 14 1,.p 15 (.build [.int .u16 0,.bool false] [(0, 1), (1, 1)]) [.t 14,.F],.u 16 (.bslice 2 1 (.agg [.int .u16 0,.bool false]) [0]) 15,.m 9 13,.m 10 16] (.seq (.r [.m 17 3,.a 18 (.bin .sub) 17 1,.m 11 18] (.block 0 (.loop c_cIds_0))) (.r [.m 35 9,.m 8 35] .ret))))
theorem Xat : compF Tryz.prog Tryz.f43 ⟨false, false, []⟩ = some (c_cIds, [.tmp 8], 36) := by kernel_rfl
theorem Bi.bel {W : AW} {h : V} {l : List Int} {lo n : Nat} (hn : Bi W h l lo) : (W.frz h).bel n = true := by
 have h1 : ∀ l : List Int, V.belL n (intsV l) = true := fun l => by
  induction l with
  | nil => rfl
  | cons a l ih => simp only [intsV] at ih; simp only [intsV, mcs, V.belL, ih, Bool.and_true]; rfl
 exact hn.frz.lens (h1 l)
theorem sub1 {k : Nat} (h : k < 2 ^ 40) : IntKind.i64.wrap (((k + 1 : Nat) : Int) - 1) = (k : Int) := by
 rw [show ((k + 1 : Nat) : Int) - 1 = (k : Int) by omega]
 exact IntWalk.i64_in _ (by omega)
theorem ids_c (hP : PE E) (W : AW) {sp lo m c n : Nat} {own first : Int} {es : List Ed} {mes : List En} {far : Fl} (hS : Se W sp own es lo) (he : ∀ e ∈ es, 0 ≤ e.fr ∧ e.fr < 65536 ∧ 0 ≤ e.to ∧ e.to < 65536) (gm : W.get m = some (.map mes c)) (lm : m < W.nx) (F : FarM mes far) (hfd : ∀ z d, lookF far z = some d → d < 2 ^ 32) (hf : 0 ≤ first ∧ first < 65536) (hes : es.length < 2 ^ 32) (hN : Nears es own far) (hn : lookF far (first, false) = some n) (hn0 : 0 < n) :
  ACalls E 43 [.ptr sp 0, .int .u16 first, .map m, .int .i64 n] W fun Y W' => isS 1 Y (intsV (idsR es own first far n)) ∧ W' = W := by
 refine ACalls.of hP Tryz.func43 Xat (by simp) fun _ hok => ?_
 obtain ⟨k, rfl⟩ : ∃ k, n = k + 1 := ⟨n - 1, by omega⟩
 have hk := hfd _ _ hn
 have hC := H6 hok
 have hb1 : ∀ (x : Int) W K, sem E (.bslice 1 1 (.int .u16 0) [0]) [.int .u16 x] W K = K (.sl 1 true [.int .u16 x]) W := fun x W K => rfl
 have hb2 : ∀ W K, sem E (.bslice 2 1 (.agg [.int .u16 0, .bool false]) [0]) [.agg [.int .u16 first, .bool false]] W K = K (.sl 2 true [spV (first, false)]) W := fun W K => rfl
 simp (disch:=omega) only [BZ, ↓reduceIte, nE, BM, BD, nA, nL, c_cIds, hb1, hb2, sub1]
 rw [Ai]
 refine alp (fun (σ : Nat × V × List Sp × V × List Int) A1 W1 => A1 0 = some (.ptr sp 0) ∧ A1 2 = some (.map m) ∧ A1 9 = some σ.2.2.2.1 ∧ A1 10 = some σ.2.1 ∧ A1 11 = some (.int .i64 (σ.1 : Nat)) ∧ isS 2 σ.2.1 (σ.2.2.1.map spV) ∧ Bi W1 σ.2.2.2.1 σ.2.2.2.2 W.nx ∧ σ.2.2.1 ≠ [] ∧ (∀ x ∈ σ.2.2.1, lookF far x = some (σ.1 + 1) ∧ 0 ≤ x.1 ∧ x.1 < 65536) ∧ σ.2.2.1.length ≤ 2 ∧ idsGo es own far σ.1 σ.2.2.1 σ.2.2.2.2 = idsR es own first far (k + 1) ∧ Cl W1 ∧ W.nx ≤ W1.nx ∧ (∀ r, r < W.nx → W1.get r = W.get r) ∧ σ.2.2.2.2.length + σ.1 ≤ k + 1) (fun σ => σ.1) (k, .sl 2 true [spV (first, false)], [(first, false)], .sl 1 true (intsV [first]), [first])
  ⟨tt, tt, rfl, tt, tt, .mk, .inl rfl, by simp, fun x hx => by rw [List.mem_singleton.1 hx]; exact ⟨hn, hf⟩, by simp, rfl, hC, lr _, fun _ _ => rfl, by simp; omega⟩ ?_
 rintro ⟨j, v, at', h, l⟩ A1 W1 ⟨q0, q2, q9, q10, q11, qv, qB, qne, qa, ql, qi, qC, qn, qg, qlen⟩ _
 simp only at q9 q10 q11 qv qB qne qa ql qi qlen
 cases j with
 | zero =>
  simp (disch:=omega) only [BX, ↓reduceIte, nE, c_cIds_0, q9, q11, show decide (((0 : Nat) : Int) > 0) = false from rfl]
  have hl : l = idsR es own first far (k + 1) := qi
  subst hl
  exact ⟨_, rfl, _, W, .weak (Aj hok qB.bel qg), lr _, qB.frz, rfl⟩
 | succ j =>
  have z0 : decide (((j + 1 : Nat) : Int) > 0) = true := decide_eq_true (by omega)
  have hE : Ex W W1 := ⟨qC, qn, qg⟩
  have hah := ahead_c hP W1 (left := j + 1) (hS.ex hE) he ((qg m lm).trans gm) (by omega) F hfd (by omega) qv (fun x hx => (qa x hx).2) hes (by omega)
  have hne : aheadR es own at' far (j + 1) ≠ [] := by
   obtain ⟨x, hx⟩ := List.exists_mem_of_ne_nil _ qne
   obtain ⟨y, h1, h2⟩ := hN x (j + 1) (qa x hx).1
   exact L0 (.inr ⟨x, hx, y, h1, h2⟩)
  have hm : ∀ y ∈ aheadR es own at' far (j + 1), lookF far y = some (j + 1) ∧ 0 ≤ y.1 ∧ y.1 < 65536 := fun y hy => by
   rcases Jj hy with h | ⟨x, _, ⟨e, h1, _, _, h4, _⟩, h6⟩
   ·cases h
   ·exact ⟨h6, by rw [← h4]; exact (he e h1).2.2⟩
  have hBI : BI (aheadR es own at' far (j + 1)) := Ic (fun e h => (he e h).2.2) BI.nil
  have hst : idsGo es own far j (aheadR es own at' far (j + 1)) (l ++ [((aheadR es own at' far (j + 1)).headD (0, false)).1]) = idsR es own first far (k + 1) := qi
  generalize aheadR es own at' far (j + 1) = nx at hah hne hm hBI hst
  cases nx with
  | nil => exact absurd rfl hne
  | cons y tl =>
   rw [List.headD_cons] at hst
   simp (disch:=omega) only [BX, ↓reduceIte, nE, reduceCtorEq, c_cIds_0, q0, q2, q10, q11, z0, qv.frz]
   refine hah.mono ?_
   rintro Y W3 ⟨hY, rfl⟩
   have hat : ((y :: tl).map spV)[0]? = some (spV y) := rfl
   have hix : ∀ K, sem E (.idxp 2) [Y, .int .i64 0] W3 K = K (.cptr (spV y).cells) W3 := fun K => hY.idx (k := 0) hat
   simp (disch:=omega) only [BS, ↓reduceIte, nE, BM, BD, nA, nL, q9, hix, Dh, hb1]
   refine qB.app qC qn (by omega) ?_
   intro h' W2 b1 b2 b3 b4
   simp (disch:=omega) only [BS, ↓reduceIte, nE, reduceCtorEq, q0, q2, q11, sub1]
   exact ⟨(j, Y, y :: tl, h', l ++ [y.1]), ⟨tt, tt, tt, tt, tt, hY, b1, by simp, hm, hBI.len, hst, b2, by omega, fun r hr => (b4 r hr).trans (qg r hr), by rw [lap]; show l.length + 1 + j ≤ k + 1; omega⟩, by show j < j + 1; omega, by omega⟩
def Ux (W : AW) (h : V) (l : List Int) (lo : Nat) : Prop := (h = .nilsl ∧ l = []) ∨ ∃ r, lo ≤ r ∧ r < W.nx ∧ h = .slr r 0 l.length 1 ∧ l ≠ [] ∧ W.get r = some (.vec 1 (u8s l))
theorem u8_one (l : List Int) : (u8s l).all V.one = true := by
 induction l with
 | nil => rfl
 | cons x l ih => simp only [u8s, mcs, List.all_cons, Bool.and_eq_true] at ih ⊢; exact ⟨rfl, ih⟩
theorem u8s_app (l : List Int) (y : Int) : u8s (l ++ [y]) = u8s l ++ [.int .u8 y] := by simp [u8s]
theorem Ux.app {W : AW} {K : V → AW → Prop} {h : V} {l : List Int} {lo : Nat} {y : Int} (hn : Ux W h l lo) (hC : Cl W) (hlo : lo ≤ W.nx) (hb : l.length < 2 ^ 40)
  (hk : ∀ h' W', Ux W' h' (l ++ [y]) lo → Cl W' → W.nx ≤ W'.nx → (∀ r, r < lo → W'.get r = W.get r) → K h' W') : sem E (.appendx 1 1 [.int .u8 0]) [h, .sl 1 true [.int .u8 y]] W K := by
 rcases hn with ⟨rfl, rfl⟩ | ⟨r, h1, h2, rfl, h4, h5⟩
 ·simp only [sem, elemsV, if_true]
  refine ⟨by decide, by simp, ?_⟩
  refine hk _ _ (.inr ⟨W.nx, hlo, by rw [Ad]; omega, rfl, by simp, by rw [Ay]; rfl⟩) ?_ (by rw [Ad]; omega) fun r hr => Ak (by omega)
  exact fun x hx => by rw [Ad] at hx; rw [Ci, if_neg (by omega)]; exact hC x (by omega)
 ·have hL := Hw l
  have htk : ((u8s l).take ((0 + l.length) * 1)).drop (0 * 1) = u8s l := by rw [List.take_of_length_le (by omega)]; rfl
  simp only [sem, elemsV, if_true, h5]
  refine ⟨by decide, tt, tt, by omega, by simp only [lcs, List.length_nil]; omega, rfl, ?_⟩
  rw [htk]
  refine hk _ _ (.inr ⟨W.nx, hlo, by rw [Dk]; omega, by simp, by simp, by rw [J7, u8s_app]; rfl⟩) ?_ (by rw [Dk]; omega) fun x hx => D0 (by omega) (by omega)
  intro x hx
  rw [Dk] at hx
  rw [D0 (by omega) (by omega)]; exact hC x (by omega)
theorem Ux.ex {W W' : AW} {h : V} {l : List Int} {lo : Nat} (hn : Ux W h l lo) (hE : Ex W W') : Ux W' h l lo := by
 rcases hn with hn | ⟨r, h1, h2, h3, h4, h5⟩
 ·exact .inl hn
 ·exact .inr ⟨r, h1, by have := hE.nx; omega, h3, h4, (hE.get r h2).trans h5⟩
theorem T5 {W : AW} {K : V → AW → Prop} {r k : Nat} {l : List Int} (hg : W.get r = some (.vec 1 (u8s l))) (hk : k < l.length) : sem E (.load false 1) [.vptr r k] W K = K (.int .u8 l[k]) W := by
 have : partV (u8s l) k 1 false = some (.int .u8 l[k]) := by
  rw [Dy, Ry hk]
 simp only [sem, rsem, hg, this]
theorem Rx {W : AW} {K : V → AW → Prop} {r n k : Nat} {kk : IntKind} (hk : k < n) : sem E (.idxp 1) [.slr r 0 n 1, .int kk (k : Int)] W K = K (.vptr r k) W := by
 simp [sem, rsem, tsem, hk]
theorem idx8w_c (hP : PE E) (W : AW) {r : Nat} {l : List Int} (hg : W.get r = some (.vec 1 (u8s l))) (hl : l.length < 2 ^ 40) (n : Int) :
  ACalls E 84 [.slr r 0 l.length 1, .int .u8 n] W fun Y W' => Y = .int .i64 (idxV (fun x => decide (n = x)) l) ∧ W' = W := by
 refine ACalls.of hP Tryz.func84 Qi (by simp) fun _ hok => ?_
 simp (disch:=omega) only [BZ, ↓reduceIte, reduceCtorEq, c_idx8]
 rw [Ai]
 refine alp (fun (k : Nat) A1 W1 => A1 0 = some (.slr r 0 l.length 1) ∧ A1 1 = some (.int .u8 n) ∧ A1 7 = some (.int .i64 l.length) ∧ A1 8 = some (.int .i64 k) ∧ k ≤ l.length ∧ W1 = W ∧ ∀ i (hi : i < l.length), i < k → decide (n = l[i]) = false) (fun k => l.length - k) 0
  ⟨rfl, rfl, rfl, rfl, Nat.zero_le _, rfl, fun _ _ h => by omega⟩ ?_
 rintro k A1 W1 ⟨g0, g1, g7, g8, gk, rfl, ge⟩ _
 by_cases hk1 : k < l.length
 ·cases hb : decide (n = l[k])
  ·simp (disch:=omega) only [BX, ↓reduceIte, nE, reduceCtorEq, g0, g1, g7, g8, clt, hk1, dT, Rx hk1, T5 hg hk1, Ff, hb, Ah]
   refine ⟨k + 1, ⟨tt, tt, tt, tt, tt, tt, fun i hi hk => ?_⟩, by omega, lr _⟩
   by_cases e : i = k
   ·subst e; exact hb
   ·exact ge i hi (by omega)
  ·simp (disch:=omega) only [BX, ↓reduceIte, nE, reduceCtorEq, g0, g1, g7, g8, clt, hk1, dT, Rx hk1, T5 hg hk1, Ff, hb]
   exact ⟨_, rfl, _, _, .weak Ab, lr _, by rw [Fa hk1 hb ge], rfl⟩
 ·obtain rfl : k = l.length := by omega
  simp only [BX, ↓reduceIte, g7, g8, clt, hk1, dF]
  exact ⟨_, rfl, _, _, .weak Ab, lr _, by rw [El fun i hi => ge i hi hi], rfl⟩
theorem has8w_c (hP : PE E) (W : AW) {r : Nat} {l : List Int} (hg : W.get r = some (.vec 1 (u8s l))) (hl : l.length < 2 ^ 40) (n : Int) :
  ACalls E 48 [.slr r 0 l.length 1, .int .u8 n] W fun Y W' => Y = .bool (l.any fun x => decide (n = x)) ∧ W' = W := by
 refine ACalls.of hP Tryz.func48 Qj (by simp) fun _ hok => ?_
 simp only [BZ, ↓reduceIte, nE, reduceCtorEq, c_has8]
 refine pc (idx8w_c hP W hg hl n) ?_
 simp only [BS, BC, ↓reduceIte, Gu]
 exact ⟨_, rfl, _, _, .weak Ab, lr _, rfl, rfl⟩
theorem min5 {W : AW} {K : V → AW → Prop} {n : Nat} {k : IntKind} {a b : Int} : sem E (.len 5 n) [.int k a, .int k b] W K = K (.int k (min a b)) W := by
 have : (if b < a then b else a) = min a b := by rw [Int.min_def]; split <;> split <;> omega
 simp [sem, this]
theorem remN {W : AW} {K : V → AW → Prop} {a n : Nat} (h : 0 < n) : sem E (.bin .rem) [.int .i64 (a : Int), .int .i64 (n : Int)] W K = K (.int .i64 ((a % n : Nat) : Int)) W := by
 have e : Int.tmod (a : Int) (n : Int) = ((a % n : Nat) : Int) := by
  rw [Int.tmod_eq_emod_of_nonneg (by omega)]; rfl
 have h0 : ¬ n = 0 := by omega
 simp [sem, rsem, tsem, binI, e, h0]
theorem Y9 {W : AW} {K : V → AW → Prop} {r k : Nat} {l : List Int} {y : Int} (hg : W.get r = some (.vec 1 (u8s l))) (hk : k < l.length) : sem E (.store 1) [.vptr r k, .int .u8 y] W K = K .undef (W.put r (.vec 1 (u8s (l.set k y)))) := by
 have e : (u8s l).take k ++ (V.int IntKind.u8 y).cells ++ (u8s l).drop (k + 1) = u8s (l.set k y) := by
  rw [List.set_eq_take_append_cons_drop, if_pos hk]; simp [u8s, V.cells]
 have h1 : k + 1 ≤ (u8s l).length := by rw [Hw]; exact hk
 simp only [sem, hg, e]
 exact propext ⟨fun h => h.2.2.2, fun h => ⟨rfl, rfl, h1, h⟩⟩
theorem Rz (n : Nat) : ∀ l : List Int, V.belL n (u8s l) = true
 | [] => rfl
 | a :: l => by
  have ih := Rz n l
  simp only [u8s] at ih
  simp only [u8s, mcs, V.belL, ih, Bool.and_true]; rfl
def c_cKinds_1 : AC := (.r [.b 33 (.bin .lss) 32 31] (.seq (.w 33 2) (.seq (.block 3 (.r [.b 34 (.idxp 3) 30 32,.u 35 (.load true 3) 34,.p 12 (.alloc [.int .u16 0,.int .u16 0,.int .u8 0]) [],⟨none,.store 3, [.t 12,.t 35], none⟩] (.seq (.par (.step 0 (.u 36 (.fld 1) 12) (.step 2 (.m 38 1) (.step 3 (.m 39 7) (.step 4 (.a 40 (.bin .add) 39 1) (.step 5 (.m 41 1) (.step 1 (.u 37 (.load false 1) 36) (.step 6 (.u 42 (.len 1 0) 41) (.step 7 (.b 43 (.bin .rem) 40 42) (.step 8 (.b 44 (.idxp 1) 38 43) (.step 9 (.u 45 (.load false 1) 44) (.step 10 (.b 46 (.bin .eql) 37 45) .done)))))))))))) (.cond (.t 46) (.par (.step 0 (.m 47 9) (.step 1 (.u 48 (.fld 2) 12) (.step 4 (.m 51 10) (.step 5 (.m 52 51) (.step 6 (.U 53 (.fld 2) 12 52 false) (.step 8 (.M 55 0 52 false) (.step 9 (.U 56 .nilck 55 52 false) (.step 10 (.U 57 (.fld 0) 56 52 false) (.step 11 (.U 58 (.fld 0) 57 52 false) (.step 2 (.u 49 (.load false 1) 48) (.step 3 (.b 50 (.len 5 0) 47 49) (.step 15 (.m 9 50) (.step 7 (.U 54 (.load false 1) 53 52 false) (.step 12 (.U 59 (.load false 1) 58 52 false) (.step 13 (.B 60 (.bin .eql) 54 59 52 false) (.step 14 (.p 61 .pick [.t 52,.T,.t 60]) (.step 16 (.m 10 61) .done)))))))))))))))))) .skip)))) (.reg [.a 62 (.bin .add) 32 1,.m 32 62]))))
def c_cKinds_0 : AC := (.r [.b 16 (.bin .lss) 15 14] (.seq (.w 16 0) (.seq (.block 1 (.r [.m 17 15,.b 18 (.idxp 1) 13 15,.u 19 (.load false 1) 18,.m 7 17,.m 8 19] (.r [.m 20 0,.u 21 .nilck 20,.u 22 (.fld 0) 21,.u 23 (.fld 0) 22,.u 24 (.load false 1) 23,.m 9 24,.v 10 (.bool false)] (.seq (.r [.m 25 0,.u 26 .nilck 25,.u 27 (.fld 1) 26,.u 28 (.load false 1) 27,.m 29 8,.b 30 (.lookup (false, [.i .u16]) (.nilsl) false) 28 29,.u 31 (.len 1 0) 30,.v 32 (.int .i64 0)] (.block 2 (.loop c_cKinds_1))) (.seq (.r [.m 63 10] (.cond (.t 63) (.reg [.m 64 7,.m 6 64]) .skip)) (.reg [.m 65 5,.m 66 9,.u 67 (.bslice 1 1 (.int .u8 0) [0]) 66,.b 68 (.appendx 1 1 [.int .u8 0]) 65 67,.m 5 68])))))) (.reg [.a 69 (.bin .add) 15 1,.m 15 69]))))
def c_cKinds : AC := (.r [.v 4 (.nilsl)] (.r [.v 5 (.nilsl)] (.r [.v 6 (.int .i64 (-1))] (.seq (.r [.m 13 1,.u 14 (.len 1 0) 13,.v 15 (.int .i64 0)] (.block 0 (.loop c_cKinds_0))) (.seq (.r [.m 70 5,.m 71 0,.u 72 .nilck 71,.u 73 (.fld 0) 72,.u 74 (.fld 0) 73,.u 75 (.load false 1) 74,.b 76 (.call 48) 70 75,.u 77 (.un .not) 76] (.cond (.t 77) (.reg [.m 78 5,.m 79 6,.m 80 0,.u 81 .nilck 80,.u 82 (.fld 0) 81,.u 83 (.fld 0) 82,.u 84 (.load false 1) 83,.b 85 (.idxp 1) 78 79,⟨none,.store 1, [.t 85,.t 84], none⟩]) .skip)) (.r [.m 86 5,.m 4 86] .ret))))))
theorem Sr : compF Tryz.prog Tryz.f44 ⟨true, false, []⟩ = some (c_cKinds, [.tmp 4], 87) := by kernel_rfl
theorem Xca (_ : E.P = Tryz.prog) {W : AW} {sp mo mi lq i n : Nat} {own to : Int} {ho v v5 : V} {l : List Int} {eds : List Ed} {id : Int} {late : Int} (hs : W.get sp = some (.row [.int .u8 own, .map mo, .map mi])) (ls : sp < W.nx) (hv : nowG W ho (eds.map Ed.V) 3 lq) (hel : eds.length < 2 ^ 32) (hl : isS 1 v (intsV l)) (hn : n = l.length) (hn0 : 0 < n) (hn2 : n < 2 ^ 32) (hi : i < n) (hto : l[(i + 1) % l.length]? = some to) (hC : Cl W)
  {A : AFr} {Q : Exit → AFr → AW → Prop} (a0 : A 0 = some (.ptr sp 0)) (a1 : A 1 = some v) (a5 : A 5 = some v5) (a6 : A 6 = some (.int .i64 late)) (a7 : A 7 = some (.int .i64 i)) (_ : A 8 = some (.int .u16 id)) (a9 : A 9 = some (.int .u8 own)) (a10 : A 10 = some (.bool false)) (a13 : A 13 = some v) (a14 : A 14 = some (.int .i64 n)) (a15 : A 15 = some (.int .i64 i)) (a30 : A 30 = some ho) (a31 : A 31 = some (.int .i64 eds.length)) (a32 : A 32 = some (.int .i64 0))
  (hQ : ∀ A' W', A' 0 = some (.ptr sp 0) → A' 1 = some v → A' 5 = some v5 → A' 6 = some (.int .i64 late) → A' 7 = some (.int .i64 i) → A' 9 = some (.int .u8 (eds.foldl (kindE own to) (own, false)).1) → A' 10 = some (.bool (eds.foldl (kindE own to) (own, false)).2) → A' 13 = some v → A' 14 = some (.int .i64 n) → A' 15 = some (.int .i64 i) → Ex W W' → Q (.exit 2) A' W') : awp E (.loop c_cKinds_1) Q A W := by
 rw [Ai]
 refine alp (fun (k : Nat) A1 W1 => A1 0 = some (.ptr sp 0) ∧ A1 1 = some v ∧ A1 5 = some v5 ∧ A1 6 = some (.int .i64 late) ∧ A1 7 = some (.int .i64 i) ∧ A1 9 = some (.int .u8 ((eds.take k).foldl (kindE own to) (own, false)).1) ∧ A1 10 = some (.bool ((eds.take k).foldl (kindE own to) (own, false)).2) ∧ A1 13 = some v ∧ A1 14 = some (.int .i64 n) ∧ A1 15 = some (.int .i64 i) ∧ A1 30 = some ho ∧ A1 31 = some (.int .i64 eds.length) ∧ A1 32 = some (.int .i64 (k : Nat)) ∧ k ≤ eds.length ∧ Ex W W1) (fun k => eds.length - k) 0
  ⟨a0, a1, a5, a6, a7, a9, a10, a13, a14, a15, a30, a31, a32, Nat.zero_le _, Ex.refl hC⟩ ?_
 rintro k A1 W1 ⟨q0, q1, q5, q6, q7, q9, q10, q13, q14, q15, q30, q31, q32, qk, qE⟩ _
 have nn := qE.nx
 by_cases hk : k < eds.length
 ·have hat := Wc hk
  have hst : (eds.take (k + 1)).foldl (kindE own to) (own, false) = kindE own to ((eds.take k).foldl (kindE own to) (own, false)) eds[k] := by
   rw [tao, gEg hk, List.foldl_append]; rfl
  generalize (eds.take k).foldl (kindE own to) (own, false) = p at q9 q10 hst
  generalize eds[k] = e at hat hst
  have hE0 : ∀ l, Ex W1 (X W1 W1.nx l) := fun l => (Ex.refl qE.cl).X
  have hvX : ∀ l, nowG (X W1 W1.nx l) ho (eds.map Ed.V) 3 lq := fun l => hv.keep (by have := (hE0 l).nx; omega) fun r _ hr => (qE.trans (hE0 l)).get r hr
  have ks := (qE.get _ ls).trans hs
  have hat2 : (intsV l)[(i + 1) % n]? = some (.int .u16 to) := by rw [hn]; simp [intsV, hto]
  have hrem : ∀ W K, sem E (.bin .rem) [.int .i64 ((i + 1 : Nat) : Int), .int .i64 (n : Int)] W K = K (.int .i64 (((i + 1) % n : Nat) : Int)) W := fun W K => remN hn0
  subst hn
  refine Au qE.cl ?_
  by_cases hto' : e.to = to
  ·have hb : (e.to == to) = true := by simp [hto']
   obtain ⟨p1, p2⟩ := p
   have hst' : kindE own to (p1, p2) e = (min p1 e.kd, p2 || ownE own e) := if_pos hto'
   rw [hst'] at hst
   simp only at q9 q10
   cases p2 with
   | true =>
    simp (disch:=omega) only [BX, ↓reduceIte, nE, BM, BD, nA, nL, nT, c_cKinds_1, q1, q7, q9, q10, q30, q31, q32, clt, hk, dT, (hvX []).idx' hat, Fe, hl.len, Al, Ah, hrem, hl.idx hat2, hb]
    repeat (rw [Aa]; simp (disch:=omega) only [BS, BC, ↓reduceIte, nE, reduceCtorEq, BM, BD, q0, q1, q5, q6, q7, q13, q14, q15, q30, q31, q32, min5, Ah])
    exact ⟨k + 1, ⟨tt, tt, tt, tt, tt, by rw [hst] <;> rfl, by rw [hst] <;> rfl, tt, tt, tt, tt, tt, tt, hk, qE.trans (hE0 _)⟩, by omega, by simp only [rf]; omega⟩
   | false =>
    simp (disch:=omega) only [BX, ↓reduceIte, nE, BM, BD, nA, nL, nT, c_cKinds_1, q1, q7, q9, q10, q30, q31, q32, clt, hk, dT, (hvX []).idx' hat, Fe, hl.len, Al, Ah, hrem, hl.idx hat2, hb]
    repeat (rw [Aa]; simp (disch:=omega) only [BS, BC, ↓reduceIte, nE, reduceCtorEq, BM, BD, q0, q1, q5, q6, q7, q13, q14, q15, q30, q31, q32, ks, min5, Ah])
    exact ⟨k + 1, ⟨tt, tt, tt, tt, tt, by rw [hst] <;> rfl, by rw [hst] <;> rfl, tt, tt, tt, tt, tt, tt, hk, qE.trans (hE0 _)⟩, by omega, by simp only [rf]; omega⟩
  ·have hb : (e.to == to) = false := by simp [hto']
   have hst' : kindE own to p e = p := if_neg hto'
   rw [hst'] at hst
   simp (disch:=omega) only [BX, ↓reduceIte, nE, reduceCtorEq, BM, BD, nA, nL, nT, c_cKinds_1, q0, q1, q5, q6, q7, q9, q10, q13, q14, q15, q30, q31, q32, clt, hk, dT, (hvX []).idx' hat, Fe, hl.len, Al, Ah, hrem, hl.idx hat2, hb]
   exact ⟨k + 1, ⟨tt, tt, tt, tt, tt, by rw [hst] <;> rfl, by rw [hst] <;> rfl, tt, tt, tt, tt, tt, tt, hk, qE.trans (hE0 _)⟩, by omega, by simp only [rf]; omega⟩
 ·obtain rfl : k = eds.length := by omega
  rw [tkl] at q9 q10
  simp (disch:=omega) only [BX, ↓reduceIte, c_cKinds_1, q31, q32, clt, hk, dF]
  exact hQ _ _ q0 q1 q5 q6 q7 q9 q10 q13 q14 q15 qE
theorem I9 {own to : Int} : ∀ {l : List Ed} {p : Int × Bool}, (l.foldl (kindE own to) p).2 = (p.2 || l.any fun e => decide (e.to = to) && ownE own e)
 | [], p => by simp
 | e :: l, p => by
  rw [List.foldl_cons, I9, List.any_cons]
  unfold kindE
  by_cases h : e.to = to
  ·simp [h, Bool.or_assoc]
  ·simp [h]
theorem Gq {es : List Ed} {own : Int} {l : List Int} {k : Nat} : ((List.range (k + 1)).foldl (fun (o : Option Nat) i => if (kindAt es own l i).2 = true then some i else o) none) = if (kindAt es own l k).2 = true then some k else (List.range k).foldl (fun o i => if (kindAt es own l i).2 = true then some i else o) none := by
 rw [List.range_succ, List.foldl_append]; rfl
def lateI (o : Option Nat) : Int := match o with
 | none => -1
 | some i => (i : Int)
theorem Oo {es : List Ed} {own : Int} {l : List Int} : ∀ {k i : Nat}, ((List.range k).foldl (fun (o : Option Nat) i => if (kindAt es own l i).2 = true then some i else o) none) = some i → i < k
 | 0, i, h => by cases h
 | k + 1, i, h => by
  rw [Gq] at h
  split at h
  ·cases h; omega
  ·have := Oo h; omega
theorem Pi {l : List Int} {n : Int} : (l.any fun x => decide (n = x)) = decide (n ∈ l) := by
 rw [Bool.eq_iff_iff, aet, decide_eq_true_eq]
 exact ⟨fun ⟨x, h1, h2⟩ => by rw [of_decide_eq_true h2]; exact h1, fun h => ⟨n, h, decide_eq_true rfl⟩⟩
theorem ckinds_c (hP : PE E) (W : AW) {sp lo : Nat} {own : Int} {es : List Ed} {v : V} {l : List Int} (hS : Se W sp own es lo) (hl : isS 1 v (intsV l)) (hb : ∀ x ∈ l, 0 ≤ x ∧ x < 65536) (hne : l ≠ []) (hln : l.length < 2 ^ 32) (hes : es.length < 2 ^ 32) (hlate : own ∈ leastR es own l ∨ lateR es own l ≠ none) :
  ACalls E 44 [.ptr sp 0, v] W fun Y W' => isS 1 Y (u8s (kindsR es own l)) ∧ W' = W := by
 refine ACalls.of hP Tryz.func44 Sr (by simp) fun _ hok => ?_
 obtain ⟨mo, mi, eo, ei, co, ci, s1, s2, s3, s4⟩ := hS.is
 have hC := H6 hok
 have lp := hS.lp
 have lmo := s2.o.lm
 have hl0 : 0 < l.length := List.length_pos_iff.2 hne
 simp (disch:=omega) only [BZ, ↓reduceIte, nE, c_cKinds, hl.len, Al]
 rw [Ai]
 refine alp (fun (σ : Nat × V) A1 W1 => A1 0 = some (.ptr sp 0) ∧ A1 1 = some v ∧ A1 5 = some σ.2 ∧ A1 6 = some (.int .i64 (lateI ((List.range σ.1).foldl (fun o i => if (kindAt es own l i).2 = true then some i else o) none))) ∧ A1 13 = some v ∧ A1 14 = some (.int .i64 l.length) ∧ A1 15 = some (.int .i64 (σ.1 : Nat)) ∧ σ.1 ≤ l.length ∧ Ux W1 σ.2 ((List.range σ.1).map fun i => (kindAt es own l i).1) W.nx ∧ Cl W1 ∧ W.nx ≤ W1.nx ∧ ∀ r, r < W.nx → W1.get r = W.get r) (fun σ => l.length - σ.1) (0, .nilsl)
  ⟨tt, tt, tt, rfl, tt, tt, tt, Nat.zero_le _, .inl ⟨rfl, rfl⟩, hC, lr _, fun _ _ => rfl⟩ ?_
 rintro ⟨k, h⟩ A1 W1 ⟨q0, q1, q5, q6, q13, q14, q15, qk, qU, qC, qn, qg⟩ _
 simp only at q5 q6 q15 qk qU
 have hE : Ex W W1 := ⟨qC, qn, qg⟩
 have ks := (hE.get _ lp).trans s1
 by_cases hk : k < l.length
 ·have hat := Ct hk
  have hbk := hb _ (gmm hk)
  have hm : (k + 1) % l.length < l.length := Nat.mod_lt _ hl0
  have hto : l[(k + 1) % l.length]? = some l[(k + 1) % l.length] := gEg hm
  have hka : kindAt es own l k = (outL es own l[k]).foldl (kindE own l[(k + 1) % l.length]) (own, false) := by
   unfold kindAt
   rw [List.getD_eq_getElem?_getD, List.getD_eq_getElem?_getD, gEg hk, hto]; rfl
  have hrs : (List.range (k + 1)).map (fun i => (kindAt es own l i).1) = (List.range k).map (fun i => (kindAt es own l i).1) ++ [(kindAt es own l k).1] := by
   rw [List.range_succ, mpp]; rfl
  have hlt := Gq (es := es) (own := own) (l := l) (k := k)
  rw [hka] at hrs hlt
  have hrl : ((List.range k).map fun i => (kindAt es own l i).1).length < 2 ^ 40 := by rw [lmp, List.length_range]; omega
  generalize (List.range k).map (fun i => (kindAt es own l i).1) = out at qU hrs hrl
  generalize (List.range k).foldl (fun (o : Option Nat) i => if (kindAt es own l i).2 = true then some i else o) none = lt at q6 hlt
  generalize l[k] = id at hat hbk hrs hlt
  generalize l[(k + 1) % l.length] = to at hto hrs hlt
  have M1 := s2.o.ex hE
  have hvo := M1.vl id
  have hlk : ∀ K, sem E (.lookup (false, [.i .u16]) .nilsl false) [.map mo, .int .u16 id] W1 K = K (hdM eo id) W1 := fun K => M1.look hbk.1 hbk.2
  have hel : (outL es own id).length < 2 ^ 32 := Nat.lt_of_le_of_lt (List.length_filter_le _ _) hes
  simp (disch:=omega) only [BX, ↓reduceIte, nE, reduceCtorEq, BM, BD, c_cKinds_0, q0, q13, q14, q15, clt, hk, dT, hl.idx hat, ks, hlk, hvo.len, lmp]
  refine Xca hP (n := l.length) (i := k) (to := to) ks (by omega) hvo hel hl rfl hl0 hln hk hto qC tt tt tt tt tt tt tt tt tt tt tt tt tt tt ?_
  intro A' W' z0 z1 z5 z6 z7 z9 z10 z13 z14 z15 zE
  generalize (outL es own id).foldl (kindE own to) (own, false) = p at z9 z10 hrs hlt
  have hbs : ∀ W K, sem E (.bslice 1 1 (.int .u8 0) [0]) [.int .u8 p.1] W K = K (.sl 1 true [.int .u8 p.1]) W := fun W K => rfl
  have zU := qU.ex zE
  have zn := zE.nx
  cases hp : p.2 with
  | true =>
   rw [hp] at z10
   rw [hp, if_pos rfl] at hlt
   simp (disch:=omega) only [BS, Am, Ac, ↓reduceIte, nE, z5, z7, z9, z10, hbs]
   refine zU.app zE.cl (by omega) hrl ?_
   intro h' W2 b1 b2 b3 b4
   simp (disch:=omega) only [BS, ↓reduceIte, nE, reduceCtorEq, z0, z1, z13, z14, z15, Ah]
   exact ⟨(k + 1, h'), ⟨tt, tt, tt, by rw [hlt]; rfl, tt, tt, tt, hk, by rw [hrs]; exact b1, b2, by omega, fun r hr => (b4 r hr).trans ((zE.get r (by omega)).trans (qg r hr))⟩, by show l.length - (k + 1) < l.length - k; omega, by omega⟩
  | false =>
   rw [hp] at z10
   rw [hp, if_neg (by decide)] at hlt
   simp (disch:=omega) only [BX, ↓reduceIte, nE, z5, z9, z10, hbs]
   refine zU.app zE.cl (by omega) hrl ?_
   intro h' W2 b1 b2 b3 b4
   simp (disch:=omega) only [BS, ↓reduceIte, nE, reduceCtorEq, z0, z1, z6, z13, z14, z15, Ah]
   exact ⟨(k + 1, h'), ⟨tt, tt, tt, by rw [hlt], tt, tt, tt, hk, by rw [hrs]; exact b1, b2, by omega, fun r hr => (b4 r hr).trans ((zE.get r (by omega)).trans (qg r hr))⟩, by show l.length - (k + 1) < l.length - k; omega, by omega⟩
 ·obtain rfl : k = l.length := by omega
  have hU : Ux W1 h (leastR es own l) W.nx := qU
  have hll : (leastR es own l).length = l.length := by simp [leastR]
  rcases hU with ⟨_, h0⟩ | ⟨r, r1, r2, rfl, r4, r5⟩
  ·rw [h0] at hll; simp at hll; omega
  rw [hll] at q5
  have hh := has8w_c hP W1 r5 (by omega) own
  rw [hll] at hh
  simp (disch:=omega) only [BX, ↓reduceIte, nE, reduceCtorEq, BM, BD, c_cKinds_0, q0, q5, q14, q15, clt, hk, dF, ks]
  refine pc hh ?_
  have hret : ∀ Wz l', l'.length = l.length → Wz.get r = some (.vec 1 (u8s l')) → (∀ y, y < W.nx → Wz.get y = W.get y) → l' = kindsR es own l → ∃ X0, some (V.slr r 0 l.length 1) = some X0 ∧ ∃ Y W', RetV X0 Wz Y W' ∧ W.nx ≤ W'.nx ∧ isS 1 Y (u8s (kindsR es own l)) ∧ W' = W := fun Wz l' hl' hg hz hk' => by
   have hc : chunks 1 l.length (u8s l') = u8s l' := by
    have := Lu (u8s l')
    rw [Hw, hl'] at this; exact this
   refine ⟨_, rfl, .sl 1 false (chunks 1 l.length (u8s l')), W, .frz hg (by rw [Hw]; omega) hl0 (by decide) (u8_one l') ?_, lr _, by rw [hc, hk']; exact .mk, rfl⟩
   refine Aj hok ?_ fun y hy => ?_
   ·rw [hc]; exact Rz _ l'
   ·have hyr : y ≠ r := by omega
    simp only [AW.drop, hyr, ↓reduceIte]
    exact hz y hy
  have hany : ((leastR es own l).any fun x => decide (own = x)) = decide (own ∈ leastR es own l) := by
   exact Pi
  rw [hany]
  by_cases hin : own ∈ leastR es own l
  ·simp (disch:=omega) only [BX, ↓reduceIte, nE, BD, decide_eq_true hin, q5]
   exact hret W1 _ hll r5 qg (by unfold kindsR; rw [if_pos hin])
  ·have hla := hlate.resolve_left hin
   have hkr : kindsR es own l = match lateR es own l with
    | none => leastR es own l
    | some i => (leastR es own l).set i own := by
    unfold kindsR
    rw [if_neg hin]
    cases lateR es own l <;> rfl
   have q6' : A1 6 = some (.int .i64 (lateI (lateR es own l))) := q6
   cases hlr : lateR es own l with
   | none => exact absurd hlr hla
   | some i =>
    have hi : i < l.length := Oo hlr
    rw [hlr] at hkr
    rw [hlr] at q6'
    have q6'' : A1 6 = some (.int .i64 (i : Nat)) := q6'
    simp (disch:=omega) only [BX, ↓reduceIte, nE, reduceCtorEq, BM, BD, decide_eq_false hin, q0, q5, q6'', ks, Rx hi, Y9 r5 (show i < (leastR es own l).length by omega)]
    exact hret _ ((leastR es own l).set i own) (by rw [List.length_set]; exact hll) put_at (fun y hy => by rw [put_ne (by omega)]; exact qg y hy) hkr.symm
set_option maxHeartbeats 4000000
inductive Way (es : List Ed) (own first : Int) : List Int → Sp → Prop where
 | base : Way es own first [first] (first, false)
 | step {l : List Int} {x y : Sp} : Way es own first l x → Lds es own x y → Way es own first (l ++ [y.1]) y
theorem M4 {es : List Ed} {own first : Int} {far : Fl} (hes : ∀ e ∈ es, 0 ≤ e.to ∧ e.to < 65536) (hN : Nears es own far) : ∀ (k : Nat) (at' : List Sp) (l : List Int), at' ≠ [] → (∀ x ∈ at', Way es own first l x ∧ lookF far x = some (k + 1)) → ∃ x, Way es own first (idsGo es own far k at' l) x ∧ lookF far x = some 1
 | 0, at', l, hne, h => by
  obtain ⟨x, hx⟩ := List.exists_mem_of_ne_nil _ hne
  exact ⟨x, h x hx⟩
 | k + 1, at', l, hne, h => by
  have hn : aheadR es own at' far (k + 1) ≠ [] := by
   obtain ⟨x, hx⟩ := List.exists_mem_of_ne_nil _ hne
   obtain ⟨y, h1, h2⟩ := hN x (k + 1) (h x hx).2
   exact L0 (.inr ⟨x, hx, y, h1, h2⟩)
  have hm : ∀ y ∈ aheadR es own at' far (k + 1), (∃ x ∈ at', Lds es own x y) ∧ lookF far y = some (k + 1) := fun y hy => by
   rcases Jj hy with h | ⟨x, h1, h2, h3⟩
   ·cases h
   ·exact ⟨⟨x, h1, h2⟩, h3⟩
  have hBI : BI (aheadR es own at' far (k + 1)) := Ic hes BI.nil
  unfold idsGo
  generalize aheadR es own at' far (k + 1) = nx at hn hm hBI
  cases nx with
  | nil => exact absurd rfl hn
  | cons y tl =>
   refine M4 hes hN k (y :: tl) _ (by simp) fun z hz => ⟨?_, (hm z hz).2⟩
   obtain ⟨⟨x, h1, h2⟩, _⟩ := hm z hz
   have he : z.1 = y.1 := hBI.eq z hz y (by simp)
   rw [List.headD_cons, ← he]
   exact .step (h x h1).1 h2
theorem Vg {es : List Ed} {own first : Int} {n : Nat} (hes : ∀ e ∈ es, 0 ≤ e.to ∧ e.to < 65536) (hn : lookF (farR es own (first, true)) (first, false) = some n) (h0 : 0 < n) : ∃ x, Way es own first (idsR es own first (farR es own (first, true)) n) x ∧ Lds es own x (first, true) := by
 obtain ⟨k, rfl⟩ : ∃ k, n = k + 1 := ⟨n - 1, by omega⟩
 obtain ⟨x, h1, h2⟩ := M4 hes (Ig es own (first, true)) k [(first, false)] [first] (by simp) fun x hx => by rw [List.mem_singleton.1 hx]; exact ⟨.base, hn⟩
 obtain ⟨y, h3, h4⟩ := Ig es own (first, true) x 0 h2
 rw [Te h4] at h3
 exact ⟨x, h1, h3⟩
theorem Kd {es : List Ed} {own first : Int} {n : Nat} (hn : lookF (farR es own (first, true)) (first, false) = some n) : 0 < n := by
 rcases Nat.eq_zero_or_pos n with h | h
 ·rw [h] at hn
  have := Te hn
  cases this
 ·exact h
theorem Vh {es : List Ed} {own : Int} {far : Fl} : ∀ (k : Nat) (at' : List Sp) (l : List Int), (idsGo es own far k at' l).length = l.length + k
 | 0, _, _ => rfl
 | k + 1, at', l => by
  unfold idsGo
  rw [Vh k, lap]
  simp only [lcs, List.length_nil]; omega
theorem Qu {es : List Ed} {own first : Int} {far : Fl} {n : Nat} (h : 0 < n) : (idsR es own first far n).length = n := by
 unfold idsR
 rw [Vh]
 simp only [lcs, List.length_nil]; omega
structure WayI (es : List Ed) (own first : Int) (l : List Int) (x : Sp) : Prop where
 hd : l.head? = some first
 la : l.getLast? = some x.1
 ed : ∀ i (h : i + 1 < l.length), ∃ e ∈ es, e.kd ≤ own ∧ e.fr = l[i] ∧ e.to = l[i + 1]
 ow : x.2 = true → ∃ i, ∃ h : i + 1 < l.length, ∃ e ∈ es, e.kd = own ∧ e.fr = l[i] ∧ e.to = l[i + 1]
 rg : ∀ y ∈ l, y = first ∨ ∃ e ∈ es, y = e.to
theorem Way.i {es : List Ed} {own first : Int} {l : List Int} {x : Sp} (h : Way es own first l x) : WayI es own first l x := by
 induction h with
 | base => exact ⟨rfl, rfl, fun i h => (by simp at h), fun h => (by cases h), fun y hy => .inl (List.mem_singleton.1 hy)⟩
 | @step l x y h hL ih =>
  obtain ⟨e, e1, e2, e3, e4, e5⟩ := hL
  have hne : l ≠ [] := fun h => by have := ih.hd; rw [h] at this; cases this
  have hpos : 0 < l.length := List.length_pos_iff.2 hne
  have hlast : l[l.length - 1] = x.1 := by
   have := ih.la
   rw [List.getLast?_eq_getElem?, gEg (by omega)] at this
   exact Option.some.inj this
  refine ⟨?_, by simp, fun i hi => ?_, fun hy => ?_, fun z hz => ?_⟩
  ·rw [List.head?_append, ih.hd]; rfl
  ·rw [lap] at hi
   simp only [lcs, List.length_nil] at hi
   by_cases h1 : i + 1 < l.length
   ·obtain ⟨e', a1, a2, a3, a4⟩ := ih.ed i h1
    exact ⟨e', a1, a2, by rw [List.getElem_append_left (by omega)]; exact a3, by rw [List.getElem_append_left h1]; exact a4⟩
   ·have : i = l.length - 1 := by omega
    subst this
    refine ⟨e, e1, e2, by rw [List.getElem_append_left (by omega), hlast]; exact e3, ?_⟩
    have : (l ++ [y.1])[l.length - 1 + 1]? = some y.1 := by
     rw [show l.length - 1 + 1 = l.length by omega, List.getElem?_append_right (lr _)]; simp
    rw [(List.getElem?_eq_some_iff.1 this).2]; exact e4
  ·rw [e5, Bool.or_eq_true] at hy
   rcases hy with hy | hy
   ·obtain ⟨i, h1, e', a1, a2, a3, a4⟩ := ih.ow hy
    refine ⟨i, by rw [lap]; simp only [lcs, List.length_nil]; omega, e', a1, a2, by rw [List.getElem_append_left (by omega)]; exact a3, by rw [List.getElem_append_left h1]; exact a4⟩
   ·refine ⟨l.length - 1, by rw [lap]; simp only [lcs, List.length_nil]; omega, e, e1, by simpa [ownE] using hy, by rw [List.getElem_append_left (by omega), hlast]; exact e3, ?_⟩
    have : (l ++ [y.1])[l.length - 1 + 1]? = some y.1 := by
     rw [show l.length - 1 + 1 = l.length by omega, List.getElem?_append_right (lr _)]; simp
    rw [(List.getElem?_eq_some_iff.1 this).2]; exact e4
  ·rcases List.mem_append.1 hz with hz | hz
   ·exact ih.rg z hz
   ·rw [List.mem_singleton.1 hz]; exact .inr ⟨e, e1, e4.symm⟩
theorem way_own {es : List Ed} {own first : Int} {l : List Int} {x : Sp} (h : Way es own first l x) (hL : Lds es own x (first, true)) : ∃ i, ∃ hi : i < l.length, ∃ e ∈ es, e.kd = own ∧ e.fr = l[i] ∧ some e.to = l[(i + 1) % l.length]? := by
 have hi := h.i
 have hne : l ≠ [] := fun h => by have := hi.hd; rw [h] at this; cases this
 have hpos : 0 < l.length := List.length_pos_iff.2 hne
 obtain ⟨e, e1, e2, e3, e4, e5⟩ := hL
 cases hx : x.2 with
 | true =>
  obtain ⟨i, h1, e', a1, a2, a3, a4⟩ := hi.ow hx
  exact ⟨i, by omega, e', a1, a2, a3, by rw [Nat.mod_eq_of_lt h1, gEg h1, a4]⟩
 | false =>
  rw [hx, Bool.false_or] at e5
  refine ⟨l.length - 1, by omega, e, e1, by simpa [ownE] using e5.symm, ?_, ?_⟩
  ·have := hi.la
   rw [List.getLast?_eq_getElem?, gEg (by omega)] at this
   rw [Option.some.inj this]; exact e3
  ·rw [show l.length - 1 + 1 = l.length by omega, Nat.mod_self, ← List.head?_eq_getElem?, hi.hd, e4]
theorem My {es : List Ed} {own : Int} {l : List Int} : ∀ {k i : Nat}, i < k → (kindAt es own l i).2 = true → ((List.range k).foldl (fun (o : Option Nat) i => if (kindAt es own l i).2 = true then some i else o) none) ≠ none
 | k + 1, i, hi, h => by
  rw [Gq]
  by_cases hk : i = k
  ·subst hk; rw [if_pos h]; simp
  ·split
   ·simp
   ·exact My (by omega) h
theorem Pn {es : List Ed} {own first : Int} {l : List Int} {x : Sp} (h : Way es own first l x) (hL : Lds es own x (first, true)) : lateR es own l ≠ none := by
 obtain ⟨i, hi, e, e1, e2, e3, e4⟩ := way_own h hL
 refine My (i := i) hi ?_
 unfold kindAt
 rw [I9, Bool.false_or, aet]
 refine ⟨e, Gp.2 ⟨e1, by omega, ?_⟩, ?_⟩
 ·rw [e3, List.getD_eq_getElem?_getD, gEg hi]; rfl
 ·rw [Bool.and_eq_true, decide_eq_true_eq]
  refine ⟨?_, by simp [ownE, e2]⟩
  rw [List.getD_eq_getElem?_getD, ← e4]; rfl
def BestI (es : List Ed) (own : Int) (b : List Int) : Prop := b = [] ∨ ∃ first x, Way es own first b x ∧ Lds es own x (first, true) ∧ (0 ≤ first ∧ first < 65536)
theorem sh_step {es : List Ed} {own : Int} (hes : ∀ e ∈ es, 0 ≤ e.to ∧ e.to < 65536) {b : List Int} (h : BestI es own b) {first : Int} (hf : 0 ≤ first ∧ first < 65536) : BestI es own (shStep es own b first) := by
 unfold shStep
 cases hn : lookF (farR es own (first, true)) (first, false) with
 | none => exact h
 | some n =>
  simp only
  split
  ·obtain ⟨x, h1, h2⟩ := Vg hes hn (Kd hn)
   exact .inr ⟨first, x, h1, h2, hf⟩
  ·exact h
theorem best_I {es : List Ed} {own : Int} (hes : ∀ e ∈ es, 0 ≤ e.to ∧ e.to < 65536) : ∀ {N : List Int} {b : List Int}, (∀ x ∈ N, 0 ≤ x ∧ x < 65536) → BestI es own b → BestI es own (N.foldl (shStep es own) b)
 | [], _, _, h => h
 | x :: N, b, hN, h => best_I hes (N := N) (fun y hy => hN y (by simp [hy])) (sh_step hes h (hN x (by simp)))
theorem BestI.rg {es : List Ed} {own : Int} (hes : ∀ e ∈ es, 0 ≤ e.to ∧ e.to < 65536) {b : List Int} (h : BestI es own b) : ∀ x ∈ b, 0 ≤ x ∧ x < 65536 := fun x hx => by
 rcases h with rfl | ⟨first, y, h1, _, hf⟩
 ·cases hx
 ·rcases h1.i.rg x hx with rfl | ⟨e, he, rfl⟩
  ·exact hf
  ·exact hes e he
theorem FI.go {es : List Ed} {own : Int} {to : Sp} : ∀ {n i : Nat} {L : Fl}, FI es to L → FI es to (farGo es own n i L)
 | 0, _, _, h => h
 | n + 1, i, L, h => by
  unfold farGo
  split
  ·exact h
  ·rename_i x hx
   exact FI.go (h.fold x.2 (h.dl x (List.mem_of_getElem? hx)) fun z hz => Pe hz)
theorem Th {es : List Ed} {own : Int} {to : Sp} (hl : es.length < 2 ^ 30) : ∀ z d, lookF (farR es own to) z = some d → d < 2 ^ 32 := fun z d h => by
 have hF : FI es to (farR es own to) := FI.go (FI.start es to)
 have := hF.dl _ ((C5 hF.nd).1 h)
 have := hF.len
 simp only at *
 omega
def c_cOf : AC := (.r [.p 2 (.alloc [.int .u8 0]) [],.v 3 (.bool false)] (.seq (.r [.m 4 0] (.block 0 (.r [.p 6 (.bin .eql) [.t 4,.c (.int .u8 1)],.m 5 6] (.cond (.t 5) (.r [.p 7 (.build [.int .u8 0] [(0, 1)]) [.c (.int .u8 0)],⟨none,.store 1, [.t 2,.t 7], none⟩,.v 3 (.bool true)] .ret) (.r [.p 9 (.bin .eql) [.t 4,.c (.int .u8 8)],.m 8 9] (.cond (.t 8) (.r [.p 10 (.build [.int .u8 0] [(0, 1)]) [.c (.int .u8 1)],⟨none,.store 1, [.t 2,.t 10], none⟩,.v 3 (.bool true)] .ret) (.r [.p 12 (.bin .eql) [.t 4,.c (.int .u8 16)],.m 11 12] (.cond (.t 11) (.r [.p 13 (.build [.int .u8 0] [(0, 1)]) [.c (.int .u8 2)],⟨none,.store 1, [.t 2,.t 13], none⟩,.v 3 (.bool true)] .ret) .skip)))))))) (.r [.p 14 (.build [.int .u8 0] []) [],⟨none,.store 1, [.t 2,.t 14], none⟩,.v 3 (.bool false)] .ret)))
theorem ok_cOfe : compF Tryz.prog Tryz.f40 ⟨false, false, []⟩ = some (c_cOf, [.cell 2 true 1, .tmp 3], 15) := by kernel_rfl
def c_cShort_0 : AC := (.r [.b 34 (.bin .lss) 33 32] (.seq (.w 34 0) (.seq (.block 1 (.r [.b 35 (.idxp 1) 31 33,.u 36 (.load false 1) 35,.m 11 36] (.r [.m 37 8,.m 38 11,.p 39 (.build [.int .u16 0,.bool false] [(0, 1), (1, 1)]) [.t 38,.T],.b 40 (.call 42) 37 39,.m 12 40] (.r [.m 42 12,.m 43 11,.p 44 (.build [.int .u16 0,.bool false] [(0, 1), (1, 1)]) [.t 43,.F],.b 45 (.lookup (true, [.i .u16,.b]) (.int .i64 0) true) 42 44,.m 41 45,.u 46 (.ext 0) 41,.u 47 (.ext 1) 41,.m 13 46,.m 14 47] (.r [.m 48 14,.m 49 48,.M 50 9 49 true,.U 51 (.len 1 0) 50 49 true,.P 52 (.bin .eql) [.t 51,.i 0] 49 true,.M 53 52 49 true,.M 54 13 53 false,.M 55 9 53 false,.U 56 (.len 1 0) 55 53 false,.B 57 (.bin .lss) 54 56 53 false,.P 58 .pick [.t 53,.T,.t 57] 49 true,.p 59 .pick [.t 49,.t 58,.F]] (.cond (.t 59) (.reg [.m 60 8,.m 61 11,.m 62 12,.m 63 13,.p 64 (.call 43) [.t 60,.t 61,.t 62,.t 63],.m 9 64]) .skip)))))) (.reg [.a 65 (.bin .add) 33 1,.m 33 65]))))
def c_cShort : AC := (.r [.p 4 (.alloc [.nilsl,.nilsl]) [],.v 5 (.bool false)] (.r [.m 16 1,.u 17 (.call 40) 16,.m 15 17,.u 18 (.ext 0) 15,.u 19 (.ext 1) 15,.p 6 (.alloc [.int .u8 0]) [],⟨none,.store 1, [.t 6,.t 18], none⟩,.m 7 19] (.seq (.r [.m 20 7,.u 21 (.un .not) 20,.m 22 21,.M 23 0 22 false,.P 24 (.eqn false 0) [.t 23,.c (.nilptr)] 22 false,.p 25 .pick [.t 22,.T,.t 24]] (.cond (.t 25) (.r [.p 26 (.build [.nilsl,.nilsl] []) [],⟨none,.store 2, [.t 4,.t 26], none⟩,.v 5 (.bool false)] .ret) .skip)) (.r [.m 27 0,.u 28 (.load true 1) 6,.b 29 (.call 41) 27 28,.m 8 29] (.r [.v 9 (.nilsl)] (.seq (.r [.m 30 0,.u 31 (.call 14) 30,.u 32 (.len 1 0) 31,.v 33 (.int .i64 0)] (.block 0 (.loop c_cShort_0))) (.seq (.r [.m 66 9,.u 67 (.len 1 0) 66,.a 68 (.bin .eql) 67 0] (.cond (.t 68) (.r [.p 69 (.build [.nilsl,.nilsl] []) [],⟨none,.store 2, [.t 4,.t 69], none⟩,.v 5 (.bool false)] .ret) .skip)) (.r [.m 70 9,.m 71 8,.m 72 9,.b 73 (.call 44) 71 72,.b 74 (.build [.nilsl,.nilsl] [(0, 1), (1, 1)]) 70 73,⟨none,.store 2, [.t 4,.t 74], none⟩,.v 5 (.bool true)] .ret))))))))
theorem Sq : compF Tryz.prog Tryz.f12 ⟨false, false, []⟩ = some (c_cShort, [.cell 4 true 2, .tmp 5], 75) := by kernel_rfl
theorem cof_c (hP : PE E) (W : AW) (k : Int) : ACalls E 40 [.int .u8 k] W fun Y W' => Y = .tuple [.agg [.int .u8 ((ownR k).getD 0)], .bool (ownR k).isSome] ∧ W' = W := by
 refine ACalls.of hP Tryz.func40 ok_cOfe (by simp) fun _ hok => ?_
 refine Ae hok ?_
 have fin : ∀ Wz Y, Y = V.tuple [.agg [.int .u8 ((ownR k).getD 0)], .bool (ownR k).isSome] → (∀ y, y < W.nx → Wz.get y = W.get y) → ∃ X0, some Y = some X0 ∧ ∃ Y W', RetV X0 Wz Y W' ∧ W.nx ≤ W'.nx ∧ Y = V.tuple [.agg [.int .u8 ((ownR k).getD 0)], .bool (ownR k).isSome] ∧ W' = W := fun Wz Y hY hg => ⟨_, rfl, _, W, .weak (Aj hok (by rw [hY]; rfl) hg), lr _, hY, rfl⟩
 by_cases h1 : k = 1
 ·subst h1
  simp only [BX, ↓reduceIte, nE, reduceCtorEq, BM, BD, nL, nT, c_cOf, show ((1 : Int) == 1) = true from rfl]
  exact fin _ _ rfl fun y hy => Ag hy
 ·have b1 : (k == 1) = false := by simp [h1]
  by_cases h8 : k = 8
  ·subst h8
   simp only [BX, ↓reduceIte, nE, reduceCtorEq, BM, BD, nL, nT, c_cOf, b1, show ((8 : Int) == 8) = true from rfl]
   exact fin _ _ rfl fun y hy => Ag hy
  ·have b8 : (k == 8) = false := by simp [h8]
   by_cases h16 : k = 16
   ·subst h16
    simp only [BX, ↓reduceIte, nE, reduceCtorEq, BM, BD, nL, nT, c_cOf, b1, b8, show ((16 : Int) == 16) = true from rfl]
    exact fin _ _ rfl fun y hy => Ag hy
   ·have b16 : (k == 16) = false := by simp [h16]
    simp only [BX, ↓reduceIte, nE, reduceCtorEq, BM, BD, nL, nT, c_cOf, b1, b8, b16]
    exact fin _ _ (by simp [ownR, h1, h8, h16]) fun y hy => Ag hy
theorem isS.belI {v : V} {l : List Int} (h : isS 1 v (intsV l)) (n : Nat) : v.bel n = true := by
 have h1 : ∀ l : List Int, V.belL n (intsV l) = true := fun l => by
  induction l with
  | nil => rfl
  | cons a l ih => simp only [intsV] at ih; simp only [intsV, mcs, V.belL, ih, Bool.and_true]; rfl
 exact h.lens (h1 l)
theorem isS.belU {v : V} {l : List Int} (h : isS 1 v (u8s l)) (n : Nat) : v.bel n = true := h.lens (Rz n l)
theorem Yv {es : List Ed} {own : Int} {N : List Int} {k : Nat} (hk : k < N.length) : (N.take (k + 1)).foldl (shStep es own) [] = shStep es own ((N.take k).foldl (shStep es own) []) N[k] := by
 rw [tao, gEg hk, List.foldl_append]; rfl
theorem Ly {es : List Ed} {own : Int} (hl : es.length < 2 ^ 30) : ∀ {N : List Int} {b : List Int}, b.length < 2 ^ 32 → (N.foldl (shStep es own) b).length < 2 ^ 32
 | [], _, h => h
 | x :: N, b, h => by
  refine Ly hl (N := N) ?_
  unfold shStep
  cases hn : lookF (farR es own (x, true)) (x, false) with
  | none => exact h
  | some n =>
   simp only
   split
   ·rw [Qu (Kd hn)]; exact Th hl _ _ hn
   ·exact h
theorem Rb (hP : PE E) (W : AW) {g m lo : Nat} {h : V} {P : List Ek} {N : List Int} (hG : Gr W g m h P N lo) (hN : ∀ x ∈ N, 0 ≤ x ∧ x < 65536) (hl : (edL P).length < 2 ^ 30) (k : Int) :
  ACalls E 12 [.ptr g 0, .int .u8 k] W fun Y W' => ∃ v1 v2, Y = .tuple [.agg [v1, v2], .bool (shortR (edL P) N k).isSome] ∧ isS 1 v1 (intsV ((shortR (edL P) N k).getD ([], [])).1) ∧ isS 1 v2 (u8s ((shortR (edL P) N k).getD ([], [])).2) ∧ W' = W := by
 refine ACalls.of hP Tryz.func12 Sq (by simp) fun _ hok => ?_
 refine Ae hok ?_
 have hE4 : ∀ e ∈ edL P, 0 ≤ e.fr ∧ e.fr < 65536 ∧ 0 ≤ e.to ∧ e.to < 65536 ∧ 0 ≤ e.kd ∧ e.kd < 256 := fun e he => edOk hG.pk he
 have fin : ∀ Wz v1 v2 r, shortR (edL P) N k = r → isS 1 v1 (intsV (r.getD ([], [])).1) → isS 1 v2 (u8s (r.getD ([], [])).2) → (∀ y, y < W.nx → Wz.get y = W.get y) → ∃ X0, some (V.tuple [.agg [v1, v2], .bool r.isSome]) = some X0 ∧ ∃ Y W', RetV X0 Wz Y W' ∧ W.nx ≤ W'.nx ∧ ∃ v1 v2, Y = .tuple [.agg [v1, v2], .bool (shortR (edL P) N k).isSome] ∧ isS 1 v1 (intsV ((shortR (edL P) N k).getD ([], [])).1) ∧ isS 1 v2 (u8s ((shortR (edL P) N k).getD ([], [])).2) ∧ W' = W := fun Wz v1 v2 r hr h1 h2 hg => ⟨_, rfl, _, W, .weak (Aj hok (by simp only [V.bel, V.belL, h1.belI, h2.belU, Bool.and_self]) hg), lr _, v1, v2, by rw [hr], by rw [hr]; exact h1, by rw [hr]; exact h2, rfl⟩
 have hn0 : eqNil 0 (.ptr g 0) .nilptr = some false := rfl
 cases ho : ownR k with
 | none =>
  have hr : shortR (edL P) N k = none := by unfold shortR; rw [ho]
  simp (disch:=omega) only [BZ, ↓reduceIte, nE, BM, BD, c_cShort]
  refine pc (cof_c hP _ k) ?_
  rw [ho]
  simp (disch:=omega) only [BZ, ↓reduceIte, nE, BM, BD, nA, nL, nT, Option.getD_none, Option.isSome_none]
  repeat (rw [Aa]; simp (disch:=omega) only [BX, ↓reduceIte, nE, BM, BD, nA, nL, nT, ])
  exact fin _ .nilsl .nilsl none hr .nil .nil fun y hy => Ag hy
 | some own =>
  have hown : 0 ≤ own ∧ own < 256 := by
   unfold ownR at ho
   split at ho
   ·cases ho; omega
   ·split at ho
    ·cases ho; omega
    ·split at ho
     ·cases ho; omega
     ·cases ho
  have hr : shortR (edL P) N k = if bestR (edL P) N own = [] then none else some (bestR (edL P) N own, kindsR (edL P) own (bestR (edL P) N own)) := by unfold shortR; rw [ho]
  simp (disch:=omega) only [BZ, ↓reduceIte, nE, BM, BD, c_cShort]
  refine pc (cof_c hP _ k) ?_
  rw [ho]
  simp (disch:=omega) only [BZ, ↓reduceIte, nE, BM, BD, nA, nL, nT, Option.getD_some, Option.isSome_some]
  repeat (rw [Aa]; simp (disch:=omega) only [BX, ↓reduceIte, nE, reduceCtorEq, BM, BD, nA, nL, nT, ])
  have hC := H6 hok
  have hE0 : Ex W (X W W.nx [.row [.nilsl, .nilsl], .row [.int .u8 own]]) := .x0
  refine (cnew_c hP _ (hG.ex hE0) hown).mono ?_
  rintro _ W1 ⟨sp, rfl, hSe, hE1⟩
  have hE := hE0.trans hE1
  have g4 : W1.get (rf W.nx 0) = some (.row [.nilsl, .nilsl]) := by rw [hE1.get _ (by simp only [Ar, rf, lcs, List.length_nil]; omega), Ap]; rfl
  have hn1 := hE1.nx
  simp only [Ar, rf, lcs, List.length_nil] at hn1
  simp (disch:=omega) only [BZ, ↓reduceIte, reduceCtorEq, ]
  refine pc (nodes_c hP _ (hG.ex hE)) ?_
  have hNs := Dz 1 (intsV N)
  have hNl := hG.nl
  generalize nowGS 1 (intsV N) = nv at hNs
  simp (disch:=omega) only [BS, ↓reduceIte, hNs.len, Al]
  rw [Ai]
  refine alp (fun (σ : Nat × V) A1 W2 => A1 4 = some (.ptr (rf W.nx 0) 0) ∧ A1 8 = some (.ptr sp 0) ∧ A1 9 = some σ.2 ∧ A1 31 = some nv ∧ A1 32 = some (.int .i64 N.length) ∧ A1 33 = some (.int .i64 (σ.1 : Nat)) ∧ σ.1 ≤ N.length ∧ isS 1 σ.2 (intsV ((N.take σ.1).foldl (shStep (edL P) own) [])) ∧ Ex W1 W2) (fun σ => N.length - σ.1) (0, .nilsl)
   ⟨tt, tt, tt, tt, tt, tt, Nat.zero_le _, .nil, Ex.refl hE1.cl⟩ ?_
  rintro ⟨j, bv⟩ A1 W2 ⟨q4, q8, q9, q31, q32, q33, qj, qb, qE⟩ _
  simp only at q9 q33 qj qb
  have nn := qE.nx
  by_cases hj : j < N.length
  ·have hat := Ct hj
   have hfx := hN _ (gmm hj)
   have hst := Yv (es := edL P) (own := own) hj
   have hbl : ((N.take j).foldl (shStep (edL P) own) []).length < 2 ^ 32 := Ly hl (by decide)
   generalize (N.take j).foldl (shStep (edL P) own) [] = best at qb hst hbl
   generalize N[j] = x at hat hfx hst
   simp (disch:=omega) only [BX, ↓reduceIte, nE, BM, BD, nA, nL, c_cShort_0, q8, q31, q32, q33, clt, hj, dT, hNs.idx hat]
   refine (far_c hP W2 (hSe.ex qE) (fun e he => ⟨(hE4 e he).1, (hE4 e he).2.1⟩) hl (to := (x, true)) hfx).mono ?_
   rintro _ W3 ⟨m, mes, c, rfl, hm, hF, m1, m2, hE3⟩
   have hlk : ∀ K, sem E (.lookup (true, [.i .u16, .b]) (.int .i64 0) true) [.map m, .agg [.int .u16 x, .bool false]] W3 K = K (.tuple [.int .i64 (((lookF (farR (edL P) own (x, true)) (x, false)).getD 0 : Nat)), .bool (lookF (farR (edL P) own (x, true)) (x, false)).isSome]) W3 := fun K => hF.look (z := (x, false)) hfx hm
   have hst' : shStep (edL P) own best x = shStep (edL P) own best x := rfl
   conv at hst' => rhs; unfold shStep
   rw [← hst] at hst'
   cases hn : lookF (farR (edL P) own (x, true)) (x, false) with
   | none =>
    rw [hn] at hlk hst'
    simp (disch:=omega) only [BS, Am, ↓reduceIte, nE, BM, BD, nA, nL, hlk, Option.getD_none, Option.isSome_none]
    repeat (rw [Aa]; simp (disch:=omega) only [BS, BC, Ac, ↓reduceIte, nE, BM, q4, q8, q9, q31, q32, q33, Ah])
    exact ⟨(j + 1, bv), ⟨tt, tt, tt, tt, tt, tt, hj, by rw [hst']; exact qb, qE.trans hE3⟩, by show N.length - (j + 1) < N.length - j; omega, by have := hE3.nx; omega⟩
   | some n =>
    rw [hn] at hlk hst'
    simp only at hst'
    have hn32 := Th hl _ _ hn
    have hids := ids_c hP W3 (hSe.ex (qE.trans hE3)) (fun e he => ⟨(hE4 e he).1, (hE4 e he).2.1, (hE4 e he).2.2.1, (hE4 e he).2.2.2.1⟩) hm m2 hF (Th hl) hfx (by omega) (Ig _ _ _) hn (Kd hn)
    have z0 : (((0 : Nat) : Int) == 0) = true := rfl
    by_cases hb : best = []
    ·subst hb
     rw [if_pos (.inl rfl)] at hst'
     simp (disch:=omega) only [BS, Am, ↓reduceIte, nE, BM, BD, nA, nL, hlk, Option.getD_some, Option.isSome_some]
     repeat (rw [Aa]; simp (disch:=omega) only [BS, BC, Ac, ↓reduceIte, nE, BM, BD, q8, q9, qb.len, Al, z0])
     refine hids.mono ?_
     rintro Y _ ⟨hY, rfl⟩
     simp (disch:=omega) only [BS, ↓reduceIte, nE, q4, q8, q31, q32, q33, Ah]
     exact ⟨(j + 1, Y), ⟨tt, tt, tt, tt, tt, tt, hj, by rw [hst']; exact hY, qE.trans hE3⟩, by show N.length - (j + 1) < N.length - j; omega, by have := hE3.nx; omega⟩
    ·have hbp : 0 < best.length := List.length_pos_iff.2 hb
     have z1 : (((best.length : Nat) : Int) == 0) = false := by simp; omega
     by_cases hlt : n < best.length
     ·rw [if_pos (.inr hlt)] at hst'
      have hlt' : decide (((n : Nat) : Int) < ((best.length : Nat) : Int)) = true := decide_eq_true (by omega)
      simp (disch:=omega) only [BS, Am, ↓reduceIte, nE, BM, BD, nA, nL, hlk, Option.getD_some, Option.isSome_some]
      repeat (rw [Aa]; simp (disch:=omega) only [BS, BC, Ac, ↓reduceIte, nE, q8, q9, qb.len, Al, z1, hlt'])
      refine hids.mono ?_
      rintro Y _ ⟨hY, rfl⟩
      simp (disch:=omega) only [BS, ↓reduceIte, nE, q4, q8, q31, q32, q33, Ah]
      exact ⟨(j + 1, Y), ⟨tt, tt, tt, tt, tt, tt, hj, by rw [hst']; exact hY, qE.trans hE3⟩, by show N.length - (j + 1) < N.length - j; omega, by have := hE3.nx; omega⟩
     ·rw [if_neg (by exact fun h => h.elim hb hlt)] at hst'
      have hlt' : decide (((n : Nat) : Int) < ((best.length : Nat) : Int)) = false := decide_eq_false (by omega)
      simp (disch:=omega) only [BS, Am, ↓reduceIte, nE, BM, BD, nA, nL, hlk, Option.getD_some, Option.isSome_some]
      repeat (rw [Aa]; simp (disch:=omega) only [BS, BC, Ac, ↓reduceIte, nE, q4, q8, q9, q31, q32, q33, qb.len, Al, z1, hlt', Ah])
      exact ⟨(j + 1, bv), ⟨tt, tt, tt, tt, tt, tt, hj, by rw [hst']; exact qb, qE.trans hE3⟩, by show N.length - (j + 1) < N.length - j; omega, by have := hE3.nx; omega⟩
  ·obtain rfl : j = N.length := by omega
   rw [tkl] at qb
   have hbe : N.foldl (shStep (edL P) own) [] = bestR (edL P) N own := rfl
   have hbI : BestI (edL P) own (bestR (edL P) N own) := best_I (fun e he => ⟨(hE4 e he).2.2.1, (hE4 e he).2.2.2.1⟩) hN (.inl rfl)
   have hbl : (bestR (edL P) N own).length < 2 ^ 32 := Ly hl (by decide)
   have hrg := hbI.rg fun e he => ⟨(hE4 e he).2.2.1, (hE4 e he).2.2.2.1⟩
   rw [hbe] at qb
   have k4 := (qE.get _ (show rf W.nx 0 < W1.nx by simp only [rf]; omega)).trans g4
   have hb4 : ∀ o y, y < W.nx → (W2.put (rf W.nx 0) o).get y = W.get y := fun o y hy => (put_ne (show y ≠ rf W.nx 0 by simp only [rf]; omega)).trans ((hE.trans qE).get y hy)
   have hback : ∀ y, y < W.nx → W2.get y = W.get y := fun y hy => (hE.trans qE).get y hy
   generalize bestR (edL P) N own = best at qb hbI hbl hrg hr
   by_cases hb : best = []
   ·rw [if_pos hb] at hr
    have z0 : (((best.length : Nat) : Int) == 0) = true := by rw [hb]; rfl
    simp (disch:=omega) only [BX, ↓reduceIte, nE, BM, BD, nA, nL, c_cShort_0, q4, q9, q32, q33, clt, hj, dF, qb.len, Al, z0, k4, put_at]
    exact fin _ .nilsl .nilsl none hr .nil .nil (hb4 _)
   ·rw [if_neg hb] at hr
    have hbp : 0 < best.length := List.length_pos_iff.2 hb
    have z0 : (((best.length : Nat) : Int) == 0) = false := by simp; omega
    have hlate : own ∈ leastR (edL P) own best ∨ lateR (edL P) own best ≠ none := by
     rcases hbI with h | ⟨f, x, h1, h2, _⟩
     ·exact absurd h hb
     ·exact .inr (Pn h1 h2)
    simp (disch:=omega) only [BX, ↓reduceIte, nE, c_cShort_0, q8, q9, q32, q33, clt, hj, dF, qb.len, Al, z0, qb.frz]
    refine (ckinds_c hP W2 (hSe.ex qE) qb hrg hb hbl (by omega) hlate).mono ?_
    rintro Y _ ⟨hY, rfl⟩
    simp (disch:=omega) only [BS, BC, ↓reduceIte, nE, BM, BD, nA, nL, q4, qb.cells, qb.one, hY.cells, hY.one, k4, put_at]
    exact fin _ bv Y (some (best, kindsR (edL P) own best)) hr qb hY (hb4 _)
inductive Wk (es : List Ed) (own : Int) : Nat → Sp → Sp → Prop where
 | nil (x : Sp) : Wk es own 0 x x
 | cons {n : Nat} {x y z : Sp} : Lds es own x y → Wk es own n y z → Wk es own (n + 1) x z
theorem Wk.snoc {es : List Ed} {own : Int} {n : Nat} {x y z : Sp} (h : Wk es own n x y) (h2 : Lds es own y z) : Wk es own (n + 1) x z := by
 induction h with
 | nil x => exact .cons h2 (.nil _)
 | cons a _ ih => exact .cons a (ih h2)
theorem Wk.app {es : List Ed} {own : Int} {n m : Nat} {x y z : Sp} (h : Wk es own n x y) (h2 : Wk es own m y z) : Wk es own (n + m) x z := by
 induction h with
 | nil x => rw [Nat.zero_add]; exact h2
 | cons a _ ih => rw [Nat.add_right_comm]; exact .cons a (ih h2)
structure Lv (d : Nat) (L : Fl) : Prop where
 srt : L.Pairwise fun a b => a.2 ≤ b.2
 top : ∀ p ∈ L, p.2 ≤ d + 1
theorem Lv.put {d : Nat} {L : Fl} (h : Lv d L) (z : Sp) : Lv d (putF d L z) := by
 unfold putF
 split
 ·exact h
 ·refine ⟨List.pairwise_append.2 ⟨h.srt, List.pairwise_singleton .., fun a ha b hb => ?_⟩, fun p hp => ?_⟩
  ·rw [List.mem_singleton.1 hb]; exact h.top a ha
  ·rcases List.mem_append.1 hp with hp | hp
   ·exact h.top p hp
   ·rw [List.mem_singleton.1 hp]; exact lr _
theorem put_has {d : Nat} {L : Fl} (h : Lv d L) (z : Sp) : ∃ d', d' ≤ d + 1 ∧ (z, d') ∈ putF d L z := by
 unfold putF
 split
 ·rename_i hz
  obtain ⟨p, hp, rfl⟩ := List.mem_map.1 hz
  exact ⟨p.2, h.top p hp, hp⟩
 ·exact ⟨d + 1, lr _, by simp⟩
theorem Lv.fold {d : Nat} : ∀ {l : List Sp} {L : Fl}, Lv d L → Lv d (l.foldl (putF d) L) ∧ ∀ z ∈ l, ∃ d', d' ≤ d + 1 ∧ (z, d') ∈ l.foldl (putF d) L
 | [], _, h => ⟨h, fun _ hz => by cases hz⟩
 | z :: l, L, h => by
  obtain ⟨h1, h2⟩ := Lv.fold (l := l) (h.put z)
  refine ⟨h1, fun y hy => ?_⟩
  rcases List.mem_cons.1 hy with rfl | hy
  ·obtain ⟨d', a, b⟩ := put_has h y
   exact ⟨d', a, (Gf d l _).subset b⟩
  ·exact h2 y hy
structure Bf (es : List Ed) (own : Int) (to : Sp) (i : Nat) (L : Fl) : Prop where
 fi : FI es to L
 srt : L.Pairwise fun a b => a.2 ≤ b.2
 top : ∀ x, L[i]? = some x → ∀ p ∈ L, p.2 ≤ x.2 + 1
 cl : ∀ (j : Nat) q, j < i → L[j]? = some q → ∀ y, Lds es own y q.1 → ∃ d, d ≤ q.2 + 1 ∧ (y, d) ∈ L
theorem Z5 {α : Type} {l m : List α} (h : l <+: m) {i : Nat} (hi : i < l.length) : m[i]? = l[i]? := by
 obtain ⟨t, rfl⟩ := h
 rw [List.getElem?_append_left hi]
theorem Bf.step {es : List Ed} {own : Int} {to : Sp} {i : Nat} {L : Fl} (h : Bf es own to i L) {x : Sp × Nat} (hx : L[i]? = some x) : Bf es own to (i + 1) (stepF es own L x) := by
 have hi : i < L.length := (List.getElem?_eq_some_iff.1 hx).1
 have hm := List.mem_of_getElem? hx
 obtain ⟨hL, hz⟩ := Lv.fold (d := x.2) (l := behR es own x.1) ⟨h.srt, h.top x hx⟩
 have hp := Gf x.2 (behR es own x.1) L
 have hx' : ((behR es own x.1).foldl (putF x.2) L)[i]? = some x := by rw [Z5 hp hi, hx]
 refine ⟨h.fi.fold x.2 (h.fi.dl x hm) fun z hz => Pe hz, hL.srt, fun x' h' p hpm => ?_, fun j q hj hq y hy => ?_⟩
 ·have h1 := hL.top p hpm
  obtain ⟨a1, a2⟩ := List.getElem?_eq_some_iff.1 hx'
  obtain ⟨b1, b2⟩ := List.getElem?_eq_some_iff.1 h'
  have := List.pairwise_iff_getElem.1 hL.srt i (i + 1) a1 b1 (by omega)
  unfold stepF at b1 b2
  rw [a2, b2] at this
  omega
 ·unfold stepF at hq
  by_cases hji : j = i
  ·subst hji
   rw [hx'] at hq
   obtain rfl := Option.some.inj hq
   exact hz y (Og.2 hy)
  ·rw [Z5 hp (by omega)] at hq
   obtain ⟨d, h1, h2⟩ := h.cl j q (by omega) hq y hy
   exact ⟨d, h1, hp.subset h2⟩
theorem Bf.go {es : List Ed} {own : Int} {to : Sp} : ∀ {n i : Nat} {L : Fl}, Bf es own to i L → 2 * es.length + 2 ≤ n + i → ∃ i', (farGo es own n i L).length ≤ i' ∧ Bf es own to i' (farGo es own n i L)
 | 0, i, L, h, hn => ⟨i, by have := h.fi.len; show L.length ≤ i; omega, h⟩
 | n + 1, i, L, h, hn => by
  unfold farGo
  split
  ·rename_i hx
   exact ⟨i, List.getElem?_eq_none_iff.1 hx, h⟩
  ·rename_i x hx
   exact (h.step hx).go (by omega)
theorem Tg (es : List Ed) (own : Int) (to : Sp) {q : Sp × Nat} (hq : q ∈ farR es own to) {y : Sp} (hy : Lds es own y q.1) : ∃ d, d ≤ q.2 + 1 ∧ (y, d) ∈ farR es own to := by
 obtain ⟨i, h1, h⟩ := Bf.go (n := 2 * es.length + 2) (i := 0) (L := [(to, 0)]) (es := es) (own := own) ⟨FI.start es to, List.pairwise_singleton .., fun x hx p hp => by rw [List.mem_singleton.1 hp]; exact Nat.zero_le _, fun j q hj => by omega⟩ (by omega)
 obtain ⟨j, hj, rfl⟩ := List.getElem_of_mem hq
 exact h.cl j _ (Nat.lt_of_lt_of_le hj h1) (gEg hj) y hy
theorem Tf {es : List Ed} {own : Int} {n : Nat} {x to : Sp} (h : Wk es own n x to) : ∃ d, d ≤ n ∧ lookF (farR es own to) x = some d := by
 induction h with
 | nil x => exact ⟨0, lr _, far_zero ..⟩
 | @cons n x y z a _ ih =>
  obtain ⟨d, h1, h2⟩ := ih
  have hF := (Lk es own z).nd
  obtain ⟨d', h3, h4⟩ := Tg es own z ((C5 hF).1 h2) a
  exact ⟨d', by simp only at h3; omega, (C5 hF).2 h4⟩
theorem Lj {es : List Ed} {own : Int} {to : Sp} : ∀ {d : Nat} {x : Sp}, lookF (farR es own to) x = some d → Wk es own d x to
 | 0, x, h => by rw [Te h]; exact .nil _
 | d + 1, x, h => by
  obtain ⟨y, h1, h2⟩ := Ig es own to x d h
  exact .cons h1 (Lj h2)
def sdR (es : List Ed) (own f : Int) : Option Nat := lookF (farR es own (f, true)) (f, false)
structure BestS (es : List Ed) (own : Int) (N : List Int) (b : List Int) : Prop where
 no : b = [] → ∀ f ∈ N, sdR es own f = none
 le : ∀ f ∈ N, ∀ n, sdR es own f = some n → b ≠ [] ∧ b.length ≤ n
 at_ : b ≠ [] → ∃ N1 f N2, N = N1 ++ f :: N2 ∧ sdR es own f = some b.length ∧ b = idsR es own f (farR es own (f, true)) b.length ∧ ∀ g ∈ N1, ∀ n, sdR es own g = some n → b.length < n
theorem BestS.snoc {es : List Ed} {own : Int} {N b : List Int} (h : BestS es own N b) (f : Int) : BestS es own (N ++ [f]) (shStep es own b f) := by
 unfold shStep
 cases hs : lookF (farR es own (f, true)) (f, false) with
 | none =>
  have hs' : sdR es own f = none := hs
  refine ⟨fun e g hg => ?_, fun g hg n hn => ?_, fun e => ?_⟩
  ·rcases List.mem_append.1 hg with hg | hg
   ·exact h.no e g hg
   ·rw [List.mem_singleton.1 hg]; exact hs'
  ·rcases List.mem_append.1 hg with hg | hg
   ·exact h.le g hg n hn
   ·rw [List.mem_singleton.1 hg, hs'] at hn; cases hn
  ·obtain ⟨N1, g, N2, h1, h2⟩ := h.at_ e
   exact ⟨N1, g, N2 ++ [f], by rw [h1]; simp, h2⟩
 | some n =>
  have hs' : sdR es own f = some n := hs
  have hn0 := Kd hs
  have hl := Qu (es := es) (own := own) (first := f) (far := farR es own (f, true)) hn0
  simp only
  split
  ·rename_i hc
   have hne : idsR es own f (farR es own (f, true)) n ≠ [] := fun e => by rw [e] at hl; simp at hl; omega
   refine ⟨fun e => absurd e hne, fun g hg m hm => ⟨hne, ?_⟩, fun _ => ⟨N, f, [], rfl, by rw [hl]; exact hs', by rw [hl], fun g hg m hm => ?_⟩⟩
   ·rw [hl]
    rcases List.mem_append.1 hg with hg | hg
    ·obtain ⟨h1, h2⟩ := h.le g hg m hm
     rcases hc with hc | hc
     ·exact absurd hc h1
     ·omega
    ·rw [List.mem_singleton.1 hg, hs'] at hm
     obtain rfl := Option.some.inj hm
     exact lr _
   ·rw [hl]
    obtain ⟨h1, h2⟩ := h.le g hg m hm
    rcases hc with hc | hc
    ·exact absurd hc h1
    ·omega
  ·rename_i hc
   have hb : b ≠ [] := fun e => hc (.inl e)
   have hb2 : b.length ≤ n := Nat.not_lt.1 fun e => hc (.inr e)
   refine ⟨fun e => absurd e hb, fun g hg m hm => ⟨hb, ?_⟩, fun e => ?_⟩
   ·rcases List.mem_append.1 hg with hg | hg
    ·exact (h.le g hg m hm).2
    ·rw [List.mem_singleton.1 hg, hs'] at hm
     obtain rfl := Option.some.inj hm
     exact hb2
   ·obtain ⟨N1, g, N2, h1, h2⟩ := h.at_ e
    exact ⟨N1, g, N2 ++ [f], by rw [h1]; simp, h2⟩
theorem best_S (es : List Ed) (own : Int) (N : List Int) : BestS es own N (bestR es N own) := by
 refine Ny (p := fun N => BestS es own N (bestR es N own)) ⟨fun _ f hf => (by cases hf), fun f hf => (by cases hf), fun h => absurd rfl h⟩ (fun l a ih => ?_) N
 have := ih.snoc a
 unfold bestR at this ⊢
 rw [List.foldl_append]
 exact this
def kindsTo (own : Int) : List Int := ([0, 1, 2] : List Int).take (own.toNat + 1)
theorem kin_to {own k : Int} (ho : own = 0 ∨ own = 1 ∨ own = 2) (hk : 0 ≤ k) : kin (kindsTo own) k = true ↔ k ≤ own := by
 rcases ho with rfl | rfl | rfl <;> simp [kin, kindsTo] <;> omega
theorem Ve {own k : Int} : kin [own] k = true ↔ k = own := by simp [kin]
theorem slK {own : Int} (ho : own = 0 ∨ own = 1 ∨ own = 2) : ∃ f, ∀ (W : AW) (K : V → AW → Prop), sem E (.slc 1 false true false) [.sl 1 true [.int .u8 0, .int .u8 1, .int .u8 2], .int .u8 (own + 1)] W K = K (.sl 1 f (u8s (kindsTo own))) W := by
 rcases ho with rfl | rfl | rfl
 ·exact ⟨false, fun W K => by simp [sem, rsem, tsem, slcOp, natV, slcV, kindsTo, u8s]⟩
 ·exact ⟨false, fun W K => by simp [sem, rsem, tsem, slcOp, natV, slcV, kindsTo, u8s]⟩
 ·exact ⟨true, fun W K => by simp [sem, rsem, tsem, slcOp, natV, slcV, kindsTo, u8s]⟩
theorem bK3 {W : AW} {K : V → AW → Prop} : sem E (.bslice 1 3 (.int .u8 0) [0, 1, 2]) [.int .u8 0, .int .u8 1, .int .u8 2] W K = K (.sl 1 true [.int .u8 0, .int .u8 1, .int .u8 2]) W := id rfl
theorem bKo {W : AW} {K : V → AW → Prop} {a : Int} : sem E (.bslice 1 1 (.int .u8 0) [0]) [.int .u8 a] W K = K (.sl 1 true (u8s [a])) W := id rfl
theorem w8add {own : Int} (ho : own = 0 ∨ own = 1 ∨ own = 2) : IntKind.u8.wrap (own + 1) = own + 1 := by
 rcases ho with rfl | rfl | rfl <;> rfl
theorem nx_ed {P : List Ek} {N kinds : List Int} (hN : N.Pairwise fun a b => a < b) (hm : ∀ e ∈ edL P, e.fr ∈ N ∧ e.to ∈ N) {i j : Nat} (hi : i < N.length) (h : j ∈ nxN P N kinds i) : ∃ e ∈ edL P, e.fr = N.getD i 0 ∧ e.to = N.getD j 0 ∧ kin kinds e.kd = true := by
 obtain ⟨hj, h1⟩ := (Gn hN hm hi).1 h
 obtain ⟨e, e1, e2, e3, e4⟩ := Eb.1 (Ec.1 h1)
 exact ⟨e, e1, by rw [e2, List.getD_eq_getElem?_getD, gEg hi]; rfl, by rw [e3, List.getD_eq_getElem?_getD, gEg hj]; rfl, e4⟩
end Go.AL.S
set_option maxHeartbeats 2000000
namespace Go.AL.S
open Go Go.AL Go.Proofs
variable {E : Env}
theorem new_n (hP : PE E) (W : AW) : ACalls E 29 [] W fun Y W' => ∃ p ra rw, Y = .ptr p 0 ∧ Nw W W' p ra rw [] := by
 refine ACalls.of hP Tryz.func29 ok7e (by simp) fun _ hok => ?_
 refine Ae hok ?_
 simp only [c7, BZ, ↓reduceIte, nE, BM, BD, nA, nL]
 refine ⟨_, rfl, _, _, .weak Ab, ?_, rf W.nx 2, rf W.nx 0, rf W.nx 1, rfl, ⟨?_, ?_, ⟨[], 0, ?_, ⟨(fun _ h => by cases h), fun _ _ => rfl⟩⟩, ?_, ?_, ?_, ?_, ⟨by simp, List.Pairwise.nil⟩⟩, Ex.x0, ?_, ?_, ?_⟩
 ·simp [Ar, rf]
 ·simp only [BC, BM]; rfl
 ·simp only [BC, BM, BD]; rfl
 ·simp only [BC, BM]
 all_goals simp [rf, Ar]
structure Sx (W W' : AW) (p ra rw q : Nat) (s : Str) (os : Ods) : Prop where
 nw : Nw W W' p ra rw s
 od : Od W' q os
 hq : W.nx ≤ q
 ne : q ≠ p ∧ q ≠ ra ∧ q ≠ rw
def os0 : Ods := [[], [], [], [], [], [], [], []]
theorem I6 {W : AW} {K : V → AW → Prop} {k : IntKind} {a : Int} : sem E (.bin .rem) [.int k a, .int k 6] W K = K (.int k (a.tmod 6)) W := by
 simp [sem, rsem, tsem, binI]
theorem R0 (o : Ods) {l : List Rd} {k : Nat} (hk : k < l.length) : takesR o (l.take (k + 1)) = ((takeR (takesR o (l.take k)).1 (l[k]).1 (nums (l[k]).2)).1, (takesR o (l.take k)).2 && ((takeR (takesR o (l.take k)).1 (l[k]).1 (nums (l[k]).2)).2.1 && decide ((takeR (takesR o (l.take k)).1 (l[k]).1 (nums (l[k]).2)).2.2 = 0))) := by
 rw [tao, gEg hk, Option.toList_some, R4]
 simp only [takesR, Bool.and_true]
open Go Go.AL Go.AL.SE Go.Proofs
def c_told30_1 : AC := (.seq (.r [.m 67 10,.m 68 9,.u 69 (.len 1 0) 68,.b 70 (.bin .lss) 67 69] (.w 70 3)) (.seq (.block 4 (.par (.step 0 (.m 73 4) (.step 1 (.m 74 9) (.step 2 (.m 75 10) (.step 6 (.m 79 9) (.step 7 (.m 80 10) (.step 3 (.b 76 (.idxp 2) 74 75) (.step 4 (.u 77 (.fld 0) 76) (.step 5 (.u 78 (.load false 1) 77) (.step 8 (.b 81 (.idxp 2) 79 80) (.step 9 (.u 82 (.fld 1) 81) (.step 10 (.u 83 (.load false 1) 82) (.step 11 (.p 84 (.call 37) [.t 73,.t 78,.t 83]) .done)))))))))))))) (.reg [.m 71 10,.a 72 (.bin .add) 71 1,.m 10 72])))
def c_told30_0 : AC := (.seq (.r [.m 13 5,.m 14 0,.u 15 (.len 1 0) 14,.b 16 (.bin .lss) 13 15] (.w 16 0)) (.seq (.block 1 (.r [.m 19 5,.a 20 (.bin .add) 19 1,.u 21 (.conv .u16) 20,.m 6 21] (.seq (.r [.m 22 3,.m 23 6,.m 24 0,.m 25 5,.b 26 (.idxp 3) 24 25,.u 27 (.fld 0) 26,.u 28 (.load false 1) 27,.p 29 (.call 31) [.t 22,.c (.int .u8 0),.t 23,.t 28],.a 30 (.bin .neq) 29 0] (.cond (.t 30) (.exit 1) .skip)) (.seq (.r [.m 31 0,.m 32 5,.b 33 (.idxp 3) 31 32,.u 34 (.fld 2) 33,.u 35 (.load false 1) 34,.p 36 (.bin .rem) [.t 35,.c (.int .u8 6)]] (.block 2 (.seq (.r [.p 38 (.bin .eql) [.t 36,.c (.int .u8 0)],.m 37 38] (.cond (.t 37) .skip (.r [.p 39 (.bin .eql) [.t 36,.c (.int .u8 1)],.m 37 39] (.cond (.t 37) .skip (.reg [.p 40 (.bin .eql) [.t 36,.c (.int .u8 2)],.m 37 40]))))) (.cond (.t 37) (.reg [.m 41 3,.m 42 6,.m 43 0,.m 44 5,.b 45 (.idxp 3) 43 44,.u 46 (.fld 1) 45,.u 47 (.load false 1) 46,.p 48 (.call 32) [.t 41,.t 42,.t 47]]) (.r [.p 50 (.bin .eql) [.t 36,.c (.int .u8 3)],.m 49 50] (.cond (.t 49) (.reg [.m 51 3,.m 52 6,.b 53 (.call 33) 51 52]) (.r [.p 55 (.bin .eql) [.t 36,.c (.int .u8 4)],.m 54 55] (.cond (.t 54) (.reg [.m 56 3,.m 57 6,.b 58 (.call 34) 56 57]) .skip)))))))) (.r [.m 60 3,.m 61 6,.b 62 (.call 35) 60 61,.m 59 62,.u 63 (.ext 0) 59,.u 64 (.ext 1) 59,.p 7 (.alloc [.int .u16 0,.int .u8 0,.nilsl,.nilsl,.int .u8 0]) [],⟨none,.store 5, [.t 7,.t 63], none⟩,.m 8 64] (.r [.u 65 (.load true 5) 7,.u 66 (.call 36) 65,.m 9 66] (.r [.v 10 (.int .i64 0)] (.block 3 (.loop c_told30_1))))))))) (.reg [.m 17 5,.a 18 (.bin .add) 17 1,.m 5 18])))
def c_told30 : AC := (.r [.v 2 (.nilptr)] (.r [.p 11 (.call 29) [],.p 12 (.call 30) [],.m 3 11,.m 4 12] (.seq (.r [.v 5 (.int .i64 0)] (.block 0 (.loop c_told30_0))) (.r [.m 85 3,.m 86 4,.b 87 (.call 38) 85 86,.m 2 87] .ret))))
theorem Sc : compF Tryz.prog Tryz.f10 ⟨false, false, []⟩ = some (c_told30, [.tmp 2], 88) := by kernel_rfl
structure De where
 mv : V
 ml : List Mi
 rv : V
 rl : List (Option (List Int))
 how : Int
def De.V (d : De) : V := .agg [d.mv, d.rv, .int .u8 d.how]
structure De.ok (d : De) : Prop where
 ms : isMs d.mv d.ml
 mi : ∀ m ∈ d.ml, m.ok
 rd : isLs d.rv d.rl
 ns : ∀ o ∈ d.rl, ∀ n ∈ nums o, 0 ≤ n ∧ n < 65536
 bel : d.rv.bel 0 = true
 hw : 0 ≤ d.how ∧ d.how < 256
structure De.small (d : De) : Prop where
 m : d.ml.length < 2 ^ 30
 r : d.rl.length < 2 ^ 30
 n : ∀ o ∈ d.rl, (nums o).length < 2 ^ 30
def endD (s : Str) (i : Int) (d : De) : Str := if d.how.tmod 6 = 0 ∨ d.how.tmod 6 = 1 ∨ d.how.tmod 6 = 2 then (commitR s i d.rl).1 else if d.how.tmod 6 = 3 then (endR s i 2).1 else if d.how.tmod 6 = 4 then (endR s i 3).1 else s
def stepD (so : Str × Ods) (i : Int) (d : De) : Str × Ods :=
 if (beginR so.1 0 i d.ml).2 ≠ 0 then ((beginR so.1 0 i d.ml).1, so.2) else
  (endD (beginR so.1 0 i d.ml).1 i d, (takesR so.2 (readsR ((find (endD (beginR so.1 0 i d.ml).1 i d) i).getD Tx.zero))).1)
def toldR (l : List De) : Str × Ods := l.zipIdx.foldl (fun so x => stepD so ((x.2 + 1 : Nat) : Int) x.1) ([], os0)
theorem Me {l : List De} {k : Nat} (hk : k < l.length) : (l.take (k + 1)).zipIdx.foldl (fun so x => stepD so ((x.2 + 1 : Nat) : Int) x.1) ([], os0) = stepD ((l.take k).zipIdx.foldl (fun so x => stepD so ((x.2 + 1 : Nat) : Int) x.1) ([], os0)) ((k + 1 : Nat) : Int) l[k] := by
 rw [tao, gEg hk, List.zipIdx_append, List.foldl_append]
 simp [Nat.min_eq_left (Nat.le_of_lt hk)]
theorem deF0 {W : AW} {K : V → AW → Prop} {d : De} : sem E (.fld 0) [.cptr d.V.cells] W K = K (.cptr [d.mv, d.rv, .int .u8 d.how]) W := by
 simp [De.V, V.cells, sem, rsem, tsem]
theorem O9 {W : AW} {K : V → AW → Prop} {d : De} : sem E (.fld 1) [.cptr d.V.cells] W K = K (.cptr [d.rv, .int .u8 d.how]) W := by
 simp [De.V, V.cells, sem, rsem, tsem]
theorem Yq {W : AW} {K : V → AW → Prop} {d : De} : sem E (.fld 2) [.cptr d.V.cells] W K = K (.cptr [.int .u8 d.how]) W := by
 simp [De.V, V.cells, sem, rsem, tsem]
theorem Sx.fr {W W1 W2 : AW} {p ra rw q : Nat} {s s' : Str} {o : Ods} (h : Sx W W1 p ra rw q s o) (hS : St W2 p ra rw s') (hF : Fr W1 W2 p ra rw) : Sx W W2 p ra rw q s' o :=
 ⟨h.nw.fr hS hF, h.od.by (by rw [hF.nx]; exact lr _) (hF.get q h.ne.1 h.ne.2.1 h.ne.2.2), h.hq, h.ne⟩
theorem Sx.ex {W W1 W2 : AW} {p ra rw q : Nat} {s : Str} {o : Ods} (h : Sx W W1 p ra rw q s o) (hE : Ex W1 W2) : Sx W W2 p ra rw q s o := ⟨h.nw.exx hE, h.od.ex hE, h.hq, h.ne⟩
theorem Sx.tk {W W1 W2 : AW} {p ra rw q : Nat} {s : Str} {o o' : Ods} (h : Sx W W1 p ra rw q s o) (hO : Od W2 q o') (hn : W2.nx = W1.nx) (hg : ∀ x, x ≠ q → W2.get x = W1.get x) : Sx W W2 p ra rw q s o' := by
 have a := h.nw.ex
 have b := h.hq
 have l := h.od.lq
 refine ⟨⟨h.nw.st.by (by omega) (hg _ h.ne.1.symm) (hg _ h.ne.2.1.symm) (hg _ h.ne.2.2.symm), ⟨fun x hx => by rw [hg x (by omega)]; exact a.cl x (by omega), by rw [hn]; exact a.nx, fun x hx => by rw [hg x (by omega)]; exact a.get x hx⟩, h.nw.hp, h.nw.ha, h.nw.hw⟩, hO, h.hq, h.ne⟩
theorem tkD_go (hP : PE E) {W W1 : AW} {p ra rw q : Nat} {s : Str} {o : Ods} (h : Sx W W1 p ra rw q s o) {l : List Rd} (hl : l.length ≤ 8) (hk : ∀ r ∈ l, 0 ≤ r.1 ∧ r.1 < 256) (hn : ∀ r ∈ l, (nums r.2).length ≤ 32 ∧ ∀ n ∈ nums r.2, 0 ≤ n ∧ n < 65536) {v : V} {j : Nat} {A : AFr} {Q : Exit → AFr → AW → Prop}
  (a0 : A 0 = some v) (a3 : A 3 = some (.ptr p 0)) (a4 : A 4 = some (.ptr q 0)) (a5 : A 5 = some (.int .i64 j)) (a9 : A 9 = some (nowGS 2 (l.map rdV))) (a10 : A 10 = some (.int .i64 0))
  (hQ : ∀ A' W', A' 0 = some v → A' 3 = some (.ptr p 0) → A' 4 = some (.ptr q 0) → A' 5 = some (.int .i64 j) → Sx W W' p ra rw q s (takesR o l).1 → W'.nx = W1.nx → Q (.exit 3) A' W') : awp E (.loop c_told30_1) Q A W1 := by
 have hs := Dz 2 (l.map rdV)
 rw [Ai]
 refine alp (fun (k : Nat) A1 W2 => A1 0 = some v ∧ A1 3 = some (.ptr p 0) ∧ A1 4 = some (.ptr q 0) ∧ A1 5 = some (.int .i64 j) ∧ A1 9 = some (nowGS 2 (l.map rdV)) ∧ A1 10 = some (.int .i64 (k : Nat)) ∧ k ≤ l.length ∧ Sx W W2 p ra rw q s (takesR o (l.take k)).1 ∧ W2.nx = W1.nx) (fun k => l.length - k) 0
  ⟨a0, a3, a4, a5, a9, a10, Nat.zero_le _, h, rfl⟩ ?_
 rintro k A1 W2 ⟨q0, q3, q4, q5, q9, q10, qk, qS, qn⟩ _
 by_cases hk1 : k < l.length
 ·have hkr := hk _ (gmm hk1)
  have hnr := hn _ (gmm hk1)
  have hst := R0 o hk1
  have hat := Z1 hk1
  generalize l[k] = r at hkr hnr hst hat
  have hre := (Dn r.2).isS
  simp (disch:=omega) only [BX, ↓reduceIte, nE, BM, BD, nA, nL, c_told30_1, q4, q9, q10, hs.len, lmp, clt, hk1, dT, hs.idx hat, Mp, hre.frz]
  refine (take_c hP _ qS.od r.1 hkr.1 hkr.2 hre (by have := hnr.1; omega) hnr.2).mono ?_
  rintro _ W3 ⟨rfl, hO3, hn3, hg3⟩
  simp (disch:=omega) only [BS, ↓reduceIte, nE, reduceCtorEq, q0, q3, q4, q5, q9, q10, Ah]
  exact ⟨k + 1, ⟨tt, tt, tt, tt, tt, tt, hk1, by rw [hst]; exact qS.tk hO3 hn3 hg3, by omega⟩, by omega, by omega⟩
 ·obtain rfl : k = l.length := by omega
  rw [tkl] at qS
  simp (disch:=omega) only [BX, ↓reduceIte, nE, c_told30_1, q9, q10, hs.len, lmp, clt, hk1, dF]
  exact hQ _ _ q0 q3 q4 q5 qS qn
theorem Gr.low {W : AW} {g m lo lo' : Nat} {h : V} {P : List Ek} {N : List Int} (hG : Gr W g m h P N lo) (hl : lo' ≤ lo) : Gr W g m h P N lo' := ⟨hG.hg, hG.hm, hG.now.low hl, hG.lg, hG.lm, Nat.le_trans hl hG.gg, Nat.le_trans hl hG.gm, hG.pk, hG.pl, hG.nl⟩
theorem Ze (hP : PE E) (W : AW) {v : V} {l : List De} (hv : isS 3 v (l.map De.V)) (hd : ∀ d ∈ l, d.ok ∧ d.small) (hl : l.length < 60000) :
  ACalls E 10 [v] W fun Y W' => ∃ g m h, Y = .ptr g 0 ∧ Gr W' g m h (buildP (toldR l).1 (toldR l).2) (nodesR (toldR l).1) W.nx ∧ SOk (toldR l).1 ∧ Ex W W' := by
 refine ACalls.of hP Tryz.func10 Sc (by simp) fun _ hok => ?_
 refine Ae hok ?_
 simp (disch:=omega) only [BZ, c_told30]
 refine (new_n hP _).mono ?_
 rintro _ W1 ⟨p, ra, rw, rfl, h1⟩
 simp (disch:=omega) only [BS, BC, ]
 refine (newO_c hP _).mono ?_
 rintro _ W2 ⟨q, rfl, hO, hE, hq⟩
 have hst := G0 hok
 rw [← hst] at h1
 have n1 := h1.ex.nx
 have lp := h1.st.lp
 have la := h1.st.la
 have lw := h1.st.lw
 have S0 : Sx W W2 p ra rw q [] os0 := ⟨h1.exx hE, hO, by omega, by omega, by omega, by omega⟩
 simp (disch:=omega) only [BS, Am, ↓reduceIte, nE, ]
 rw [Ai]
 refine alp (fun (k : Nat) A1 W3 => A1 0 = some v ∧ A1 3 = some (.ptr p 0) ∧ A1 4 = some (.ptr q 0) ∧ A1 5 = some (.int .i64 (k : Nat)) ∧ k ≤ l.length ∧ Sx W W3 p ra rw q (toldR (l.take k)).1 (toldR (l.take k)).2 ∧ W2.nx ≤ W3.nx) (fun k => l.length - k) 0
  ⟨tt, tt, tt, tt, Nat.zero_le _, S0, lr _⟩ ?_
 rintro k A1 W3 ⟨q0, q3, q4, q5, qk, qS, qn⟩ _
 by_cases hk : k < l.length
 ·have hat : (l.map De.V)[k]? = some (l[k]).V := by simp [hk]
  have hdk := hd _ (gmm hk)
  have hst : toldR (l.take (k + 1)) = stepD (toldR (l.take k)) ((k + 1 : Nat) : Int) l[k] := Me hk
  generalize l[k] = d at hat hdk hst
  generalize toldR (l.take k) = so at qS hst
  obtain ⟨s, o⟩ := so
  obtain ⟨hdo, hds⟩ := hdk
  have hms : isS 3 d.mv (d.ml.map Mi.V) := hdo.ms
  have hdm := hds.m
  have hdr := hds.r
  have c16 : IntKind.u16.wrap (((k + 1 : Nat) : Int)) = ((k + 1 : Nat) : Int) := IntWalk.u16_in _ (by omega)
  have hbg := begin_c (E := E) hP W3 qS.nw.st 0 ((k + 1 : Nat) : Int) (by omega) (by omega) (by decide) (by decide) hdo.ms hdo.mi (by omega)
  simp (disch:=omega) only [BX, ↓reduceIte, nE, reduceCtorEq, BM, c_told30_0, q0, q3, q5, hv.len, lmp, clt, hk, dT, Ah, c16, hv.idx hat, deF0, hms.frz]
  refine hbg.mono ?_
  rintro _ W4 ⟨rfl, hS4, hF4⟩
  have qS4 := qS.fr hS4 hF4
  have n4 := hF4.nx
  simp only [stepD] at hst
  by_cases he : (beginR s 0 ((k + 1 : Nat) : Int) d.ml).2 = 0
  ·rw [if_neg (fun h => h he)] at hst
   have he' : ((beginR s 0 ((k + 1 : Nat) : Int) d.ml).2 != 0) = false := by rw [he]; rfl
   generalize (beginR s 0 ((k + 1 : Nat) : Int) d.ml).1 = s1 at qS4 hst
   obtain ⟨xs, i1, i2, i3⟩ : ∃ xs, isS 1 d.rv xs ∧ xs.length = d.rl.length ∧ ∀ k (h : k < xs.length) (h' : k < d.rl.length), isEl xs[k] d.rl[k] := hdo.rd
   simp (disch:=omega) only [BS, BC, Ac, ↓reduceIte, he']
   rw [Am]
   refine Ao (Q := fun z A' W' => z = .normal ∧ A' 0 = some v ∧ A' 3 = some (.ptr p 0) ∧ A' 4 = some (.ptr q 0) ∧ A' 5 = some (.int .i64 (k : Nat)) ∧ A' 6 = some (.int .u16 ((k + 1 : Nat) : Int)) ∧ Sx W W' p ra rw q (endD s1 ((k + 1 : Nat) : Int) d) o ∧ W4.nx ≤ W'.nx) _ ?_ ?_
   ·rintro _ A5 W5 ⟨rfl, z0, z3, z4, z5, z6, zS, zn⟩
    obtain ⟨t', ht', hto⟩ : ∃ t', (find (endD s1 ((k + 1 : Nat) : Int) d) ((k + 1 : Nat) : Int)).getD Tx.zero = t' ∧ t'.ok := by
     cases hf : find (endD s1 ((k + 1 : Nat) : Int) d) ((k + 1 : Nat) : Int) with
     | none => exact ⟨_, rfl, by constructor <;> simp [Tx.zero, Option.getD_none]⟩
     | some t => exact ⟨t, rfl, (Gx zS.nw.st.ok hf).2.2⟩
    rw [ht'] at hst
    show awp E _ _ A5 W5
    simp (disch:=omega) only [BZ, ↓reduceIte, nE, z3, z6]
    refine pc (find_c hP _ zS.nw.st ((k + 1 : Nat) : Int) (by omega) (by omega)) ?_
    rw [ht', zS.nw.ex.cl.start]
    simp (disch:=omega) only [BZ, ↓reduceIte, nE, BM, BD, nA, nL, nT, Ce, Ca, Tx.V]
    refine pc (Us hP _ hto) ?_
    simp (disch:=omega) only [BS, Am, ↓reduceIte]
    have hEx : ∀ l, Ex W5 (X W5 W5.nx l) := fun l => (Ex.refl zS.nw.ex.cl).X
    refine tkD_go hP (v := v) (j := k) (zS.ex (hEx _)) (Hd hto) (Fo hto.ms) (F5 hto) tt tt tt tt tt tt ?_
    intro A6 W6 y0 y3 y4 y5 yS yn
    simp only [Ar, rf] at yn
    simp (disch:=omega) only [BS, ↓reduceIte, nE, reduceCtorEq, y0, y3, y4, y5, Ah]
    exact ⟨k + 1, ⟨tt, tt, tt, tt, hk, by rw [hst]; exact yS, by omega⟩, by omega, by omega⟩
   ·by_cases w0 : d.how.tmod 6 = 0
    ·have b0 : (d.how.tmod 6 == 0) = true := by simp [w0]
     have hen : endD s1 ((k + 1 : Nat) : Int) d = (commitR s1 ((k + 1 : Nat) : Int) d.rl).1 := if_pos (.inl w0)
     simp (disch:=omega) only [BX, ↓reduceIte, nE, reduceCtorEq, BM, q0, q3, q5, hv.idx hat, Yq, O9, I6, i1.frz, b0]
     refine (Ls hP _ qS4.nw.st ((k + 1 : Nat) : Int) (by omega) (by omega) hdo.rd hdo.bel (by omega) fun o ho => ⟨by have := hds.n o ho; omega, hdo.ns o ho⟩).mono ?_
     rintro _ W5 ⟨rfl, hS5, hF5⟩
     simp (disch:=omega) only [BS, ↓reduceIte, nE, reduceCtorEq, q0, q3, q4, q5]
     exact ⟨tt, tt, tt, tt, tt, tt, by rw [hen]; exact qS4.fr hS5 hF5, by have := hF5.nx; omega⟩
    have b0 : (d.how.tmod 6 == 0) = false := by simp [w0]
    by_cases w1 : d.how.tmod 6 = 1
    ·have b1 : (d.how.tmod 6 == 1) = true := by simp [w1]
     have hen : endD s1 ((k + 1 : Nat) : Int) d = (commitR s1 ((k + 1 : Nat) : Int) d.rl).1 := if_pos (.inr (.inl w1))
     simp (disch:=omega) only [BX, ↓reduceIte, nE, reduceCtorEq, BM, q0, q3, q5, hv.idx hat, Yq, O9, I6, i1.frz, b0, b1]
     refine (Ls hP _ qS4.nw.st ((k + 1 : Nat) : Int) (by omega) (by omega) hdo.rd hdo.bel (by omega) fun o ho => ⟨by have := hds.n o ho; omega, hdo.ns o ho⟩).mono ?_
     rintro _ W5 ⟨rfl, hS5, hF5⟩
     simp (disch:=omega) only [BS, ↓reduceIte, nE, reduceCtorEq, q0, q3, q4, q5]
     exact ⟨tt, tt, tt, tt, tt, tt, by rw [hen]; exact qS4.fr hS5 hF5, by have := hF5.nx; omega⟩
    have b1 : (d.how.tmod 6 == 1) = false := by simp [w1]
    by_cases w2 : d.how.tmod 6 = 2
    ·have b2 : (d.how.tmod 6 == 2) = true := by simp [w2]
     have hen : endD s1 ((k + 1 : Nat) : Int) d = (commitR s1 ((k + 1 : Nat) : Int) d.rl).1 := if_pos (.inr (.inr w2))
     simp (disch:=omega) only [BX, ↓reduceIte, nE, reduceCtorEq, BM, q0, q3, q5, hv.idx hat, Yq, O9, I6, i1.frz, b0, b1, b2]
     refine (Ls hP _ qS4.nw.st ((k + 1 : Nat) : Int) (by omega) (by omega) hdo.rd hdo.bel (by omega) fun o ho => ⟨by have := hds.n o ho; omega, hdo.ns o ho⟩).mono ?_
     rintro _ W5 ⟨rfl, hS5, hF5⟩
     simp (disch:=omega) only [BS, ↓reduceIte, nE, reduceCtorEq, q0, q3, q4, q5]
     exact ⟨tt, tt, tt, tt, tt, tt, by rw [hen]; exact qS4.fr hS5 hF5, by have := hF5.nx; omega⟩
    have b2 : (d.how.tmod 6 == 2) = false := by simp [w2]
    have hn012 : ¬ (d.how.tmod 6 = 0 ∨ d.how.tmod 6 = 1 ∨ d.how.tmod 6 = 2) := fun h => h.elim w0 fun h => h.elim w1 w2
    by_cases w3 : d.how.tmod 6 = 3
    ·have b3 : (d.how.tmod 6 == 3) = true := by simp [w3]
     have hen : endD s1 ((k + 1 : Nat) : Int) d = (endR s1 ((k + 1 : Nat) : Int) 2).1 := by unfold endD; rw [if_neg hn012, if_pos w3]
     simp (disch:=omega) only [BX, ↓reduceIte, nE, reduceCtorEq, BM, q0, q3, q5, hv.idx hat, Yq, I6, b0, b1, b2, b3]
     refine (abort_c hP _ qS4.nw.st ((k + 1 : Nat) : Int) (by omega) (by omega)).mono ?_
     rintro _ W5 ⟨rfl, hS5, hF5⟩
     simp (disch:=omega) only [BS, ↓reduceIte, nE, reduceCtorEq, q0, q3, q4, q5]
     exact ⟨tt, tt, tt, tt, tt, tt, by rw [hen]; exact qS4.fr hS5 hF5, by have := hF5.nx; omega⟩
    have b3 : (d.how.tmod 6 == 3) = false := by simp [w3]
    by_cases w4 : d.how.tmod 6 = 4
    ·have b4 : (d.how.tmod 6 == 4) = true := by simp [w4]
     have hen : endD s1 ((k + 1 : Nat) : Int) d = (endR s1 ((k + 1 : Nat) : Int) 3).1 := by unfold endD; rw [if_neg hn012, if_neg w3, if_pos w4]
     simp (disch:=omega) only [BX, ↓reduceIte, nE, reduceCtorEq, BM, q0, q3, q5, hv.idx hat, Yq, I6, b0, b1, b2, b3, b4]
     refine (info_c hP _ qS4.nw.st ((k + 1 : Nat) : Int) (by omega) (by omega)).mono ?_
     rintro _ W5 ⟨rfl, hS5, hF5⟩
     simp (disch:=omega) only [BS, ↓reduceIte, nE, reduceCtorEq, q0, q3, q4, q5]
     exact ⟨tt, tt, tt, tt, tt, tt, by rw [hen]; exact qS4.fr hS5 hF5, by have := hF5.nx; omega⟩
    have b4 : (d.how.tmod 6 == 4) = false := by simp [w4]
    have hen : endD s1 ((k + 1 : Nat) : Int) d = s1 := by unfold endD; rw [if_neg hn012, if_neg w3, if_neg w4]
    simp (disch:=omega) only [BX, ↓reduceIte, nE, reduceCtorEq, BM, q0, q3, q4, q5, hv.idx hat, Yq, I6, b0, b1, b2, b3, b4]
    exact ⟨tt, tt, tt, tt, tt, tt, by rw [hen]; exact qS4, by omega⟩
  ·rw [if_pos he] at hst
   have he' : ((beginR s 0 ((k + 1 : Nat) : Int) d.ml).2 != 0) = true := bne_iff_ne.2 he
   simp (disch:=omega) only [BS, Ac, ↓reduceIte, nE, reduceCtorEq, he', q0, q3, q4, q5, Ah]
   exact ⟨k + 1, ⟨tt, tt, tt, tt, hk, by rw [hst]; exact qS4, by omega⟩, by omega, by omega⟩
 ·obtain rfl : k = l.length := by omega
  rw [tkl] at qS
  simp (disch:=omega) only [BX, ↓reduceIte, nE, reduceCtorEq, c_told30_0, q0, q3, q4, q5, hv.len, lmp, clt, hk, dF]
  have hn := qS.nw.ex.nx
  refine (build_c hP _ qS.nw.st qS.od).mono ?_
  rintro _ W4 ⟨g, m, h, rfl, hG, hE4⟩
  simp (disch:=omega) only [BS, BC, ↓reduceIte, ]
  exact ⟨_, rfl, _, _, .weak Ab, by have := hE4.nx; omega, g, m, h, rfl, hG.low hn, qS.nw.st.ok, qS.nw.ex.trans hE4⟩
end Go.AL.S
namespace Go.AL.S
open Go Go.AL Go.Proofs Go.Shelf
def lays166_ren : Go.Shelf.Ren := ⟨fun | 166 => 53 | 240 => 86 | 276 => 112 | n => n, fun | 0 => 0 | 3 => 3 | 4 => 4 | 5 => 5 | 9 => 9 | 20 => 20 | 37 => 32 | 70 => 119 | 72 => 121 | 75 => 123 | 80 => 127 | 164 => 224 | n => n, fun | n => n⟩
theorem Va : Go.Proofs.Lays.n166 Tryz.prog lays166_ren := {
 mixed := by kernel_rfl
 f166 := Tryz.func53.trans (congrArg some (by kernel_rfl))
 f240 := Tryz.func86.trans (congrArg some (by kernel_rfl))
 f276 := Tryz.func112.trans (congrArg some (by kernel_rfl))
 t0 := Tryz.underlying0
 a0 := Tryz.isAgg0
 z0 := Tryz.sizeOf0
 v0 := Tryz.zeroValue0
 t3 := Tryz.underlying3
 a3 := Tryz.isAgg3
 z3 := Tryz.sizeOf3
 v3 := Tryz.zeroValue3
 t4 := Tryz.underlying4
 a4 := Tryz.isAgg4
 z4 := Tryz.sizeOf4
 v4 := Tryz.zeroValue4
 t9 := Tryz.underlying9
 a9 := Tryz.isAgg9
 z9 := Tryz.sizeOf9
 v9 := Tryz.zeroValue9
 t20 := Tryz.underlying20
 a20 := Tryz.isAgg20
 z20 := Tryz.sizeOf20
 v20 := Tryz.zeroValue20
 t37 := Tryz.underlying32
 a37 := Tryz.isAgg32
 z37 := Tryz.sizeOf32
 v37 := Tryz.zeroValue32
 t70 := Tryz.underlying119
 a70 := Tryz.isAgg119
 z70 := Tryz.sizeOf119
 v70 := Tryz.zeroValue119
 t72 := Tryz.underlying121
 a72 := Tryz.isAgg121
 z72 := Tryz.sizeOf121
 v72 := Tryz.zeroValue121
 t75 := Tryz.underlying123
 a75 := Tryz.isAgg123
 z75 := Tryz.sizeOf123
 v75 := Tryz.zeroValue123
 t164 := Tryz.underlying224
 a164 := Tryz.isAgg224
 z164 := Tryz.sizeOf224
 v164 := Tryz.zeroValue224 }
def lays169_ren : Go.Shelf.Ren := ⟨fun | 169 => 55 | n => n, fun | 70 => 119 | 9 => 9 | 0 => 0 | 72 => 121 | 37 => 32 | 127 => 187 | 3 => 3 | 5 => 5 | n => n, fun | n => n⟩
theorem lays169 : Go.Proofs.Lays.n169 Tryz.prog lays169_ren := {
 mixed := by kernel_rfl
 f169 := Tryz.func55.trans (congrArg some (by kernel_rfl))
 t0 := Tryz.underlying0
 a0 := Tryz.isAgg0
 z0 := Tryz.sizeOf0
 v0 := Tryz.zeroValue0
 t3 := Tryz.underlying3
 a3 := Tryz.isAgg3
 z3 := Tryz.sizeOf3
 v3 := Tryz.zeroValue3
 t9 := Tryz.underlying9
 a9 := Tryz.isAgg9
 z9 := Tryz.sizeOf9
 v9 := Tryz.zeroValue9
 t37 := Tryz.underlying32
 a37 := Tryz.isAgg32
 z37 := Tryz.sizeOf32
 v37 := Tryz.zeroValue32
 t70 := Tryz.underlying119
 a70 := Tryz.isAgg119
 z70 := Tryz.sizeOf119
 v70 := Tryz.zeroValue119
 t72 := Tryz.underlying121
 a72 := Tryz.isAgg121
 z72 := Tryz.sizeOf121
 v72 := Tryz.zeroValue121
 t127 := Tryz.underlying187
 a127 := Tryz.isAgg187
 z127 := Tryz.sizeOf187
 v127 := Tryz.zeroValue187 }
def lays171_ren : Go.Shelf.Ren := ⟨fun | 171 => 54 | 243 => 87 | 246 => 113 | 283 => 134 | 284 => 135 | 285 => 136 | 286 => 137 | 129 => 171 | 317 => 170 | 318 => 172 | 319 => 173 | 320 => 174 | 337 => 226 | 338 => 227 | n => n, fun | 3 => 3 | 9 => 9 | 2 => 2 | 4 => 4 | 171 => 242 | 0 => 0 | 53 => 243 | 37 => 32 | 5 => 5 | 173 => 246 | 212 => 266 | 51 => 267 | 20 => 20 | 213 => 268 | 46 => 227 | 232 => 351 | 233 => 352 | n => n, fun | 17 => 0 | 18 => 2 | 19 => 3 | n => n⟩
theorem U9 : Go.Proofs.Lays.n171 Tryz.prog lays171_ren := {
 mixed := by kernel_rfl
 f129 := Tryz.func171.trans (congrArg some (by kernel_rfl))
 f171 := Tryz.func54.trans (congrArg some (by kernel_rfl))
 f243 := Tryz.func87.trans (congrArg some (by kernel_rfl))
 f246 := Tryz.func113.trans (congrArg some (by kernel_rfl))
 f283 := Tryz.func134.trans (congrArg some (by kernel_rfl))
 f284 := Tryz.func135.trans (congrArg some (by kernel_rfl))
 f285 := Tryz.func136.trans (congrArg some (by kernel_rfl))
 f286 := Tryz.func137.trans (congrArg some (by kernel_rfl))
 f317 := Tryz.func170.trans (congrArg some (by kernel_rfl))
 f318 := Tryz.func172.trans (congrArg some (by kernel_rfl))
 f319 := Tryz.func173.trans (congrArg some (by kernel_rfl))
 f320 := Tryz.func174.trans (congrArg some (by kernel_rfl))
 f337 := Tryz.func226.trans (congrArg some (by kernel_rfl))
 f338 := Tryz.func227.trans (congrArg some (by kernel_rfl))
 t0 := Tryz.underlying0
 a0 := Tryz.isAgg0
 z0 := Tryz.sizeOf0
 v0 := Tryz.zeroValue0
 t2 := Tryz.underlying2
 a2 := Tryz.isAgg2
 z2 := Tryz.sizeOf2
 v2 := Tryz.zeroValue2
 t3 := Tryz.underlying3
 a3 := Tryz.isAgg3
 z3 := Tryz.sizeOf3
 v3 := Tryz.zeroValue3
 t4 := Tryz.underlying4
 a4 := Tryz.isAgg4
 z4 := Tryz.sizeOf4
 v4 := Tryz.zeroValue4
 t5 := Tryz.underlying5
 a5 := Tryz.isAgg5
 z5 := Tryz.sizeOf5
 v5 := Tryz.zeroValue5
 t9 := Tryz.underlying9
 a9 := Tryz.isAgg9
 z9 := Tryz.sizeOf9
 v9 := Tryz.zeroValue9
 t20 := Tryz.underlying20
 a20 := Tryz.isAgg20
 z20 := Tryz.sizeOf20
 v20 := Tryz.zeroValue20
 t37 := Tryz.underlying32
 a37 := Tryz.isAgg32
 z37 := Tryz.sizeOf32
 v37 := Tryz.zeroValue32
 t46 := Tryz.underlying227
 a46 := Tryz.isAgg227
 z46 := Tryz.sizeOf227
 v46 := Tryz.zeroValue227
 t51 := Tryz.underlying267
 a51 := Tryz.isAgg267
 z51 := Tryz.sizeOf267
 v51 := Tryz.zeroValue267
 t53 := Tryz.underlying243
 a53 := Tryz.isAgg243
 z53 := Tryz.sizeOf243
 v53 := Tryz.zeroValue243
 t171 := Tryz.underlying242
 a171 := Tryz.isAgg242
 z171 := Tryz.sizeOf242
 v171 := Tryz.zeroValue242
 t173 := Tryz.underlying246
 a173 := Tryz.isAgg246
 z173 := Tryz.sizeOf246
 v173 := Tryz.zeroValue246
 t212 := Tryz.underlying266
 a212 := Tryz.isAgg266
 z212 := Tryz.sizeOf266
 v212 := Tryz.zeroValue266
 t213 := Tryz.underlying268
 a213 := Tryz.isAgg268
 z213 := Tryz.sizeOf268
 t232 := Tryz.underlying351
 a232 := Tryz.isAgg351
 z232 := Tryz.sizeOf351
 v232 := Tryz.zeroValue351
 t233 := Tryz.underlying352
 a233 := Tryz.isAgg352
 z233 := Tryz.sizeOf352
 v233 := Tryz.zeroValue352
 g17 := by kernel_rfl
 g18 := by kernel_rfl
 g19 := by kernel_rfl }
theorem ext166 : Builder.Extra Tryz.prog lays166_ren where
 sizeBuilder := by kernel_rfl
 liesBuilder := by kernel_rfl
 t5 := Tryz.underlying5
 a5 := Tryz.isAgg5
 z5 := Tryz.sizeOf5
 v5 := Tryz.zeroValue5
 infoByte := by kernel_rfl
 cellsByte := by kernel_rfl
 sizeByte := by kernel_rfl
 neB5 := by decide
theorem ext169 : Builder.Extra Tryz.prog lays169_ren where
 sizeBuilder := by kernel_rfl
 liesBuilder := by kernel_rfl
 t5 := Tryz.underlying5
 a5 := Tryz.isAgg5
 z5 := Tryz.sizeOf5
 v5 := Tryz.zeroValue5
 infoByte := by kernel_rfl
 cellsByte := by kernel_rfl
 sizeByte := by kernel_rfl
 neB5 := by decide
open Go Go.AL Go.Proofs Go.Sort Go.Shelf Go.RowKit
variable {E : Env}
def nameR (k : Nat) : List UInt8 := if k = 0 then [119, 119] else if k = 1 then [119, 114] else if k = 2 then [114, 119] else [63]
def bitR (i k : Nat) : List UInt8 := Lib.decDigits i ++ [32, 45] ++ nameR k ++ [45, 62, 32]
def bitsR : List (Nat × Nat) → List UInt8
 | [] => []
 | p :: l => bitR p.1 p.2 ++ bitsR l
theorem Mv (k : Nat) : (nameR k).length ≤ 2 := by unfold nameR; split <;> (try split) <;> (try split) <;> simp
theorem wrap100 : ∀ x < 100, IntKind.i64.wrap ((x : Nat) : Int) = (x : Nat) := by decide
theorem Hl {x : Nat} (h : x < 100) : (Lib.decDigits x).length ≤ 2 := by
 by_cases h1 : x < 10
 ·rw [Lib.decDigits_one h1]; simp
 ·rw [Lib.decDigits_two h1 h]; simp
theorem bitR_len {i : Nat} (h : i < 100) (k : Nat) : (bitR i k).length ≤ 9 := by
 have h1 := Hl h
 have h2 := Mv k
 simp only [bitR, lap, lcs, List.length_nil]
 omega
theorem Jg : ∀ (l : List (Nat × Nat)), (∀ p ∈ l, p.1 < 100) → (bitsR l).length ≤ 9 * l.length
 | [], _ => lr _
 | p :: l, h => by
  have h1 := bitR_len (h p (List.mem_cons_self ..)) p.2
  have h2 := Jg l fun q hq => h q (List.mem_cons_of_mem _ hq)
  simp only [bitsR, lap, lcs]
  omega
theorem Ij : ∀ (l m : List (Nat × Nat)), bitsR (l ++ m) = bitsR l ++ bitsR m
 | [], _ => rfl
 | p :: l, m => by rw [List.cons_append, bitsR, Ij l m, bitsR, List.append_assoc]
theorem Tw {l : List (Nat × Nat)} {k : Nat} {x y : Nat} (h : l[k]? = some (x, y)) : bitsR (l.take (k + 1)) = bitsR (l.take k) ++ bitR x y := by
 rw [tao, h, Ij]
 simp [bitsR]
theorem Nt {s nm : ByteArray} {x y : Nat} (hs : s = ⟨(Lib.decDigits x).toArray⟩) (hn : nm = ⟨(nameR y).toArray⟩) : Lib.strCells (s ++ ⟨#[32, 45]⟩ ++ nm ++ ⟨#[45, 62, 32]⟩) = Lib.byteCells (bitR x y) := by
 rw [Lib.strCells_eq, hs, hn]
 simp [bitR, ByteArray.data_append]
theorem Ii {W : World} {b i : Nat} {c : Array Value} {e : TypeId} {z : Nat × Nat} (h : W.heap[b]? = some (.cells c e z)) : W.cell? ⟨b, i, none⟩ = c[i]? := by
 simp [World.cell?, h]
theorem Nr (w : World) (o : Obj) : (w.alloc o).heap[w.heap.size]? = some o := by
 show (w.heap.push o)[w.heap.size]? = some o
 exact Array.getElem?_push_size ..
theorem Mb (W : World) (c c' : Array Value) (e e' : TypeId) : ((W.alloc (.cells c e)).alloc (.cells c' e')).heap[W.heap.size]? = some (.cells c e (0, 0)) :=
 (RowKit.Below.heap_alloc _ _ _ (by simp)).trans (Nr W _)
theorem G8 (W : World) (c c' : Array Value) (e e' : TypeId) : ((W.alloc (.cells c e)).alloc (.cells c' e')).heap[W.heap.size + 1]? = some (.cells c' e' (0, 0)) := by
 have h := Nr (W.alloc (.cells c e)) (.cells c' e')
 rwa [show (W.alloc (.cells c e)).heap.size = W.heap.size + 1 by simp] at h
theorem cText_w (ab ao bb bo : Nat) (ca cb : Nat) (l : List (Nat × Nat)) (W : World) (h0 : 0 < l.length) (hl : l.length < 2 ^ 20) (hi : ∀ p ∈ l, p.1 < 100) (hk : ∀ p ∈ l, p.2 < 256)
  (ha : ∀ i : Nat, ∀ p, l[i]? = some p → W.cell? ⟨ab, ao + i, none⟩ = some (.int .u16 (p.1 : Nat))) (hb : ∀ i : Nat, ∀ p, l[i]? = some p → W.cell? ⟨bb, bo + i, none⟩ = some (.int .u8 (p.2 : Nat))) (ha0 : ab < W.heap.size) (hb0 : bb < W.heap.size) :
  Calls Tryz.prog 21 #[.agg #[.slice (some ⟨ab, ao, none⟩) l.length ca, .slice (some ⟨bb, bo, none⟩) l.length cb]] W fun e w' => e = .returned (.string ⟨(bitsR l ++ Lib.decDigits ((l.head?.getD (0, 0)).1)).toArray⟩) ∧ RowKit.Below W.heap.size W w' := by
 go_enter Tryz.func21, Tryz.ntmps21
 go_wp2
 ·exfalso
  simp_all
 obtain ⟨W1, hW1⟩ : ∃ X, ((W.alloc (Obj.cells #[Value.slice (some ⟨ab, ao, none⟩) l.length ca, Value.slice (some ⟨bb, bo, none⟩) l.length cb] 34)).alloc (Obj.cells #[Value.string { data := #[119, 119] }, Value.string { data := #[119, 114] }, Value.string { data := #[114, 119] }] 118)) = X := ⟨_, rfl⟩
 rw [hW1]
 have hz : ((l.length : Int) == 0) = false := by simp; omega
 rw [hz]
 have hW0 : W1.heap.size = W.heap.size + 1 + 1 := by rw [← hW1]; simp
 have f := Lib.fresh_isBuilder 121 5 W1
 rw [hW0] at f
 have b0 : RowKit.Below W.heap.size W W1 := hW1 ▸ ((RowKit.Below.refl _ W).alloc (lr _) _).alloc (by simp) _
 have c0 : W1.cell? ⟨W.heap.size, 0, none⟩ = some (Value.slice (some ⟨ab, ao, none⟩) l.length ca) := by rw [← hW1, Ii (Mb ..)]; rfl
 have c1 : W1.cell? ⟨W.heap.size, 1, none⟩ = some (Value.slice (some ⟨bb, bo, none⟩) l.length cb) := by rw [← hW1, Ii (Mb ..)]; rfl
 have n0 : W1.cell? ⟨W.heap.size + 1, 0, none⟩ = some (Value.string ⟨#[119, 119]⟩) := by rw [← hW1, Ii (G8 ..)]; rfl
 have n1 : W1.cell? ⟨W.heap.size + 1, 1, none⟩ = some (Value.string ⟨#[119, 114]⟩) := by rw [← hW1, Ii (G8 ..)]; rfl
 have n2 : W1.cell? ⟨W.heap.size + 1, 2, none⟩ = some (Value.string ⟨#[114, 119]⟩) := by rw [← hW1, Ii (G8 ..)]; rfl
 go_loopw [25] (fun i wr => ∃ k : Nat, k ≤ l.length ∧ i = .int .i64 k ∧ Lib.IsBuilderF 121 5 (W.heap.size + 1 + 1) (W.heap.size + 1 + 1) (Lib.byteCells (bitsR (l.take k))) wr ∧ RowKit.Below (W.heap.size + 1 + 1) W1 wr) (fun i _ => l.length - (Proofs.intOf i).toNat)
 case atStart =>
  refine ⟨0, Nat.zero_le _, rfl, Lib.IsBuilderF.of f, ?_⟩
  exact (RowKit.Below.refl _ W1).alloc (by omega) _
 case round =>
  obtain ⟨k, hk1, rfl, hI, hbw⟩ := hrel
  have c0' := (hbw.cell (p := ⟨W.heap.size, 0, none⟩) (by simp; omega)).trans c0
  have c1' := (hbw.cell (p := ⟨W.heap.size, 1, none⟩) (by simp; omega)).trans c1
  have n0' := (hbw.cell (p := ⟨W.heap.size + 1, 0, none⟩) (by simp)).trans n0
  have n1' := (hbw.cell (p := ⟨W.heap.size + 1, 1, none⟩) (by simp)).trans n1
  have n2' := (hbw.cell (p := ⟨W.heap.size + 1, 2, none⟩) (by simp)).trans n2
  by_cases hp : k < l.length
  ·obtain ⟨⟨x, y⟩, hxy⟩ : ∃ p, l[k]? = some p := ⟨_, gEg hp⟩
   have ha' := ((hbw.cell (p := ⟨ab, ao + k, none⟩) (by simp only; omega)).trans (b0.cell (p := ⟨ab, ao + k, none⟩) (by simp only; omega))).trans (ha k _ hxy)
   have hb' := ((hbw.cell (p := ⟨bb, bo + k, none⟩) (by simp only; omega)).trans (b0.cell (p := ⟨bb, bo + k, none⟩) (by simp only; omega))).trans (hb k _ hxy)
   have hx := hi _ (List.mem_of_getElem? hxy)
   have hy := hk _ (List.mem_of_getElem? hxy)
   have hsz : W.heap.size + 1 + 1 ≤ wr.heap.size := by have := hbw.size; omega
   have hd2 := Hl hx
   obtain ⟨s, hs1, hs2⟩ : ∃ s : ByteArray, s = ⟨(Lib.decDigits x).toArray⟩ ∧ s.size ≤ 2 := ⟨_, rfl, by simpa [ByteArray.size] using hd2⟩
   have hcI := fun w => (Any.strconv_Itoa_small U9 x hx w)
   rw [← hs1] at hcI
   obtain ⟨nm, hnm, hnm2⟩ : ∃ nm : ByteArray, nm = ⟨(nameR y).toArray⟩ ∧ nm.size ≤ 2 := ⟨_, rfl, by simpa [ByteArray.size] using Mv y⟩
   have HL := Lib.hid (Nt hs1 hnm)
   have hBl : (Lib.byteCells (bitsR (List.take k l))).length + (s ++ ⟨#[32, 45]⟩ ++ nm ++ ⟨#[45, 62, 32]⟩).size ≤ 140737488355328 := by
    have := Jg (l.take k) fun p hp => hi p (List.mem_of_mem_take hp)
    rw [ltk] at this
    rw [Lib.byteCells_length]
    have e1 : (⟨#[32, 45]⟩ : ByteArray).size = 2 := rfl
    have e2 : (⟨#[45, 62, 32]⟩ : ByteArray).size = 3 := rfl
    rw [ByteArray.size_append, ByteArray.size_append, ByteArray.size_append, e1, e2]
    omega
   have HBL := Lib.hid hBl
   clear hs1 hBl
   have fin : ∀ w2, Lib.BuilderAtF 121 5 (W.heap.size + 1 + 1) (W.heap.size + 1 + 1) (.pointer (some ⟨W.heap.size + 1 + 1, 0, none⟩)) (Lib.byteCells (bitsR (List.take k l)) ++ Lib.strCells (s ++ ⟨#[32, 45]⟩ ++ nm ++ ⟨#[45, 62, 32]⟩)) w2 → RowKit.Below (W.heap.size + 1 + 1) wr w2 → Lib.IsBuilderF 121 5 (W.heap.size + 1 + 1) (W.heap.size + 1 + 1) (Lib.byteCells (bitsR (l.take (k + 1)))) w2 ∧ RowKit.Below (W.heap.size + 1 + 1) W1 w2 := fun w2 h1 b1 => by
    rw [HL.out, ← Lib.byteCells_append, ← Tw hxy] at h1
    exact ⟨Or.inr h1, hbw.trans b1⟩
   have FIN := Lib.hid fin
   clear fin
   by_cases h3 : y < 3
   ·have hn' : wr.cell? ⟨W.heap.size + 1, y, none⟩ = some (Value.string nm) := by
     obtain rfl | rfl | rfl : y = 0 ∨ y = 1 ∨ y = 2 := by omega
     ·rw [n0', hnm]; rfl
     ·rw [n1', hnm]; rfl
     ·rw [n2', hnm]; rfl
    clear hnm
    go_wp2_with (go_at_call 54; refine (hcI _).mono ?_; rintro e w1 ⟨rfl, rfl⟩)
    refine (Any.Builder_WriteString_k Va ext166 (W.heap.size + 1 + 1) (W.heap.size + 1 + 1) _ _ _ hI HBL.out hsz).mono ?_
    rintro e w2 ⟨rfl, h1, b1, _⟩
    go_wp2
    go_roundw
    case rel =>
     exact ⟨k + 1, by omega, by simp, FIN.out _ h1 b1⟩
    case measure =>
     show l.length - ((k : Int) + 1).toNat < l.length - (k : Int).toNat
     omega
   ·have hn4 : nm = ⟨#[63]⟩ := by rw [hnm]; unfold nameR; rw [if_neg (by omega), if_neg (by omega), if_neg (by omega)]
    rw [hn4] at HBL FIN HL
    clear hnm
    go_wp2_with (go_at_call 54; refine (hcI _).mono ?_; rintro e w1 ⟨rfl, rfl⟩)
    refine (Any.Builder_WriteString_k Va ext166 (W.heap.size + 1 + 1) (W.heap.size + 1 + 1) _ _ _ hI HBL.out hsz).mono ?_
    rintro e w2 ⟨rfl, h1, b1, _⟩
    go_wp2
    go_roundw
    case rel =>
     exact ⟨k + 1, by omega, by simp, FIN.out _ h1 b1⟩
    case measure =>
     show l.length - ((k : Int) + 1).toNat < l.length - (k : Int).toNat
     omega
  ·obtain rfl : k = l.length := by omega
   rw [tkl] at hI
   obtain ⟨⟨x, y⟩, hxy⟩ : ∃ p, l[0]? = some p := ⟨_, gEg h0⟩
   have ha' : wr.cell? ⟨ab, ao, none⟩ = some (.int .u16 (x : Nat)) := ((hbw.cell (p := ⟨ab, ao + 0, none⟩) (by simp only; omega)).trans (b0.cell (p := ⟨ab, ao + 0, none⟩) (by simp only; omega))).trans (ha 0 _ hxy)
   have hx := hi _ (List.mem_of_getElem? hxy)
   have hsz : W.heap.size + 1 + 1 ≤ wr.heap.size := by have := hbw.size; omega
   have hd2 := Hl hx
   obtain ⟨s, hs1, hs2⟩ : ∃ s : ByteArray, s = ⟨(Lib.decDigits x).toArray⟩ ∧ s.size ≤ 2 := ⟨_, rfl, by simpa [ByteArray.size] using hd2⟩
   have hcI := fun w => (Any.strconv_Itoa_small U9 x hx w)
   rw [← hs1] at hcI
   obtain ⟨tt, htt, hts⟩ : ∃ tt : ByteArray, tt = ⟨(bitsR l).toArray⟩ ∧ tt.size ≤ 9437184 := ⟨_, rfl, by
    have := Jg l fun p hp => hi p hp
    simp only [ByteArray.size, List.size_toArray]; omega⟩
   have HT : RowKit.Hid (tt ++ s = ⟨(bitsR l ++ Lib.decDigits ((l.head?.getD (0, 0)).1)).toArray⟩) := Lib.hid (by
    rw [hs1, htt]
    have : l.head? = some (x, y) := by rw [List.head?_eq_getElem?]; exact hxy
    rw [this]
    apply ByteArray.ext
    simp [ByteArray.data_append])
   have hcS := fun w h1 h2 => (Any.Builder_String_any_k lays169 ext169 (W.heap.size + 1 + 1) (W.heap.size + 1 + 1) (bitsR l) w h1 h2)
   rw [← htt] at hcS
   clear hs1 htt
   have hwx := wrap100 x hx
   go_wp2
   go_region_with (first | (go_at_call 55; refine (hcS _ (show Lib.IsBuilderF 121 5 (W.heap.size + 1 + 1) (W.heap.size + 1 + 1) (Lib.byteCells (bitsR l)) wr.drew from hI) hsz).mono ?_; rintro e w1 ⟨rfl, _, b1, _⟩; have c9 := (b1.cell (p := ⟨W.heap.size, 0, none⟩) (by simp only; omega)).trans c0'; have a9 := (b1.cell (p := ⟨ab, ao, none⟩) (by simp only; omega)).trans ha') | (go_at_call 54; refine (hcI _).mono ?_; rintro e w1 ⟨rfl, rfl⟩))
   all_goals go_wp2
   all_goals go_ret
   all_goals exact ⟨congrArg _ (congrArg _ HT.out), (b0.trans (hbw.mono (by omega)).drew).trans (b1.mono (by omega))⟩
theorem Mo {γ : G} {κ : IntKind} : ∀ {l : List Int} {c : List Value}, RelE γ 1 (l.map (V.int κ)) c → c = l.map (Value.int κ)
 | [], _, h => h
 | i :: l, _, ⟨v, l', rfl, _, h1, h2⟩ => by
  obtain rfl := h1
  rw [Mo (l := l) h2]
  rfl
theorem Gs {γ : G} {w : World} {W : AW} {κ : IntKind} {v : V} {l : List Int} {u : Value} (hW : RelW E γ w W) (h : isS 1 v (l.map (V.int κ))) (h0 : 0 < l.length) (hu : RelV γ v u) :
  ∃ b o c, u = .slice (some ⟨b, o, none⟩) l.length c ∧ b < w.heap.size ∧ ∀ i x, l[i]? = some x → w.cell? ⟨b, o + i, none⟩ = some (.int κ x) := by
 obtain ⟨_, h⟩ | ⟨_, h⟩ | ⟨f, rfl⟩ := h
 ·exact absurd h0 (by rw [List.map_eq_nil_iff.1 h]; simp)
 ·exact absurd h0 (by rw [List.map_eq_nil_iff.1 h]; simp)
 obtain ⟨b, pre, c, post, sz, cap, hc, hl, rfl, _⟩ := hu
 obtain ⟨t, e, fz, hh, _⟩ := hW.con _ _ _ hc
 obtain rfl := Mo hl
 refine ⟨b, pre.length, cap, by rw [lmp], (Array.getElem?_eq_some_iff.1 hh).1, fun i x hx => ?_⟩
 have hb : i < l.length := (List.getElem?_eq_some_iff.1 hx).1
 simp only [World.cell?, hh, Option.isSome_none, Bool.false_eq_true, if_false, List.getElem?_toArray, List.append_assoc]
 rw [List.getElem?_append_right (by omega), Nat.add_sub_cancel_left, List.getElem?_append_left (by simpa using hb), List.getElem?_map, hx]
 rfl
theorem RelW.undrawn {γ : G} {w : World} {W : AW} {n : Nat} (hd : E.w0.drawn = 0) (h : RelW E γ { w with drawn := n } W) : RelW E γ w W where
 below := ⟨⟨h.below.row.os, h.below.row.tape, h.below.row.output, h.below.row.size, h.below.row.block⟩, by rw [hd]; exact Nat.zero_le _⟩
 base := h.base
 con := h.con
 own := h.own
 obj := h.obj
 bd := h.bd
 lt := h.lt
 inj := h.inj
 apart := h.apart
 glob := h.glob
 dfr := h.dfr
 dfrB := h.dfrB
 ext := h.ext
 n0 := h.n0
theorem cText_c (hP : PE E) (hd : E.w0.drawn = 0) (W : AW) {v1 v2 : V} {l : List (Nat × Nat)} (h1 : isS 1 v1 (intsV (l.map fun p => (p.1 : Int)))) (h2 : isS 1 v2 (u8s (l.map fun p => (p.2 : Int)))) (h0 : 0 < l.length) (hl : l.length < 2 ^ 20) (hi : ∀ p ∈ l, p.1 < 100) (hk : ∀ p ∈ l, p.2 < 256) :
  ACalls E 21 [.agg [v1, v2]] W fun Y W' => Y = .str ⟨(bitsR l ++ Lib.decDigits ((l.head?.getD (0, 0)).1)).toArray⟩ ∧ W' = W := by
 refine ⟨⟨_, _, by rw [hP]; exact Tryz.func21, rfl, by decide⟩, fun _ γ w ws hW hr => ?_⟩
 obtain ⟨_, _, rfl, ⟨vs, rfl, u1, _, rfl, r1, u2, _, rfl, r2, rfl⟩, rfl⟩ := hr
 obtain ⟨b1, o1, c1, rfl, hb1, k1⟩ := Gs hW h1 (by simpa using h0) r1
 obtain ⟨b2, o2, c2, rfl, hb2, k2⟩ := Gs hW h2 (by simpa using h0) r2
 rw [lmp, lmp]
 rw [hP]
 refine Calls.mono (cText_w b1 o1 b2 o2 c1 c2 l w h0 hl hi hk (fun i p hp => k1 i _ (by rw [List.getElem?_map, hp]; rfl)) (fun i p hp => k2 i _ (by rw [List.getElem?_map, hp]; rfl)) hb1 hb2) ?_
 rintro en w' ⟨rfl, bw⟩
 refine ⟨_, γ, .str _, W, rfl, G.le.refl _ _, lr _, RelW.undrawn (n := max w.drawn w'.drawn) hd ?_, rfl, rfl, rfl⟩
 exact hW.grow ⟨⟨bw.os, bw.tape, bw.output, bw.size, fun k hk => bw.block k (by have := hW.base; omega)⟩, Nat.le_max_left _ _⟩ (fun k hk => bw.block k hk) bw.size
end Go.AL.S
namespace Go.AL.S
open Go Go.AL Go.AL.SE Go.Proofs
def c_text30 : AC := (.r [.v 4 (.str ⟨#[]⟩)] (.r [.m 8 0,.u 9 (.call 10) 8,.m 10 1,.b 11 (.call 12) 9 10,.m 7 11,.u 12 (.ext 0) 7,.u 13 (.ext 1) 7,.p 5 (.alloc [.nilsl,.nilsl]) [],⟨none,.store 2, [.t 5,.t 12], none⟩,.m 6 13] (.seq (.r [.m 14 6,.u 15 (.un .not) 14] (.cond (.t 15) (.r [.v 4 (.str ⟨#[110, 111, 110, 101]⟩)] .ret) .skip)) (.r [.u 16 (.load true 2) 5,.u 17 (.call 21) 16,.m 4 17] .ret))))
theorem Sd : compF Tryz.prog Tryz.f18 ⟨false, false, []⟩ = some (c_text30, [.tmp 4], 18) := by kernel_rfl
variable {E : Env}
def zipN (ids ks : List Int) : List (Nat × Nat) := (ids.map Int.toNat).zip (ks.map Int.toNat)
def lineR (p : List Int × List Int) : List UInt8 := bitsR (zipN p.1 p.2) ++ Lib.decDigits (((zipN p.1 p.2).head?.getD (0, 0)).1)
def textR (r : Option (List Int × List Int)) : V := .str ⟨(match r with | none => [110, 111, 110, 101] | some p => lineR p).toArray⟩
structure Cy (p : List Int × List Int) : Prop where
 eq : p.1.length = p.2.length
 pos : 0 < p.1.length
 lt : p.1.length < 2 ^ 20
 ids : ∀ x ∈ p.1, 0 ≤ x ∧ x < 100
 ks : ∀ x ∈ p.2, 0 ≤ x ∧ x < 256
theorem Cy.one {p : List Int × List Int} (h : Cy p) : (zipN p.1 p.2).map (fun q => (q.1 : Int)) = p.1 := by
 have : (zipN p.1 p.2).map (fun q => (q.1 : Int)) = ((zipN p.1 p.2).map Prod.fst).map fun (n : Nat) => (n : Int) := by simp
 rw [this, zipN, List.map_fst_zip (by simp [h.eq]), List.map_map]
 exact (List.map_congr_left fun x hx => by have := h.ids x hx; simp; omega).trans (List.map_id _)
theorem Cy.two {p : List Int × List Int} (h : Cy p) : (zipN p.1 p.2).map (fun q => (q.2 : Int)) = p.2 := by
 have : (zipN p.1 p.2).map (fun q => (q.2 : Int)) = ((zipN p.1 p.2).map Prod.snd).map fun (n : Nat) => (n : Int) := by simp
 rw [this, zipN, List.map_snd_zip (by simp [h.eq]), List.map_map]
 exact (List.map_congr_left fun x hx => by have := h.ks x hx; simp; omega).trans (List.map_id _)
theorem Cy.len {p : List Int × List Int} (h : Cy p) : (zipN p.1 p.2).length = p.1.length := by simp [zipN, h.eq]
theorem Cy.text (hP : PE E) (hd : E.w0.drawn = 0) (W : AW) {v1 v2 : V} {p : List Int × List Int} (h : Cy p) (h1 : isS 1 v1 (intsV p.1)) (h2 : isS 1 v2 (u8s p.2)) :
  ACalls E 21 [.agg [v1, v2]] W fun Y W' => Y = textR (some p) ∧ W' = W := by
 refine cText_c hP hd W (by rw [h.one]; exact h1) (by rw [h.two]; exact h2) (by rw [h.len]; exact h.pos) (by rw [h.len]; exact h.lt) ?_ ?_
 ·intro q hq
  have : (q.1 : Int) ∈ (zipN p.1 p.2).map (fun q => (q.1 : Int)) := List.mem_map.2 ⟨q, hq, rfl⟩
  rw [h.one] at this
  have := h.ids _ this
  omega
 ·intro q hq
  have : (q.2 : Int) ∈ (zipN p.1 p.2).map (fun q => (q.2 : Int)) := List.mem_map.2 ⟨q, hq, rfl⟩
  rw [h.two] at this
  have := h.ks _ this
  omega
theorem Zg (hP : PE E) (hd0 : E.w0.drawn = 0) (W : AW) {v : V} {l : List De} (hv : isS 3 v (l.map De.V)) (hd : ∀ d ∈ l, d.ok ∧ d.small) (hl : l.length < 60000) (k : Int) {r : Option (List Int × List Int)}
  (hr : shortR (edL (buildP (toldR l).1 (toldR l).2)) (nodesR (toldR l).1) k = r) (he : (edL (buildP (toldR l).1 (toldR l).2)).length < 2 ^ 30) (hN : ∀ x ∈ nodesR (toldR l).1, 0 ≤ x ∧ x < 65536) (hc : ∀ p, r = some p → Cy p) :
  ACalls E 18 [v, .int .u8 k] W fun Y W' => Y = textR r ∧ W' = W := by
 refine ACalls.of hP Tryz.func18 Sd (by simp) fun _ hok => ?_
 refine Ae hok ?_
 simp only [BZ, ↓reduceIte, reduceCtorEq, c_text30, hv.frz]
 refine (Ze hP _ hv hd hl).mono ?_
 rintro _ W1 ⟨g, m, h, rfl, hG, _, hE⟩
 rw [← G0 hok] at hE
 simp only [BS, BC, ↓reduceIte, nE, ]
 refine (Rb hP _ hG hN he k).mono ?_
 rintro _ W2 ⟨v1, v2, rfl, i1, i2, rfl⟩
 rw [hr] at i1 i2 ⊢
 rw [hE.cl.start]
 have n1 := hE.nx
 cases r with
 | none =>
  simp only [BX, ↓reduceIte, nE, BM, BD, nA, nL, nT, Option.isSome_none, i1.one, i2.one, V.cells]
  exact ⟨_, rfl, _, W, .weak (Aj hok rfl hE.X.get), lr _, rfl, rfl⟩
 | some p =>
  simp only [BX, ↓reduceIte, nE, BM, BD, nA, nL, nT, Option.isSome_some, i1.one, i2.one, V.cells]
  refine (Cy.text hP hd0 _ (hc p rfl) i1 i2).mono ?_
  rintro _ W3 ⟨rfl, rfl⟩
  simp only [BS, BC, ↓reduceIte, textR]
  exact ⟨_, rfl, _, W, .weak (Aj hok rfl hE.X.get), lr _, rfl, rfl⟩
def c_twoWW : AC := (.r [.v 0 (.nilsl)] (.r [.p 1 (.call 17) [.c (.int .u8 0),.c (.int .u16 1)],.p 2 (.call 17) [.c (.int .u8 1),.c (.int .u16 2)],.b 3 (.bslice 3 2 (.agg [.bool false,.int .u8 0,.int .u16 0]) [0, 1]) 1 2,.u 4 (.build [.nilsl,.nilsl,.int .u8 0] [(0, 1)]) 3,.p 5 (.call 17) [.c (.int .u8 0),.c (.int .u16 3)],.p 6 (.call 17) [.c (.int .u8 1),.c (.int .u16 4)],.b 7 (.bslice 3 2 (.agg [.bool false,.int .u8 0,.int .u16 0]) [0, 1]) 5 6,.u 8 (.build [.nilsl,.nilsl,.int .u8 0] [(0, 1)]) 7,.p 9 (.call 16) [.c (.int .u8 0)],.p 10 (.call 16) [.c (.int .u8 1)],.b 11 (.bslice 3 2 (.agg [.bool false,.int .u8 0,.int .u16 0]) [0, 1]) 9 10,.p 12 (.bslice 1 2 (.int .u16 0) [0, 1]) [.c (.int .u16 1),.c (.int .u16 3)],.p 13 (.bslice 1 2 (.int .u16 0) [0, 1]) [.c (.int .u16 4),.c (.int .u16 2)],.b 14 (.bslice 1 2 (.nilsl) [0, 1]) 12 13,.b 15 (.build [.nilsl,.nilsl,.int .u8 0] [(0, 1), (1, 1)]) 11 14,.p 16 (.bslice 3 3 (.agg [.nilsl,.nilsl,.int .u8 0]) [0, 1, 2]) [.t 4,.t 8,.t 15],.m 0 16] .ret))
theorem Xl : compF Tryz.prog Tryz.f19 ⟨false, false, []⟩ = some (c_twoWW, [.tmp 0], 17) := by kernel_rfl
def c_put30 : AC := (.r [.p 4 (.alloc [.bool false,.int .u8 0,.int .u16 0]) []] (.r [.m 5 0,.m 6 1,.b 7 (.build [.bool false,.int .u8 0,.int .u16 0] [(1, 1), (2, 1)]) 5 6,⟨none,.store 3, [.t 4,.t 7], none⟩] .ret))
theorem Xo : compF Tryz.prog Tryz.f17 ⟨false, false, []⟩ = some (c_put30, [.cell 4 true 3], 8) := by kernel_rfl
def c_get30 : AC := (.r [.p 2 (.alloc [.bool false,.int .u8 0,.int .u16 0]) []] (.r [.m 3 0,.p 4 (.build [.bool false,.int .u8 0,.int .u16 0] [(0, 1), (1, 1)]) [.T,.t 3],⟨none,.store 3, [.t 2,.t 4], none⟩] .ret))
theorem Xx : compF Tryz.prog Tryz.f16 ⟨false, false, []⟩ = some (c_get30, [.cell 2 true 3], 5) := by kernel_rfl
theorem J5 (hP : PE E) (W : AW) (k n : Int) : ACalls E 17 [.int .u8 k, .int .u16 n] W fun Y W' => Y = .agg [.bool false, .int .u8 k, .int .u16 n] ∧ W' = W := by
 refine ACalls.of hP Tryz.func17 Xo (by simp) fun _ hok => ?_
 refine Ae hok ?_
 simp only [BZ, ↓reduceIte, nE, reduceCtorEq, BM, BD, nA, nL, nT, c_put30]
 exact ⟨_, rfl, _, W, .weak (Aj hok rfl fun y hy => by rw [Ag (by omega)]), lr _, rfl, rfl⟩
theorem Vn (hP : PE E) (W : AW) (k : Int) : ACalls E 16 [.int .u8 k] W fun Y W' => Y = .agg [.bool true, .int .u8 k, .int .u16 0] ∧ W' = W := by
 refine ACalls.of hP Tryz.func16 Xx (by simp) fun _ hok => ?_
 refine Ae hok ?_
 simp only [BZ, ↓reduceIte, nE, reduceCtorEq, BM, BD, nA, nL, nT, c_get30]
 exact ⟨_, rfl, _, W, .weak (Aj hok rfl fun y hy => by rw [Ag (by omega)]), lr _, rfl, rfl⟩
def mi (r : Bool) (k n : Int) : V := .agg [.bool r, .int .u8 k, .int .u16 n]
theorem bMi {W : AW} {K : V → AW → Prop} {r r' : Bool} {k n k' n' : Int} : sem E (.bslice 3 2 (.agg [.bool false, .int .u8 0, .int .u16 0]) [0, 1]) [.agg [.bool r, .int .u8 k, .int .u16 n], .agg [.bool r', .int .u8 k', .int .u16 n']] W K = K (.sl 3 true [mi r k n, mi r' k' n']) W := id rfl
theorem bU2 {W : AW} {K : V → AW → Prop} {a b : Int} : sem E (.bslice 1 2 (.int .u16 0) [0, 1]) [.int .u16 a, .int .u16 b] W K = K (.sl 1 true [.int .u16 a, .int .u16 b]) W := id rfl
theorem bL2 {W : AW} {K : V → AW → Prop} {a b : List V} : sem E (.bslice 1 2 .nilsl [0, 1]) [.sl 1 true a, .sl 1 true b] W K = K (.sl 1 true [.sl 1 true a, .sl 1 true b]) W := id rfl
def elT (l : List Int) : V := .sl 1 true (intsV l)
def twoD : List De := [⟨.sl 3 true [mi false 0 1, mi false 1 2], [⟨false, 0, 1⟩, ⟨false, 1, 2⟩], .nilsl, [], 0⟩, ⟨.sl 3 true [mi false 0 3, mi false 1 4], [⟨false, 0, 3⟩, ⟨false, 1, 4⟩], .nilsl, [], 0⟩,
 ⟨.sl 3 true [mi true 0 0, mi true 1 0], [⟨true, 0, 0⟩, ⟨true, 1, 0⟩], .sl 1 true [elT [1, 3], elT [4, 2]], [some [1, 3], some [4, 2]], 0⟩]
theorem T8 (hP : PE E) (W : AW) : ACalls E 19 [] W fun Y W' => Y = .sl 3 true (twoD.map De.V) ∧ W' = W := by
 refine ACalls.of hP Tryz.func19 Xl (by simp) fun _ hok => ?_
 refine Ae hok ?_
 simp only [BZ, c_twoWW]
 refine pc (J5 hP _ 0 1) ?_
 simp only [BS, BC, ]
 refine pc (J5 hP _ 1 2) ?_
 simp only [BS, BC, ↓reduceIte, nE, BM, BD, nA, nL, bMi]
 refine pc (J5 hP _ 0 3) ?_
 simp only [BS, BC, ]
 refine pc (J5 hP _ 1 4) ?_
 simp only [BS, BC, ↓reduceIte, nE, BM, BD, nA, nL, bMi]
 refine pc (Vn hP _ 0) ?_
 simp only [BS, BC, ]
 refine pc (Vn hP _ 1) ?_
 simp only [BS, ↓reduceIte, nE, BM, BD, nA, nL, bMi, bU2, bL2]
 exact ⟨_, rfl, _, W, .weak (Aj hok rfl fun y hy => by rw [Ag (by omega)]), lr _, rfl, rfl⟩
def c_works : AC := (.r [.v 0 (.bool false)] (.r [.p 1 (.call 19) [],.p 2 (.call 18) [.t 1,.c (.int .u8 1)],.p 3 (.bin .eql) [.t 2,.c (.str ⟨#[49, 32, 45, 119, 119, 45, 62, 32, 50, 32, 45, 119, 119, 45, 62, 32, 49]⟩)],.m 4 3,.P 5 (.call 19) [] 4 true,.P 6 (.call 18) [.t 5,.c (.int .u8 16)] 4 true,.P 7 (.bin .eql) [.t 6,.c (.str ⟨#[110, 111, 110, 101]⟩)] 4 true,.p 8 .pick [.t 4,.t 7,.F],.m 9 8,.P 10 (.bslice 1 2 (.int .u16 0) [0, 1]) [.c (.int .u16 3),.c (.int .u16 5)] 9 true,.P 11 (.bslice 1 2 (.int .u8 0) [0, 1]) [.c (.int .u8 0),.c (.int .u8 2)] 9 true,.B 12 (.build [.nilsl,.nilsl] [(0, 1), (1, 1)]) 10 11 9 true,.U 13 (.call 21) 12 9 true,.P 14 (.bin .eql) [.t 13,.c (.str ⟨#[51, 32, 45, 119, 119, 45, 62, 32, 53, 32, 45, 114, 119, 45, 62, 32, 51]⟩)] 9 true,.p 15 .pick [.t 9,.t 14,.F],.m 0 15] .ret))
theorem Xk : compF Tryz.prog Tryz.f9 ⟨false, false, []⟩ = some (c_works, [.tmp 0], 16) := by kernel_rfl
def shortD (l : List De) (k : Int) : Option (List Int × List Int) := shortR (edL (buildP (toldR l).1 (toldR l).2)) (nodesR (toldR l).1) k
def elO : Option (List Int) → V
 | none => .nilsl
 | some l => elT l
def deP (ms : List Mi) : De := ⟨.sl 3 true (ms.map Mi.V), ms, .nilsl, [], 0⟩
def deR (ms : List Mi) (rs : List (Option (List Int))) : De := ⟨.sl 3 true (ms.map Mi.V), ms, .sl 1 true (rs.map elO), rs, 0⟩
theorem elO_isEl (o : Option (List Int)) : isEl (elO o) o := by
 cases o with
 | none => exact .inl ⟨rfl, rfl⟩
 | some l => exact .inr (.inr ⟨_, l, rfl, rfl⟩)
theorem belO (rs : List (Option (List Int))) (n : Nat) : V.belL n (rs.map elO) = true := by
 induction rs with
 | nil => rfl
 | cons x l ih =>
  simp only [mcs, V.belL, Bool.and_eq_true]
  refine ⟨?_, ih⟩
  cases x with
  | none => rfl
  | some l => exact Df l n
theorem deP_ok {ms : List Mi} (h : ∀ m ∈ ms, m.ok) (hl : ms.length < 2 ^ 30) : (deP ms).ok ∧ (deP ms).small :=
 ⟨⟨.mk, h, ⟨[], .inl ⟨rfl, rfl⟩, rfl, fun k h => absurd h (by simp)⟩, (fun o ho => absurd ho (by simp [deP])), rfl, ⟨by simp [deP], by simp [deP]⟩⟩, hl, by simp [deP], fun o ho => absurd ho (by simp [deP])⟩
theorem deR_ok {ms : List Mi} {rs : List (Option (List Int))} (h : ∀ m ∈ ms, m.ok) (hl : ms.length < 2 ^ 30) (hr : ∀ o ∈ rs, (nums o).length < 2 ^ 30 ∧ ∀ n ∈ nums o, 0 ≤ n ∧ n < 65536) (hq : rs.length < 2 ^ 30) : (deR ms rs).ok ∧ (deR ms rs).small :=
 ⟨⟨.mk, h, ⟨_, .mk, by simp [deR], fun k h h' => by rw [List.getElem_map]; exact elO_isEl _⟩, fun o ho => (hr o ho).2, belO rs 0, ⟨by simp [deR], by simp [deR]⟩⟩, hl, hq, fun o ho => (hr o ho).1⟩
theorem twoD_eq : twoD = [deP [⟨false, 0, 1⟩, ⟨false, 1, 2⟩], deP [⟨false, 0, 3⟩, ⟨false, 1, 4⟩], deR [⟨true, 0, 0⟩, ⟨true, 1, 0⟩] [some [1, 3], some [4, 2]]] := rfl
theorem T9 : ∀ d ∈ twoD, d.ok ∧ d.small := by
 rw [twoD_eq]
 simp only [List.forall_mem_cons, List.not_mem_nil, false_implies, implies_true, and_true]
 refine ⟨deP_ok (by simp [Mi.ok]) (by decide), deP_ok (by simp [Mi.ok]) (by decide), deR_ok (by simp [Mi.ok]) (by decide) (by simp [nums]) (by decide)⟩
structure Cl5 (l : List De) (k : Int) (r : Option (List Int × List Int)) : Prop where
 r : shortD l k = r
 e : (edL (buildP (toldR l).1 (toldR l).2)).length < 2 ^ 30
 n : ∀ x ∈ nodesR (toldR l).1, 0 ≤ x ∧ x < 65536
theorem Zf (hP : PE E) (hd0 : E.w0.drawn = 0) (W : AW) {v : V} {l : List De} (hv : isS 3 v (l.map De.V)) (hd : ∀ d ∈ l, d.ok ∧ d.small) (hl : l.length < 60000) {k : Int} {r : Option (List Int × List Int)} {s : ByteArray} (h : Cl5 l k r) (hc : ∀ p, r = some p → Cy p) (hs : textR r = .str s) :
  ACalls E 18 [v, .int .u8 k] W fun Y W' => Y = .str s ∧ W' = W := by
 rw [← hs]
 exact Zg hP hd0 W hv hd hl k h.r h.e h.n hc
theorem cl5_of {l : List De} {k : Int} {r : Option (List Int × List Int)} {e : Nat} {n : List Int} (h : (shortD l k, (edL (buildP (toldR l).1 (toldR l).2)).length, nodesR (toldR l).1) = (r, e, n)) (he : e < 2 ^ 30) (hn : ∀ x ∈ n, 0 ≤ x ∧ x < 65536) : Cl5 l k r := by
 injection h with h1 h
 injection h with h2 h3
 exact ⟨h1, by rw [h2]; exact he, by rw [h3]; exact hn⟩
theorem cy2 {a b c d : Int} (ha : 0 ≤ a ∧ a < 100) (hb : 0 ≤ b ∧ b < 100) (hc : 0 ≤ c ∧ c < 256) (hd : 0 ≤ d ∧ d < 256) : ∀ p, some ([a, b], [c, d]) = some p → Cy p := by
 rintro _ ⟨⟩
 exact ⟨rfl, by simp, by simp, by simp [ha, hb], by simp [hc, hd]⟩
theorem two1 : Cl5 twoD 1 (some ([1, 2], [0, 0])) := cl5_of (e := 4) (n := [1, 2, 3]) (by kernel_rfl) (by decide) (by simp)
theorem two16 : Cl5 twoD 16 none := cl5_of (e := 4) (n := [1, 2, 3]) (by kernel_rfl) (by decide) (by simp)
def tWW : ByteArray := ⟨#[49, 32, 45, 119, 119, 45, 62, 32, 50, 32, 45, 119, 119, 45, 62, 32, 49]⟩
def tNo : ByteArray := ⟨#[110, 111, 110, 101]⟩
theorem tWW_eq : textR (some ([1, 2], [0, 0])) = .str tWW := by kernel_rfl
theorem tNo_eq : textR none = .str tNo := rfl
theorem eqSS {W : AW} {K : V → AW → Prop} {a b : ByteArray} (h : a = b) : sem E (.bin .eql) [.str a, .str b] W K = K (.bool true) W := by
 subst h
 simp [sem, rsem, tsem, binS]
def tPl : ByteArray := ⟨#[51, 32, 45, 119, 119, 45, 62, 32, 53, 32, 45, 114, 119, 45, 62, 32, 51]⟩
theorem tPl_eq : textR (some ([3, 5], [0, 2])) = .str tPl := by kernel_rfl
theorem cText2 (hP : PE E) (hd0 : E.w0.drawn = 0) (W : AW) {a b c d : Int} (ha : 0 ≤ a ∧ a < 100) (hb : 0 ≤ b ∧ b < 100) (hc : 0 ≤ c ∧ c < 256) (hd : 0 ≤ d ∧ d < 256) {s : ByteArray} (hs : textR (some ([a, b], [c, d])) = .str s) :
  ACalls E 21 [.agg [.sl 1 true [.int .u16 a, .int .u16 b], .sl 1 true [.int .u8 c, .int .u8 d]]] W fun Y W' => Y = .str s ∧ W' = W := by
 rw [← hs]
 exact Cy.text hP hd0 W (cy2 ha hb hc hd _ rfl) .mk .mk
theorem bK2 {W : AW} {K : V → AW → Prop} {a b : Int} : sem E (.bslice 1 2 (.int .u8 0) [0, 1]) [.int .u8 a, .int .u8 b] W K = K (.sl 1 true [.int .u8 a, .int .u8 b]) W := id rfl
theorem eqWW {W : AW} {K : V → AW → Prop} : sem E (.bin .eql) [.str tWW, .str ⟨#[49, 32, 45, 119, 119, 45, 62, 32, 50, 32, 45, 119, 119, 45, 62, 32, 49]⟩] W K = K (.bool true) W := eqSS rfl
theorem eqNo {W : AW} {K : V → AW → Prop} : sem E (.bin .eql) [.str tNo, .str ⟨#[110, 111, 110, 101]⟩] W K = K (.bool true) W := eqSS rfl
theorem eqPl {W : AW} {K : V → AW → Prop} : sem E (.bin .eql) [.str tPl, .str ⟨#[51, 32, 45, 119, 119, 45, 62, 32, 53, 32, 45, 114, 119, 45, 62, 32, 51]⟩] W K = K (.bool true) W := eqSS rfl
theorem T3 (hP : PE E) (hd0 : E.w0.drawn = 0) (W : AW) : ACalls E 9 [] W fun Y W' => Y = .bool true ∧ W' = W := by
 refine ACalls.of hP Tryz.func9 Xk (by simp) fun _ hok => ?_
 refine Ae hok ?_
 simp only [BZ, c_works]
 refine pc (T8 hP _) ?_
 simp only [BS, BC, ↓reduceIte, ]
 refine pc (Zf hP hd0 _ .mk T9 (by decide) two1 (cy2 (by decide) (by decide) (by decide) (by decide)) tWW_eq) ?_
 simp only [BS, ↓reduceIte, eqWW]
 rw [Aa]
 simp only [BS, BC, ↓reduceIte, ]
 refine pc (T8 hP _) ?_
 simp only [BS, ]
 rw [Aa]
 simp only [BS, BC, ↓reduceIte, nE, ]
 refine pc (Zf hP hd0 _ .mk T9 (by decide) two16 (fun p h => by cases h) tNo_eq) ?_
 simp only [BS, ]
 rw [Aa]
 simp only [BS, ↓reduceIte, nE, eqNo]
 rw [Aa]
 simp only [BS, ↓reduceIte, bU2]
 rw [Aa]
 simp only [BS, ↓reduceIte, nE, bK2]
 rw [Aa]
 simp only [BS, ↓reduceIte, nE, BM, BD, nA, nL]
 rw [Aa]
 simp only [BS, BC, ↓reduceIte, nE, ]
 refine pc (cText2 hP hd0 _ (by decide) (by decide) (by decide) (by decide) tPl_eq) ?_
 simp only [BS, ]
 rw [Aa]
 simp only [BS, BC, ↓reduceIte, nE, eqPl]
 exact ⟨_, rfl, _, W, .weak (Aj hok rfl fun y hy => by rw [Ag (by omega)]), lr _, rfl, rfl⟩
end Go.AL.S
namespace Go.AL.S
open Go Go.AL Go.Proofs Go.Sort Go.Shelf Go.RowKit
variable {E : Env}
def maxR : List Int → Int
 | [] => 0
 | x :: l => l.foldl max x
def minR : List Int → Int
 | [] => 0
 | x :: l => l.foldl min x
theorem Gw {f : Int → Int → Int} {x : Int} {l : List Int} {k : Nat} {y : Int} (h : l[k]? = some y) : (l.take (k + 1)).foldl f x = f ((l.take k).foldl f x) y := by
 rw [tao, h, List.foldl_append]
 rfl
theorem max8_w (b o c : Nat) (x : Int) (l : List Int) (W : World) (hl : l.length < 2 ^ 40) (hb : ∀ i y, (x :: l)[i]? = some y → W.cell? ⟨b, o + i, none⟩ = some (.int .u8 y)) :
  Calls Tryz.prog 49 #[.slice (some ⟨b, o, none⟩) (l.length + 1) c] W fun e w' => e = .returned (.int .u8 (maxR (x :: l))) ∧ w' = W := by
 have h0 : W.cell? ⟨b, o, none⟩ = some (.int .u8 x) := hb 0 x rfl
 go_enter Tryz.func49, Tryz.ntmps49
 go_wp2
 have hz : decide ((l.length : Int) + 1 < 1) = false := by simp; omega
 try rw [hz]
 go_loop [3, 4] (fun m i => ∃ k : Nat, k ≤ l.length ∧ i = .int .i64 ((k : Int) + 1) ∧ m = .int .u8 ((l.take k).foldl max x)) (fun _ i => l.length + 1 - (Proofs.intOf i).toNat)
 case atStart => exact ⟨0, Nat.zero_le _, rfl, rfl⟩
 case round =>
  obtain ⟨k, hk, rfl, rfl⟩ := hrel
  by_cases hp : k < l.length
  ·obtain ⟨y, hy⟩ : ∃ y, l[k]? = some y := ⟨_, gEg hp⟩
   have hc : W.cell? ⟨b, o + (k + 1), none⟩ = some (.int .u8 y) := hb (k + 1) y (by simpa using hy)
   have HT := Lib.hid (Gw (f := max) (x := x) hy)
   go_wp2
   go_round
   case rel =>
    exact ⟨k + 1, by omega, by simp, congrArg _ (Gw (f := max) (gEg hp)).symm⟩
   case measure =>
    simp only [Proofs.intOf]
    omega
  ·obtain rfl : k = l.length := by omega
   go_wp2
   go_ret
   exact ⟨rfl, rfl⟩
theorem min16_w (b o c : Nat) (x : Int) (l : List Int) (W : World) (hl : l.length < 2 ^ 40) (hb : ∀ i y, (x :: l)[i]? = some y → W.cell? ⟨b, o + i, none⟩ = some (.int .u16 y)) :
  Calls Tryz.prog 50 #[.slice (some ⟨b, o, none⟩) (l.length + 1) c] W fun e w' => e = .returned (.int .u16 (minR (x :: l))) ∧ w' = W := by
 have h0 : W.cell? ⟨b, o, none⟩ = some (.int .u16 x) := hb 0 x rfl
 go_enter Tryz.func50, Tryz.ntmps50
 go_wp2
 have hz : decide ((l.length : Int) + 1 < 1) = false := by simp; omega
 try rw [hz]
 go_loop [3, 4] (fun m i => ∃ k : Nat, k ≤ l.length ∧ i = .int .i64 ((k : Int) + 1) ∧ m = .int .u16 ((l.take k).foldl min x)) (fun _ i => l.length + 1 - (Proofs.intOf i).toNat)
 case atStart => exact ⟨0, Nat.zero_le _, rfl, rfl⟩
 case round =>
  obtain ⟨k, hk, rfl, rfl⟩ := hrel
  by_cases hp : k < l.length
  ·obtain ⟨y, hy⟩ : ∃ y, l[k]? = some y := ⟨_, gEg hp⟩
   have hc : W.cell? ⟨b, o + (k + 1), none⟩ = some (.int .u16 y) := hb (k + 1) y (by simpa using hy)
   have HT := Lib.hid (Gw (f := min) (x := x) hy)
   go_wp2
   go_round
   case rel =>
    exact ⟨k + 1, by omega, by simp, congrArg _ (Gw (f := min) (gEg hp)).symm⟩
   case measure =>
    simp only [Proofs.intOf]
    omega
  ·obtain rfl : k = l.length := by omega
   go_wp2
   go_ret
   exact ⟨rfl, rfl⟩
theorem max8_c (hP : PE E) (W : AW) {v : V} {l : List Int} (h : isS 1 v (u8s l)) (h0 : 0 < l.length) (hl : l.length < 2 ^ 30) : ACalls E 49 [v] W fun Y W' => Y = .int .u8 (maxR l) ∧ W' = W := by
 refine ⟨⟨_, _, by rw [hP]; exact Tryz.func49, rfl, by decide⟩, fun _ γ w ws hW hr => ?_⟩
 obtain ⟨_, _, rfl, r1, rfl⟩ := hr
 obtain ⟨b, o, c, rfl, hb, k⟩ := Gs hW h h0 r1
 rw [hP]
 cases l with
 | nil => exact absurd h0 (by simp)
 | cons x l =>
  refine Calls.mono (max8_w b o c x l w (by simp at hl; omega) k) ?_
  rintro en w' ⟨rfl, rfl⟩
  exact ⟨_, γ, .int .u8 _, W, rfl, G.le.refl _ _, lr _, hW, rfl, rfl, rfl⟩
theorem min16_c (hP : PE E) (W : AW) {v : V} {l : List Int} (h : isS 1 v (intsV l)) (h0 : 0 < l.length) (hl : l.length < 2 ^ 30) : ACalls E 50 [v] W fun Y W' => Y = .int .u16 (minR l) ∧ W' = W := by
 refine ⟨⟨_, _, by rw [hP]; exact Tryz.func50, rfl, by decide⟩, fun _ γ w ws hW hr => ?_⟩
 obtain ⟨_, _, rfl, r1, rfl⟩ := hr
 obtain ⟨b, o, c, rfl, hb, k⟩ := Gs hW h h0 r1
 rw [hP]
 cases l with
 | nil => exact absurd h0 (by simp)
 | cons x l =>
  refine Calls.mono (min16_w b o c x l w (by simp at hl; omega) k) ?_
  rintro en w' ⟨rfl, rfl⟩
  exact ⟨_, γ, .int .u16 _, W, rfl, G.le.refl _ _, lr _, hW, rfl, rfl, rfl⟩
end Go.AL.S
namespace Go.AL.S
open Go Go.AL Go.AL.SE Go.Proofs
def c_hasG : AC := (.r [.u 3 .box 1,.v 4 (.bool false)] (.seq (.par (.step 0 (.m 5 0) (.step 1 (.p 6 (.eqn true 0) [.t 5,.c (.nilptr)]) (.step 2 (.m 7 6) (.step 3 (.M 8 0 7 true) (.step 4 (.U 9 .nilck 8 7 true) (.step 5 (.U 10 (.fld 1) 9 7 true) (.step 6 (.U 11 (.load false 1) 10 7 true) (.step 7 (.U 12 (.load true 3) 3 7 true) (.step 8 (.B 13 (.lookup (true, [.i .u16,.i .u16,.i .u8]) (.int .i64 0) false) 11 12 7 true) (.step 9 (.P 14 (.bin .gtr) [.t 13,.i 0] 7 true) (.step 10 (.p 15 .pick [.t 7,.t 14,.F]) (.step 11 (.m 4 15) .done))))))))))))) .ret))
theorem Xao : compF Tryz.prog Tryz.f52 ⟨false, false, []⟩ = some (c_hasG, [.tmp 4], 16) := by kernel_rfl
variable {E : Env}
theorem hasG_x (hP : PE E) (W : AW) {g m : Nat} {h : V} {P : List Ek} (hg : W.get g = some (.row [h, .map m])) (hm : W.get m = some (gmap P)) (hgl : g < W.nx) (hml : m < W.nx) (hpk : ∀ x ∈ P, ekOk x) (e : Ed) (he : ekOk (ofEd e)) : ACalls E 52 [.ptr g 0, e.V] W fun Y W' => Y = .bool (decide (ofEd e ∈ P)) ∧ W' = W := by
 refine ACalls.of hP Tryz.func52 Xao (by simp) fun _ hok => ?_
 refine Ae hok ?_
 have hgr : ∀ l, (X W W.nx l).get g = some (.row [h, .map m]) := fun l => by rw [Ag hgl]; exact hg
 have hmr : ∀ l, (X W W.nx l).get m = some (gmap P) := fun l => by rw [Ag hml]; exact hm
 have hks := Tb (Kk hpk) he 0
 have hlk : ∀ l K, sem E (.lookup shE (.int .i64 0) false) [.map m, .agg [.int .u16 e.fr, .int .u16 e.to, .int .u8 e.kd]] (X W W.nx l) K = K (.int .i64 ((getE (tally P) (ofEd e)).getD 0)) (X W W.nx l) := fun l K => by
  rw [show V.agg [.int .u16 e.fr, .int .u16 e.to, .int .u8 e.kd] = ekV (ofEd e) from rfl, Cw (hmr l) hks, Om]
 have hv : decide ((getE (tally P) (ofEd e)).getD 0 > 0) = decide (ofEd e ∈ P) := by
  rw [It]
  by_cases hmm : ofEd e ∈ P
  ·rw [if_pos hmm, Option.getD_some, decide_eq_true hmm, decide_eq_true (by have := List.count_pos_iff.2 hmm; omega)]
  ·rw [if_neg hmm, Option.getD_none, decide_eq_false hmm]; rfl
 simp (disch:=omega) only [BZ, ↓reduceIte, reduceCtorEq, BM, BD, c_hasG, Ed.V]
 repeat (rw [Aa]; simp (disch:=omega) only [BS, BC, ↓reduceIte, nE, reduceCtorEq, BM, BD, nA, nL, hg, hlk, hv])
 exact ⟨_, rfl, _, W, Aw hok rfl, lr _, rfl, rfl⟩
def c_cIs_0 : AC := (.r [.b 63 (.bin .lss) 62 61] (.seq (.w 63 0) (.seq (.block 1 (.r [.m 64 62,.b 65 (.idxp 1) 60 62,.u 66 (.load false 1) 65,.m 10 64,.m 11 66] (.seq (.par (.step 0 (.u 67 (.fld 0) 5) (.step 2 (.m 69 10) (.step 4 (.m 71 11) (.step 1 (.u 68 (.load false 1) 67) (.step 3 (.b 70 (.slc 1 false true false) 68 69) (.step 5 (.b 72 (.call 51) 70 71) (.step 6 (.m 73 72) (.step 7 (.M 74 0 73 false) (.step 8 (.M 75 11 73 false) (.step 9 (.U 76 (.fld 0) 5 73 false) (.step 11 (.M 78 10 73 false) (.step 12 (.P 79 (.bin .add) [.t 78,.i 1] 73 false) (.step 13 (.M 80 9 73 false) (.step 14 (.B 81 (.bin .rem) 79 80 73 false) (.step 17 (.U 84 (.fld 1) 5 73 false) (.step 19 (.M 86 10 73 false) (.step 10 (.U 77 (.load false 1) 76 73 false) (.step 15 (.B 82 (.idxp 1) 77 81 73 false) (.step 16 (.U 83 (.load false 1) 82 73 false) (.step 18 (.U 85 (.load false 1) 84 73 false) (.step 20 (.B 87 (.idxp 1) 85 86 73 false) (.step 21 (.U 88 (.load false 1) 87 73 false) (.step 22 (.P 89 (.build [.int .u16 0,.int .u16 0,.int .u8 0] [(0, 1), (1, 1), (2, 1)]) [.t 75,.t 83,.t 88] 73 false) (.step 23 (.B 90 (.call 52) 74 89 73 false) (.step 24 (.U 91 (.un .not) 90 73 false) (.step 25 (.p 92 .pick [.t 73,.T,.t 91]) .done))))))))))))))))))))))))))) (.cond (.t 92) (.r [.v 6 (.bool false)] .ret) .skip)))) (.reg [.a 93 (.bin .add) 62 1,.m 62 93]))))
def c_cIs : AC := (.r [.u 5 .box 2,.v 6 (.bool false)] (.r [.m 13 1,.u 14 (.call 40) 13,.m 12 14,.u 15 (.ext 0) 12,.u 16 (.ext 1) 12,.p 7 (.alloc [.int .u8 0]) [],⟨none,.store 1, [.t 7,.t 15], none⟩,.m 8 16] (.r [.u 17 (.fld 0) 5,.u 18 (.load false 1) 17,.u 19 (.len 1 0) 18,.m 9 19] (.seq (.seq (.par (.step 0 (.m 20 8) (.step 1 (.u 21 (.un .not) 20) (.step 2 (.m 22 21) (.step 3 (.M 23 9 22 false) (.step 4 (.P 24 (.bin .lss) [.t 23,.i 2] 22 false) (.step 5 (.p 25 .pick [.t 22,.T,.t 24]) (.step 6 (.m 26 25) (.step 7 (.U 27 (.fld 1) 5 26 false) (.step 10 (.M 30 9 26 false) (.step 8 (.U 28 (.load false 1) 27 26 false) (.step 9 (.U 29 (.len 1 0) 28 26 false) (.step 11 (.B 31 (.bin .neq) 29 30 26 false) (.step 12 (.p 32 .pick [.t 26,.T,.t 31]) (.step 13 (.m 33 32) (.step 14 (.U 34 (.fld 1) 5 33 false) (.step 16 (.U 36 (.fld 0) 7 33 false) (.step 15 (.U 35 (.load false 1) 34 33 false) (.step 17 (.U 37 (.load false 1) 36 33 false) (.step 18 (.B 38 (.pcall 48) 35 37 33 false) (.step 19 (.U 39 (.un .not) 38 33 false) (.step 20 (.p 40 .pick [.t 33,.T,.t 39]) (.step 21 (.m 41 40) (.step 22 (.U 42 (.fld 1) 5 41 false) (.step 25 (.U 45 (.fld 0) 7 41 false) (.step 23 (.U 43 (.load false 1) 42 41 false) (.step 24 (.U 44 (.pcall 49) 43 41 false) (.step 26 (.U 46 (.load false 1) 45 41 false) (.step 27 (.B 47 (.bin .gtr) 44 46 41 false) (.step 28 (.p 48 .pick [.t 41,.T,.t 47]) (.step 29 (.m 49 48) (.step 30 (.U 50 (.fld 0) 5 49 false) (.step 33 (.U 53 (.fld 0) 5 49 false) (.step 31 (.U 51 (.load false 1) 50 49 false) (.step 32 (.U 52 (.pcall 50) 51 49 false) (.step 34 (.U 54 (.load false 1) 53 49 false) (.step 35 (.P 55 (.idxp 1) [.t 54,.i 0] 49 false) (.step 36 (.U 56 (.load false 1) 55 49 false) (.step 37 (.B 57 (.bin .neq) 52 56 49 false) (.step 38 (.p 58 .pick [.t 49,.T,.t 57]) .done)))))))))))))))))))))))))))))))))))))))) (.cond (.t 58) (.r [.v 6 (.bool false)] .ret) .skip)) (.seq (.r [.u 59 (.fld 0) 5,.u 60 (.load false 1) 59,.u 61 (.len 1 0) 60,.v 62 (.int .i64 0)] (.block 0 (.loop c_cIs_0))) (.r [.v 6 (.bool true)] .ret))))))
theorem ok_cIse : compF Tryz.prog Tryz.f20 ⟨false, false, []⟩ = some (c_cIs, [.tmp 6], 94) := by kernel_rfl
def isAt (f : Ed → Bool) (ids ks : List Int) (i : Nat) : Bool := !(ids.take i).any (fun x => decide (ids.getD i 0 = x)) && f ⟨ids.getD i 0, ids.getD ((i + 1) % ids.length) 0, ks.getD i 0⟩
def isGo (f : Ed → Bool) (ids ks : List Int) (n : Nat) : Bool := (List.range n).all (isAt f ids ks)
def isR (f : Ed → Bool) (k : Int) (ids ks : List Int) : Bool := match ownR k with
 | none => false
 | some own => decide (2 ≤ ids.length) && decide (ks.length = ids.length) && ks.any (fun x => decide (own = x)) && decide (maxR ks ≤ own) && decide (minR ids = ids.getD 0 0) && isGo f ids ks ids.length
theorem remQ {W : AW} {K : V → AW → Prop} {k : IntKind} {a b : Nat} (h : 0 < b) : sem E (.bin .rem) [.int k (a : Int), .int k (b : Int)] W K = K (.int k ((a % b : Nat) : Int)) W := by
 have : (b : Int) ≠ 0 := by omega
 have h2 : (b : Int) = 0 ↔ False := iff_false_intro this
 simp only [sem, rsem, tsem, if_true, binI, h2, if_false, Int.ofNat_tmod]
theorem Yl (f : Ed → Bool) (ids ks : List Int) (i : Nat) : isGo f ids ks (i + 1) = (isGo f ids ks i && isAt f ids ks i) := by
 simp [isGo, List.range_succ, List.all_append]
theorem Vf {f : Ed → Bool} {ids ks : List Int} {i n : Nat} (h : isAt f ids ks i = false) (hn : i < n) : isGo f ids ks n = false := by
 cases hg : isGo f ids ks n with
 | false => rfl
 | true =>
  have := List.all_eq_true.1 hg i (List.mem_range.2 hn)
  rw [h] at this
  exact absurd this (by simp)
theorem M3 {l : List Int} {i : Nat} (h : i < l.length) : (intsV l)[i]? = some (.int .u16 (l.getD i 0)) := by
 rw [Ct h]; simp [List.getD, h]
theorem u8_getD {l : List Int} {i : Nat} (h : i < l.length) : (u8s l)[i]? = some (.int .u8 (l.getD i 0)) := by
 simp [u8s, List.getD, h]
theorem Ou {l : List Int} {i : Nat} (h : i < l.length) : l.getD i 0 ∈ l := by
 simp [List.getD, h]
theorem cIs_c (hP : PE E) (W : AW) {gp v1 v2 : V} {ids ks : List Int} (f : Ed → Bool) (i1 : isS 1 v1 (intsV ids)) (i2 : isS 1 v2 (u8s ks)) (hi : ∀ x ∈ ids, 0 ≤ x ∧ x < 65536) (hk : ∀ x ∈ ks, 0 ≤ x ∧ x < 256) (hl : ids.length < 2 ^ 20) (_ : ks.length < 2 ^ 20) (k : Int)
  (_ : gp.cells = [gp]) (_ : gp.one = true) (hgf : ∀ W : AW, W.frz gp = gp) (hf : ∀ l e, ekOk (ofEd e) → ACalls E 52 [gp, e.V] (X W W.nx l) fun Y W' => Y = .bool (f e) ∧ W' = X W W.nx l) :
  ACalls E 20 [gp, .int .u8 k, .agg [v1, v2]] W fun Y W' => Y = .bool (isR f k ids ks) ∧ W' = W := by
 refine ACalls.of hP Tryz.func20 ok_cIse (by simp) fun _ hok => ?_
 refine Ae hok ?_
 have fin : ∀ l b, b = isR f k ids ks → ∃ X0, some (V.bool b) = some X0 ∧ ∃ Y W', RetV X0 (X W W.nx l) Y W' ∧ W.nx ≤ W'.nx ∧ Y = .bool (isR f k ids ks) ∧ W' = W := fun l b hb => ⟨_, rfl, _, W, .weak (Aj hok rfl fun y hy => by rw [Ag (by omega)]), lr _, by rw [hb], rfl⟩
 simp (disch:=omega) only [BZ, ↓reduceIte, nE, BM, BD, c_cIs]
 refine pc (cof_c hP _ k) ?_
 have hn1 : (intsV ids).length = ids.length := by simp [intsV]
 have hn2 : (u8s ks).length = ks.length := by simp [u8s]
 cases ho : ownR k with
 | none =>
  have hR : isR f k ids ks = false := by simp [isR, ho]
  simp (disch:=omega) only [BZ, ↓reduceIte, nE, BM, BD, nA, nL, nT, Option.isSome_none, Option.getD_none, i1.len, hn1]
  repeat (rw [Aa]; simp (disch:=omega) only [BX, ↓reduceIte, nE, BM])
  exact fin _ _ hR.symm
 | some own =>
  simp (disch:=omega) only [BZ, ↓reduceIte, nE, BM, BD, nA, nL, nT, Option.isSome_some, Option.getD_some, i1.len, hn1]
  by_cases h2 : ids.length < 2
  ·have c2 : decide ((ids.length : Int) < 2) = true := by simp; omega
   have hR : isR f k ids ks = false := by simp [isR, ho]; intro h; omega
   repeat (rw [Aa]; simp (disch:=omega) only [BX, ↓reduceIte, nE, BM, c2])
   exact fin _ _ hR.symm
  have c2 : decide ((ids.length : Int) < 2) = false := by simp; omega
  by_cases h3 : ks.length ≠ ids.length
  ·have c3 : ((ks.length : Int) != (ids.length : Int)) = true := by simp; omega
   have hR : isR f k ids ks = false := by simp [isR, ho, h3]
   repeat (rw [Aa]; simp (disch:=omega) only [BX, ↓reduceIte, nE, BM, BD, i2.len, hn2, c2, c3])
   exact fin _ _ hR.symm
  have h3 : ks.length = ids.length := Decidable.not_not.1 h3
  have c3 : ((ks.length : Int) != (ids.length : Int)) = false := by simp; omega
  repeat (rw [Aa]; simp (disch:=omega) only [BS, BC, ↓reduceIte, nE, BM, BD, i2.len, hn2, c2, c3])
  refine C2 (by simp only [mcs, List.map_nil, i2.frz]; rfl) (has8_c hP _ i2 (by omega) own) ?_
  cases h4 : ks.any (fun x => decide (own = x)) with
  | false =>
   have hR : isR f k ids ks = false := by simp only [isR, ho, h4, Bool.and_false, Bool.false_and]
   simp (disch:=omega) only [BS, ]
   repeat (rw [Aa]; simp (disch:=omega) only [BX, ↓reduceIte, nE, BM, BD])
   exact fin _ _ hR.symm
  | true =>
  simp (disch:=omega) only [BS, ]
  repeat (rw [Aa]; simp (disch:=omega) only [BS, BC, ↓reduceIte, nE, BM, BD])
  refine C2 (by simp only [mcs, List.map_nil, i2.frz]) (max8_c hP _ i2 (by omega) (by omega)) ?_
  by_cases h5 : maxR ks > own
  ·have c5 : decide (maxR ks > own) = true := decide_eq_true h5
   have hR : isR f k ids ks = false := by simp only [isR, ho, show decide (maxR ks ≤ own) = false from decide_eq_false (by omega), Bool.and_false, Bool.false_and]
   simp (disch:=omega) only [BS]
   repeat (rw [Aa]; simp (disch:=omega) only [BX, ↓reduceIte, nE, BM, c5])
   exact fin _ _ hR.symm
  have c5 : decide (maxR ks > own) = false := decide_eq_false h5
  simp (disch:=omega) only [BS]
  repeat (rw [Aa]; simp (disch:=omega) only [BS, BC, ↓reduceIte, nE, BM, BD, c5])
  refine C2 (by simp only [mcs, List.map_nil, i1.frz]) (min16_c hP _ i1 (by omega) (by omega)) ?_
  have hat0 : (intsV ids)[0]? = some (.int .u16 (ids.getD 0 0)) := by
   cases ids with
   | nil => exact absurd h2 (by simp)
   | cons x l => rfl
  have hix : ∀ W K, sem E (.idxp 1) [v1, .int .i64 0] W K = K (.cptr [.int .u16 (ids.getD 0 0)]) W := fun W K => i1.idx (k := 0) hat0
  by_cases h6 : minR ids ≠ ids.getD 0 0
  ·have c6 : (minR ids != ids.getD 0 0) = true := bne_iff_ne.2 h6
   have hR : isR f k ids ks = false := by simp only [isR, ho, show decide (minR ids = ids.getD 0 0) = false from decide_eq_false h6, Bool.and_false, Bool.false_and]
   simp (disch:=omega) only [BS]
   repeat (rw [Aa]; simp (disch:=omega) only [BX, ↓reduceIte, nE, BM, c6, hix])
   exact fin _ _ hR.symm
  have h6 : minR ids = ids.getD 0 0 := Decidable.not_not.1 h6
  have c6 : (minR ids != ids.getD 0 0) = false := by rw [h6]; simp
  simp (disch:=omega) only [BS]
  repeat (rw [Aa]; simp (disch:=omega) only [BX, ↓reduceIte, nE, BM, BD, i1.len, hn1, c6, hix])
  have hRg : isR f k ids ks = isGo f ids ks ids.length := by
   have e2 : decide (2 ≤ ids.length) = true := by simp; omega
   have e3 : decide (ks.length = ids.length) = true := by simp [h3]
   have e5 : decide (maxR ks ≤ own) = true := by simp; omega
   have e6 : decide (minR ids = ids.getD 0 0) = true := decide_eq_true h6
   simp only [isR, ho, h4, e2, e3, e5, e6, Bool.true_and]
  rw [Ai]
  refine alp (fun (i : Nat) A1 W1 => A1 0 = some gp ∧ A1 5 = some (.ptr (rf W.nx 0) 0) ∧ A1 9 = some (.int .i64 ids.length) ∧ A1 60 = some v1 ∧ A1 61 = some (.int .i64 ids.length) ∧ A1 62 = some (.int .i64 (i : Nat)) ∧ i ≤ ids.length ∧ isGo f ids ks i = true ∧ W1 = X W W.nx [.row [v1, v2], .row [.int .u8 own]]) (fun i => ids.length - i) 0
   ⟨rfl, rfl, rfl, rfl, rfl, rfl, Nat.zero_le _, rfl, rfl⟩ ?_
  rintro i A1 _ ⟨q0, q5, q9, q60, q61, q62, qi, qg, rfl⟩ _
  by_cases hp : i < ids.length
  ·have hat := M3 hp
   have hj : (i + 1) % ids.length < ids.length := Nat.mod_lt _ (by omega)
   have hat2 := M3 hj
   have hat3 := u8_getD (l := ks) (i := i) (by omega)
   have ht := i1.take i
   rw [Ja] at ht
   have hx : ∀ W K, sem E (.idxp 1) [v1, .int .i64 (i : Int)] W K = K (.cptr [.int .u16 (ids.getD i 0)]) W := fun W K => i1.idx (k := i) hat
   have hx2 : ∀ W K, sem E (.idxp 1) [v1, .int .i64 (((i + 1) % ids.length : Nat) : Int)] W K = K (.cptr [.int .u16 (ids.getD ((i + 1) % ids.length) 0)]) W := fun W K => i1.idx (k := (i + 1) % ids.length) hat2
   have hx3 : ∀ W K, sem E (.idxp 1) [v2, .int .i64 (i : Int)] W K = K (.cptr [.int .u8 (ks.getD i 0)]) W := fun W K => i2.idx (k := i) hat3
   have hsl : ∀ W K, sem E (.slc 1 false true false) [v1, .int .i64 (i : Int)] W K = K (takeV v1 i) W := fun W K => i1.slc (by rw [hn1]; exact qi)
   have hrm : ∀ W K, sem E (.bin .rem) [.int .i64 ((i + 1 : Nat) : Int), .int .i64 (ids.length : Int)] W K = K (.int .i64 (((i + 1) % ids.length : Nat) : Int)) W := fun W K => remQ (by omega)
   simp (disch:=omega) only [BX, ↓reduceIte, nE, BM, BD, nA, c_cIs_0, q5, q60, q61, q62, clt, hp, dT, hx, hsl, ht.frz]
   refine pc (Vm hP _ ht (by simp; omega) (ids.getD i 0)) ?_
   cases hc : (ids.take i).any (fun x => decide (ids.getD i 0 = x)) with
   | true =>
    have hA : isAt f ids ks i = false := by simp only [isAt, hc, Bool.not_true, Bool.false_and]
    simp (disch:=omega) only [BS, ↓reduceIte, ]
    repeat (rw [Aa]; simp (disch:=omega) only [BX, ↓reduceIte, nE, BM, ])
    exact fin _ _ (by rw [hRg, Vf hA hp])
   | false =>
   simp (disch:=omega) only [BS, ↓reduceIte, ]
   repeat (rw [Aa]; simp (disch:=omega) only [BS, BC, ↓reduceIte, nE, reduceCtorEq, BM, BD, nA, nL, q0, q5, q9, hx2, hx3, hrm, Ah])
   have h1 := hi _ (Ou hp)
   have h2' := hi _ (Ou hj)
   have h3' := hk _ (Ou (l := ks) (i := i) (by omega))
   rw [hgf]
   refine pc (hf _ ⟨ids.getD i 0, ids.getD ((i + 1) % ids.length) 0, ks.getD i 0⟩ ⟨h1, h2', h3'⟩) ?_
   cases hfe : f ⟨ids.getD i 0, ids.getD ((i + 1) % ids.length) 0, ks.getD i 0⟩ with
   | false =>
    have hA : isAt f ids ks i = false := by simp only [isAt, hfe, Bool.and_false]
    simp (disch:=omega) only [BS, ]
    repeat (rw [Aa]; simp (disch:=omega) only [BX, ↓reduceIte, nE, BD, ])
    exact fin _ _ (by rw [hRg, Vf hA hp])
   | true =>
    have hA : isAt f ids ks i = true := by simp only [isAt, hfe, hc, Bool.and_true, Bool.not_false]
    simp (disch:=omega) only [BS, ]
    repeat (rw [Aa]; simp (disch:=omega) only [BS, BC, Ac, ↓reduceIte, nE, reduceCtorEq, BM, BD, nA, q0, q5, q9, q60, q61, q62, Ah])
    exact ⟨i + 1, ⟨tt, tt, tt, tt, tt, tt, hp, by rw [Yl, qg, hA]; rfl, tt⟩, by omega, by omega⟩
  ·obtain rfl : i = ids.length := by omega
   simp (disch:=omega) only [BX, ↓reduceIte, BM, BD, nA, c_cIs_0, q61, q62, clt, hp, dF]
   exact fin _ _ (by rw [hRg, qg])
end Go.AL.S
