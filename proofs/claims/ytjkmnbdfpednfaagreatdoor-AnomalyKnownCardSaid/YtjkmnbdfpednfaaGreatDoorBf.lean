/- What the program's functions do, part 6. Conditions: none. -/
import Derived.Test.YtjkmnbdfpednfaaGreatDoorBe
open Nat renaming reduceEqDiff → nE, reduceLeDiff → nL, reduceAdd → nA, reduceLT → nT, le_refl → lr
open List renaming getElem?_eq_getElem → gEg, length_map → lmp, getElem_mem → gmm, length_append → lap, length_cons → lcs, mem_singleton → msg, append_nil → apn, mem_append → map', take_length → tkl, map_cons → mcs, map_append → mpp, mem_map → mmp, any_eq_true → aet, length_replicate → lrp, take_add_one → tao, length_take → ltk, mem_filter → mfl
set_option maxRecDepth 100000
set_option maxHeartbeats 4000000
namespace Go.AL.S
open Go Go.AL Go.AL.SE Go.Proofs
def c_names_0 : AC := (.r [.a 9 (.bin .lss) 8 7] (.seq (.w 9 0) (.seq (.block 1 (.r [.m 10 8,.b 11 (.idxv 7 1 false) 7 8,.m 4 10,.m 5 11] (.r [.m 12 0,.m 13 4,.b 14 (.bin .shr) 12 13,.p 15 (.bin .and) [.t 14,.c (.int .u8 1)],.p 16 (.bin .neq) [.t 15,.c (.int .u8 0)]] (.cond (.t 16) (.reg [.m 17 2,.m 18 5,.u 19 (.bslice 1 1 (.str ⟨#[]⟩) [0]) 18,.b 20 (.append 1 16) 17 19,.m 2 20]) .skip)))) (.reg [.a 21 (.bin .add) 8 1,.m 8 21]))))
def c_names : AC := (.r [.v 2 (.nilsl)] (.r [.p 6 (.build [.str ⟨#[]⟩,.str ⟨#[]⟩,.str ⟨#[]⟩,.str ⟨#[]⟩,.str ⟨#[]⟩,.str ⟨#[]⟩,.str ⟨#[]⟩] [(0, 1), (1, 1), (2, 1), (3, 1), (4, 1), (5, 1), (6, 1)]) [.c (.str ⟨#[71, 48]⟩),.c (.str ⟨#[71, 49, 97]⟩),.c (.str ⟨#[71, 49, 98]⟩),.c (.str ⟨#[71, 49, 99]⟩),.c (.str ⟨#[71, 50]⟩),.c (.str ⟨#[73, 110, 99, 111, 109, 112, 97, 116, 105, 98, 108, 101]⟩),.c (.str ⟨#[71, 97, 114, 98, 97, 103, 101]⟩)],.p 3 (.alloc [.str ⟨#[]⟩,.str ⟨#[]⟩,.str ⟨#[]⟩,.str ⟨#[]⟩,.str ⟨#[]⟩,.str ⟨#[]⟩,.str ⟨#[]⟩]) [],⟨none,.store 7, [.t 3,.t 6], none⟩] (.seq (.r [.u 7 (.load true 7) 3,.v 8 (.int .i64 0)] (.block 0 (.loop c_names_0))) (.r [.m 22 2,.m 2 22] .ret))))
theorem ok_namese : compF Tryz.prog Tryz.f25 ⟨false, false, []⟩ = some (c_names, [.tmp 2], 23) := by kernel_rfl
def c_look : AC := (.r [.v 6 (.int .u8 0),.v 7 (.int .u8 0)] (.seq (.r [.m 9 0,.p 10 (.eqn false 0) [.t 9,.c (.nilptr)]] (.cond (.t 10) (.r [.v 6 (.int .u8 0),.v 7 (.int .u8 0)] .ret) .skip)) (.r [.m 11 1,.m 12 2,.b 13 (.call 16) 11 12,.m 8 13] (.r [.m 14 8,.m 15 0,.u 16 .nilck 15,.u 17 (.fld 0) 16,.u 18 (.load false 1) 17,.b 19 (.bin .andNot) 14 18,.m 7 19] (.r [.m 20 0,.u 21 .nilck 20,.u 22 (.fld 0) 21,.u 23 (.load false 1) 22,.m 24 8,.b 25 (.bin .or) 23 24,.u 26 .nilck 20,.u 27 (.fld 0) 26,⟨none,.store 1, [.t 27,.t 25], none⟩] (.r [.m 28 0,.u 29 .nilck 28,.u 30 (.fld 0) 29,.u 31 (.load false 1) 30,.m 32 7,.m 6 31,.m 7 32] .ret))))))
theorem ok_looke : compF Tryz.prog Tryz.f19 ⟨false, false, []⟩ = some (c_look, [.tmp 6, .tmp 7], 33) := by kernel_rfl
def c_flagsW : AC := (.r [.v 2 (.int .u8 0)] (.seq (.r [.m 3 0,.p 4 (.eqn false 0) [.t 3,.c (.nilptr)]] (.cond (.t 4) (.r [.v 2 (.int .u8 0)] .ret) .skip)) (.r [.m 5 0,.u 6 .nilck 5,.u 7 (.fld 0) 6,.u 8 (.load false 1) 7,.m 2 8] .ret)))
theorem ok_flagsWe : compF Tryz.prog Tryz.f26 ⟨false, false, []⟩ = some (c_flagsW, [.tmp 2], 9) := by kernel_rfl
variable {E : Env}
theorem cnp : V.nilptr.cells = [.nilptr] := rfl
theorem cnl : V.nilsl.cells = [.nilsl] := rfl
theorem eqnn {W : AW} {K : V → AW → Prop} : sem E (.eqn false 0) [.nilptr, .nilptr] W K = K (.bool true) W := rfl
theorem onp : V.nilptr.one = true := rfl
theorem build_nil (hP : PE E) (W : AW) (q : Nat) : ACalls E 11 [.nilptr, .ptr q 0] W fun Y W' => Y = .nilptr ∧ W' = W := by
 refine ACalls.of hP Tryz.func11 ok_builde (by simp) fun _ hok => ?_
 refine awp_start hok ?_
 simp (maxSteps:=9^9) (disch:=omega) only [BZ, ↓reduceIte, nE, BM, BD, c_build, cnp]
 repeat (rw [guard_if]; simp (maxSteps:=9^9) (disch:=omega) only [BX, ↓reduceIte, nE, BM])
 exact ⟨_, rfl, _, W, backX hok rfl, lr _, rfl, rfl⟩
theorem faults_nil1 (hP : PE E) (W : AW) (q : Nat) : ACalls E 17 [.nilptr, .ptr q 0] W fun Y W' => Y = .nilsl ∧ W' = W := by
 refine ACalls.of hP Tryz.func17 ok_faultse (by simp) fun _ hok => ?_
 refine awp_start hok ?_
 simp (maxSteps:=9^9) (disch:=omega) only [BZ, ↓reduceIte, nE, BM, BD, nA, c_faults, cnp]
 repeat (rw [guard_if]; simp (maxSteps:=9^9) (disch:=omega) only [BX, ↓reduceIte, nE, BM, BD, nA, nL, nT])
 exact ⟨_, rfl, _, W, backX hok rfl, lr _, rfl, rfl⟩
theorem faults_nil2 (hP : PE E) (W : AW) (p : Nat) : ACalls E 17 [.ptr p 0, .nilptr] W fun Y W' => Y = .nilsl ∧ W' = W := by
 refine ACalls.of hP Tryz.func17 ok_faultse (by simp) fun _ hok => ?_
 refine awp_start hok ?_
 simp (maxSteps:=9^9) (disch:=omega) only [BZ, ↓reduceIte, nE, BM, BD, nA, c_faults, cnp]
 repeat (rw [guard_if]; simp (maxSteps:=9^9) (disch:=omega) only [BX, ↓reduceIte, nE, BM, BD, nA, nL, nT])
 exact ⟨_, rfl, _, W, backX hok rfl, lr _, rfl, rfl⟩
theorem nodes_nil (hP : PE E) (W : AW) : ACalls E 81 [.nilptr] W fun Y W' => Y = .nilsl ∧ W' = W := by
 refine ACalls.of hP Tryz.func81 ok_nodese (by simp) fun _ hok => ?_
 refine awp_start hok ?_
 simp (maxSteps:=9^9) (disch:=omega) only [BX, ↓reduceIte, reduceCtorEq, BM, c_nodes]
 exact ⟨_, rfl, _, W, backX hok rfl, lr _, rfl, rfl⟩
theorem sorted_nil (hP : PE E) (W : AW) : ACalls E 46 [.nilptr] W fun Y W' => Y = .nilsl ∧ W' = W := by
 refine ACalls.of hP Tryz.func46 ok_sortede (by simp) fun _ hok => ?_
 refine awp_start hok ?_
 simp (maxSteps:=9^9) (disch:=omega) only [BX, ↓reduceIte, reduceCtorEq, BM, c_sorted]
 exact ⟨_, rfl, _, W, backX hok rfl, lr _, rfl, rfl⟩
theorem edges_nil (hP : PE E) (W : AW) : ACalls E 12 [.nilptr] W fun Y W' => ∃ q, Y = .fn (.func 45) [] [.ptr q 0] ∧ W'.get q = some (.row [.nilptr]) ∧ q < W'.nx ∧ Ex W W' := by
 refine ACalls.of hP Tryz.func12 ok_edgese (by simp) fun _ hok => ?_
 refine awp_start hok ?_
 simp only [c_edges, BZ, ↓reduceIte, nE, BM, BD]
 exact ⟨_, rfl, _, _, .weak weak_id, by simp [X], rf W.nx 0, rfl, by rw [X_get]; rfl, by simp [X, rf], .x0⟩
theorem edges_iter0 (hP : PE E) {W : AW} {y q : Nat} (hq : W.get q = some (.row [.nilptr])) : ACalls E 45 [.yld y, .ptr q 0] W fun Y W' => Y = .tuple [] ∧ W' = W := by
 refine ACalls.of hP Tryz.func45 ok_edges1e (by simp) fun _ hok => ?_
 simp (maxSteps:=9^9) (disch:=omega) only [c_edges1, BZ, ↓reduceIte, BM, hq]
 refine pc (sorted_nil hP _) ?_
 simp (maxSteps:=9^9) (disch:=omega) only [BS, ↓reduceIte]
 rw [e_loop]
 refine alp (fun (i : Nat) A1 W1 => A1 7 = some (.int .i64 0) ∧ A1 8 = some (.int .i64 0) ∧ W1 = W) (fun i => 0) 0
  ⟨rfl, rfl, rfl⟩ ?_
 rintro i A1 W1 ⟨g7, g8, rfl⟩ hn
 simp (maxSteps:=9^9) (disch:=omega) only [c_edges1_0, BX, ↓reduceIte, nT, g7, g8, show decide ((0 : Int) < 0) = false from rfl]
 exact ⟨_, rfl, _, _, .weak weak_id, lr _, rfl, rfl⟩
theorem range_edges0 (hP : PE E) {W0 : AW} {A : AFr} {q pv : Nat} {gx : AX} {asg body : AC} {Q : Exit → AFr → AW → Prop} (hg : gx.ev E A = some (.fn (.func 45) [] [.ptr q 0])) (hq : W0.get q = some (.row [.nilptr])) (hqn : q < W0.nx)
  (hQ : Q .normal A ((W0.alloc (.loop .ready none)).put W0.nx (.loop .exhausted none))) : awp E (.rangef gx [pv] asg body) Q A W0 := by
 rw [awp_rangef', hg]
 intro E' eP eG ey _
 have hP' : E'.P = Tryz.prog := eP.trans hP
 simp only [mcs, List.map_nil, frz_ptr]
 refine (edges_iter0 (E := E') hP' (y := W0.nx) (q := q) (by rw [alloc_lt hqn]; exact hq)).mono ?_
 rintro Y W1 ⟨_, rfl⟩
 simp only [doneQ, alloc_at]
 exact hQ
theorem next_nil (hP : PE E) (W : AW) {kv : V} {ks : List Int} (hkv : isS 1 kv (u8s ks)) : ACalls E 83 [.nilptr, kv] W fun Y W' => Y = .nilsl ∧ W' = W := by
 refine ACalls.of hP Tryz.func83 ok_nexte (by simp) fun _ hok => ?_
 refine awp_start hok ?_
 simp (maxSteps:=9^9) (disch:=omega) only [BX, ↓reduceIte, nE, BM, BD, c_next, hkv.cells, cnp]
 repeat (rw [guard_if]; simp (maxSteps:=9^9) (disch:=omega) only [BX, ↓reduceIte, nE, reduceCtorEq, BM, BD, nA, nL, nT, Nat.reduceMul, msV_cells, msV_one, lsV_cells, lsV_one, msV_frz, lsV_frz, cnp, onp, eqnn])
 exact ⟨_, rfl, _, W, backX hok rfl, lr _, rfl, rfl⟩
theorem turns_nil (hP : PE E) (W : AW) {kv : V} {ks : List Int} {wk : Int} (hkv : isS 1 kv (u8s ks)) : ACalls E 47 [.nilptr, .int .u8 wk, kv] W fun Y W' => Y = .bool false ∧ W' = W := by
 refine ACalls.of hP Tryz.func47 ok_turnse (by simp) fun _ hok => ?_
 refine awp_start hok ?_
 simp (maxSteps:=9^9) (disch:=omega) only [BZ, ↓reduceIte, reduceCtorEq, BM, BD, c_turns]
 refine pc (nodes_nil hP _) ?_
 simp (maxSteps:=9^9) (disch:=omega) only [BZ, ↓reduceIte, nE, reduceCtorEq, BM, BD, nA, nL, nT, hkv.frz]
 refine pc (next_nil hP _ hkv) ?_
 simp (maxSteps:=9^9) (disch:=omega) only [BS, BC, ↓reduceIte, ]
 refine (comp0_c hP _ (nv := .nilsl) (nx := fun _ => []) ⟨⟨[], .inl .nil, rfl, fun i h => by simp at h⟩, fun i h => by omega, fun i h => by omega⟩).mono ?_
 rintro _ WC ⟨hEC, r, rfl⟩
 have hnC := hEC.nx
 rw [hEC.cl.start]
 have hb0 : ((0 : Int) != 0) = false := by decide
 simp (maxSteps:=9^9) (disch:=omega) only [BX, ↓reduceIte, nE, reduceCtorEq, BM, BD, nL, nT, hb0]
 refine (edges_nil hP _).mono ?_
 rintro _ W0 ⟨qe, rfl, hqe, hqn, hE0⟩
 have hn0 := hE0.nx
 simp (maxSteps:=9^9) (disch:=omega) only [BS, ]
 refine range_edges0 hP (q := qe) (by simp only [ev_t]; exact if_pos rfl) hqe hqn ?_
 have r0 : rf W.nx 0 = W.nx := rfl
 have r1 : rf W.nx 1 = W.nx + 1 := rfl
 have nC : W.nx + 3 ≤ WC.nx := hnC
 have n0 : WC.nx + 1 ≤ W0.nx := hn0
 obtain ⟨Wz, hWz⟩ : ∃ Wz, Wz = (W0.alloc (.loop .ready none)).put W0.nx (.loop .exhausted none) := ⟨_, rfl⟩
 have hgz : ∀ x, x < WC.nx → Wz.get x = WC.get x := fun x hx => by rw [hWz, put_ne (by omega), alloc_lt (by omega), hE0.get x (by simp only [X_nx, rf, lcs, List.length_nil]; omega), X_old hx]
 have g6 : Wz.get (rf W.nx 1) = some (.row [.bool false]) := by rw [hgz _ (by omega), hEC.get _ (by simp only [X_nx, rf, lcs, List.length_nil]; omega), X_get]; rfl
 have nz : WC.nx ≤ Wz.nx := by rw [hWz, put_nx, alloc_nx]; omega
 rw [← hWz]
 clear hWz
 simp (maxSteps:=9^9) (disch:=omega) only [BS, e_seq, ↓reduceIte, nE, BM, BD, nL, g6]
 refine ⟨.bool false, by rw [put_at]; rfl, _, W, .weak (weak_back hok rfl fun x hx => ?_), lr _, rfl, rfl⟩
 have hx' : x < W.nx := hx
 rw [put_ne (by omega), hgz x (by omega), hEC.get x (by simp only [X_nx, rf, lcs, List.length_nil]; omega), X_old hx']
theorem cycles_nil (hP : PE E) (W : AW) : ACalls E 14 [.nilptr] W fun Y W' => Y = .int .u8 0 ∧ W' = W := by
 refine ACalls.of hP Tryz.func14 ok_cyclese (by simp) fun _ hok => ?_
 have t0 := turns_nil (E := E) hP W (ks := [0]) (wk := 0) (kv := .sl 1 true [.int .u8 0]) .mk
 have t1 := turns_nil (E := E) hP W (ks := [0, 1]) (wk := 1) (kv := .sl 1 true [.int .u8 0, .int .u8 1]) .mk
 have t2 := turns_nil (E := E) hP W (ks := [0, 1, 2]) (wk := 2) (kv := .sl 1 true [.int .u8 0, .int .u8 1, .int .u8 2]) .mk
 simp (maxSteps:=9^9) (disch:=omega) only [BZ, ↓reduceIte, nE, reduceCtorEq, c_cycles, b8_1]
 refine pc t0 ?_
 simp (maxSteps:=9^9) (disch:=omega) only [BX, ↓reduceIte, nE, reduceCtorEq, b8_2]
 refine pc t1 ?_
 simp (maxSteps:=9^9) (disch:=omega) only [BX, ↓reduceIte, nE, reduceCtorEq, b8_3]
 refine pc t2 ?_
 simp (maxSteps:=9^9) (disch:=omega) only [BX, ↓reduceIte, nE, ]
 exact ⟨_, rfl, _, _, .weak weak_id, lr _, rfl, rfl⟩
theorem of_nil (hP : PE E) (W : AW) (q : Nat) : ACalls E 16 [.nilptr, .ptr q 0] W fun Y W' => Y = .int .u8 0 ∧ W' = W := by
 refine ACalls.of hP Tryz.func16 ok_ofAe (by simp) fun _ hok => ?_
 simp (maxSteps:=9^9) (disch:=omega) only [BZ, ↓reduceIte, nE, reduceCtorEq, c_ofA]
 refine pc (build_nil hP _ q) ?_
 simp (maxSteps:=9^9) (disch:=omega) only [BS, BC, ↓reduceIte, ]
 refine pc (cycles_nil hP _) ?_
 simp (maxSteps:=9^9) (disch:=omega) only [BZ, ↓reduceIte, nE, reduceCtorEq, ]
 refine pc (faults_nil1 hP _ q) ?_
 simp (maxSteps:=9^9) (disch:=omega) only [BS, ↓reduceIte, ]
 rw [e_loop]
 refine alp (fun (k : Nat) A1 W2 => A1 5 = some (.int .u8 0) ∧ A1 15 = some (.int .i64 0) ∧ A1 16 = some (.int .i64 0) ∧ W2 = W) (fun k => 0) 0
  ⟨rfl, rfl, rfl, rfl⟩ ?_
 rintro k A1 W2 ⟨g5, g15, g16, rfl⟩ _
 simp (maxSteps:=9^9) (disch:=omega) only [BX, ↓reduceIte, nE, nT, c_ofA_0, g5, g15, g16, show decide ((0 : Int) < 0) = false from rfl]
 exact ⟨_, rfl, _, _, .weak weak_id, lr _, rfl, rfl⟩
theorem look_nil (hP : PE E) (W : AW) (p q : Nat) : ACalls E 19 [.nilptr, .ptr p 0, .ptr q 0] W fun Y W' => Y = .tuple [.int .u8 0, .int .u8 0] ∧ W' = W := by
 refine ACalls.of hP Tryz.func19 ok_looke (by simp) fun _ hok => ?_
 simp (maxSteps:=9^9) (disch:=omega) only [BX, ↓reduceIte, nE, reduceCtorEq, BM, c_look]
 exact ⟨_, rfl, _, _, .weak weak_id, lr _, rfl, rfl⟩
theorem flagsW_nil (hP : PE E) (W : AW) : ACalls E 26 [.nilptr] W fun Y W' => Y = .int .u8 0 ∧ W' = W := by
 refine ACalls.of hP Tryz.func26 ok_flagsWe (by simp) fun _ hok => ?_
 simp (maxSteps:=9^9) (disch:=omega) only [BX, ↓reduceIte, reduceCtorEq, BM, c_flagsW]
 exact ⟨_, rfl, _, _, .weak weak_id, lr _, rfl, rfl⟩
theorem flagsW_c (hP : PE E) (W : AW) {r : Nat} {n : Int} (hg : W.get r = some (.row [.int .u8 n])) : ACalls E 26 [.ptr r 0] W fun Y W' => Y = .int .u8 n ∧ W' = W := by
 refine ACalls.of hP Tryz.func26 ok_flagsWe (by simp) fun _ hok => ?_
 simp (maxSteps:=9^9) (disch:=omega) only [BX, ↓reduceIte, reduceCtorEq, BM, BD, c_flagsW, hg]
 exact ⟨_, rfl, _, _, .weak weak_id, lr _, rfl, rfl⟩
theorem sem_andn {W : AW} {K : V → AW → Prop} {a b c : Int} (h : bitI .andNot .u8 a b = some c) : sem E (.bin .andNot) [.int .u8 a, .int .u8 b] W K = K (.int .u8 c) W := by
 simp [sem, rsem, tsem, binI, h]
theorem look_c (hP : PE E) (W : AW) {r p ra rw q : Nat} {s : Str} {os : Ods} {n f m : Int} (hg : W.get r = some (.row [.int .u8 n])) (hS : St W p ra rw s) (hO : Od W q os) (hf : bitI .andNot .u8 (ofN s os : Nat) n = some f) (hm : bitI .or .u8 n (ofN s os : Nat) = some m) :
  ACalls E 19 [.ptr r 0, .ptr p 0, .ptr q 0] W fun Y W' => Y = .tuple [.int .u8 m, .int .u8 f] ∧ W' = W.put r (.row [.int .u8 m]) := by
 refine ACalls.of hP Tryz.func19 ok_looke (by simp) fun _ hok => ?_
 simp (maxSteps:=9^9) (disch:=omega) only [BX, ↓reduceIte, nE, reduceCtorEq, BM, c_look]
 refine pc (of_c29 hP W hS hO) ?_
 simp (maxSteps:=9^9) (disch:=omega) only [BZ, ↓reduceIte, nE, reduceCtorEq, BM, BD, nL, hg, sem_andn hf, sem_or hm]
 have h2 : (W.put r (.row [.int .u8 m])).get r = some (.row [.int .u8 m]) := put_at
 simp (maxSteps:=9^9) (disch:=omega) only [BS, BC, BM, h2]
 exact ⟨_, rfl, _, _, .weak weak_id, by rw [put_nx]; exact lr _, rfl, rfl⟩
def namesL : List V := [.str ⟨#[71, 48]⟩, .str ⟨#[71, 49, 97]⟩, .str ⟨#[71, 49, 98]⟩, .str ⟨#[71, 49, 99]⟩, .str ⟨#[71, 50]⟩, .str ⟨#[73, 110, 99, 111, 109, 112, 97, 116, 105, 98, 108, 101]⟩, .str ⟨#[71, 97, 114, 98, 97, 103, 101]⟩]
theorem bld7 {W : AW} {K : V → AW → Prop} {z a b c d e f g : V} (_ : z.cells = [z]) (h : ∀ x ∈ [a, b, c, d, e, f, g], x.cells = [x]) : sem E (.build [z, z, z, z, z, z, z] [(0, 1), (1, 1), (2, 1), (3, 1), (4, 1), (5, 1), (6, 1)]) [a, b, c, d, e, f, g] W K = K (.agg [a, b, c, d, e, f, g]) W := by
 have ha := h a (by simp)
 have hb := h b (by simp)
 have hc := h c (by simp)
 have hd := h d (by simp)
 have he := h e (by simp)
 have hf := h f (by simp)
 have hg := h g (by simp)
 simp [sem, rsem, tsem, fillV, ha, hb, hc, hd, he, hf, hg]
theorem lt7 {k : Nat} (h : k < 7) : k = 0 ∨ k = 1 ∨ k = 2 ∨ k = 3 ∨ k = 4 ∨ k = 5 ∨ k = 6 := by omega
theorem shr255 {W : AW} {K : V → AW → Prop} {k : Nat} (h : k < 7) : sem E (.bin .shr) [.int .u8 255, .int .i64 (k : Int)] W K = K (.int .u8 ((255 / 2 ^ k : Nat) : Int)) W := by
 rcases lt7 h with rfl | rfl | rfl | rfl | rfl | rfl | rfl <;> rfl
theorem shr0 {W : AW} {K : V → AW → Prop} {k : Nat} (h : k < 7) : sem E (.bin .shr) [.int .u8 0, .int .i64 (k : Int)] W K = K (.int .u8 ((0 : Nat) : Int)) W := by
 rcases lt7 h with rfl | rfl | rfl | rfl | rfl | rfl | rfl <;> rfl
theorem and1 {W : AW} {K : V → AW → Prop} {k : Nat} (h : k < 7) : sem E (.bin .and) [.int .u8 ((255 / 2 ^ k : Nat) : Int), .int .u8 1] W K = K (.int .u8 1) W := by
 rcases lt7 h with rfl | rfl | rfl | rfl | rfl | rfl | rfl <;> rfl
theorem and0 {W : AW} {K : V → AW → Prop} : sem E (.bin .and) [.int .u8 ((0 : Nat) : Int), .int .u8 1] W K = K (.int .u8 0) W := rfl
theorem bs1s {W : AW} {K : V → AW → Prop} {x : V} (h : x.cells = [x]) : sem E (.bslice 1 1 (.str ⟨#[]⟩) [0]) [x] W K = K (.sl 1 true [x]) W := by
 have hz : (V.str ⟨#[]⟩).cells = [V.str ⟨#[]⟩] := rfl
 simp [sem, rsem, tsem, fillE, h, hz]
theorem names_c (hP : PE E) (W : AW) : ACalls E 25 [.int .u8 255] W fun Y W' => Y = nowGS 1 namesL ∧ W' = W := by
 refine ACalls.of hP Tryz.func25 ok_namese (by simp) fun _ hok => ?_
 refine awp_start hok ?_
 simp only [c_names]
 have hcs : ∀ x ∈ V.str ⟨#[]⟩ :: namesL, x.cells = [x] ∧ x.one = true := fun x hx => by
  simp only [namesL, List.mem_cons, List.not_mem_nil, or_false] at hx
  rcases hx with rfl | rfl | rfl | rfl | rfl | rfl | rfl | rfl <;> exact ⟨rfl, rfl⟩
 have hfz : ∀ x ∈ namesL, ∀ W : AW, W.frz x = x := fun x hx W => by
  simp only [namesL, List.mem_cons, List.not_mem_nil, or_false] at hx
  rcases hx with rfl | rfl | rfl | rfl | rfl | rfl | rfl <;> rfl
 have hbl : ∀ n, V.bel n (nowGS 1 namesL) = true := fun n => by simp [nowGS, namesL, V.bel, V.belL]
 unfold namesL at *
 generalize V.str ⟨#[]⟩ = z at *
 generalize V.str ⟨#[71, 48]⟩ = n0 at *
 generalize V.str ⟨#[71, 49, 97]⟩ = n1 at *
 generalize V.str ⟨#[71, 49, 98]⟩ = n2 at *
 generalize V.str ⟨#[71, 49, 99]⟩ = n3 at *
 generalize V.str ⟨#[71, 50]⟩ = n4 at *
 generalize V.str ⟨#[73, 110, 99, 111, 109, 112, 97, 116, 105, 98, 108, 101]⟩ = n5 at *
 generalize V.str ⟨#[71, 97, 114, 98, 97, 103, 101]⟩ = n6 at *
 have hb := fun W K => bld7 (E := E) (W := W) (K := K) (z := z) (a := n0) (b := n1) (c := n2) (d := n3) (e := n4) (f := n5) (g := n6) (hcs z (by simp)).1 fun x hx => (hcs x (List.mem_cons_of_mem _ hx)).1
 have c0 := hcs n0 (by simp)
 have c1 := hcs n1 (by simp)
 have c2 := hcs n2 (by simp)
 have c3 := hcs n3 (by simp)
 have c4 := hcs n4 (by simp)
 have c5 := hcs n5 (by simp)
 have c6 := hcs n6 (by simp)
 have f0 := hfz n0 (by simp)
 have f1 := hfz n1 (by simp)
 have f2 := hfz n2 (by simp)
 have f3 := hfz n3 (by simp)
 have f4 := hfz n4 (by simp)
 have f5 := hfz n5 (by simp)
 have f6 := hfz n6 (by simp)
 simp (maxSteps:=9^9) (disch:=omega) only [BZ, ↓reduceIte, nE, BM, BD, nA, nL, nT, hb]
 rw [if_pos (by simp only [c0.2, c1.2, c2.2, c3.2, c4.2, c5.2, c6.2, Bool.and_true])]
 clear hb c0 c1 c2 c3 c4 c5 c6 f0 f1 f2 f3 f4 f5 f6
 obtain ⟨L, hL⟩ : ∃ L : List V, L = [n0, n1, n2, n3, n4, n5, n6] := ⟨_, rfl⟩
 have hll : L.length = 7 := by rw [hL]; rfl
 have hcL : ∀ x ∈ L, x.cells = [x] ∧ x.one = true := fun x hx => hcs x (by rw [hL] at hx; exact List.mem_cons_of_mem _ hx)
 rw [← hL] at hbl ⊢
 clear hL hcs hfz
 obtain ⟨W0, hW0⟩ : ∃ W0, W0 = X W W.nx [.row L] := ⟨_, rfl⟩
 have hE0 : Ex W W0 := by rw [hW0]; exact .x0
 rw [← hW0]
 clear hW0
 rw [e_loop]
 refine alp (fun (k : Nat) A1 W1 => A1 0 = some (.int .u8 255) ∧ A1 7 = some (.agg L) ∧ A1 8 = some (.int .i64 k) ∧ k ≤ 7 ∧ Ex W W1 ∧ ∃ h, A1 2 = some h ∧ nowG W1 h (L.take k) 1 W.nx) (fun k => 7 - k) 0
  ⟨rfl, rfl, rfl, by omega, hE0, _, rfl, .inl ⟨rfl, rfl⟩⟩ ?_
 rintro k A1 W1 ⟨g0, g7, g8, gk, gE, h, g2, gn⟩ gW
 by_cases hk : k < 7
 ·have hk' : decide ((k : Int) < 7) = true := by simp; omega
  have hat : L[k]? = some (L[k]'(by omega)) := gEg _
  have htk : L.take (k + 1) = L.take k ++ [L[k]'(by omega)] := by rw [tao, hat]; rfl
  have hc := hcL (L[k]'(by omega)) (gmm _)
  generalize L[k]'(by omega) = x at hat htk hc
  have hix : ∀ W K, sem E (.idxv 7 1 false) [.agg L, .int .i64 (k : Int)] W K = K x W := fun W K => by
   rw [m_idxv, if_pos ⟨by omega, by omega⟩, partV_f, show ((k : Int).toNat * 1) = k by omega, hat, optK_some]
  have h10 : ((1 : Int) != 0) = true := rfl
  refine awp_startC gE.cl ?_
  simp (maxSteps:=9^9) (disch:=omega) only [BS, e_seq, cond_if, ↓reduceIte, nE, reduceCtorEq, c_names_0, g0, g2, g7, g8, hk', hix, shr255 hk, and1 hk, h10, bs1s hc.1]
  have hgX := gn.to (W' := X W1 W1.nx []) (lr _) fun r _ hr _ => X_old hr
  refine app_now (lo := W.nx) hgX Cl.X (by simp only [X_nx, rf, List.length_nil]; have := gE.nx; omega) (by decide) (by rw [hc.1]; simp [hc.2]) (by rw [ltk]; omega) ?_
  intro h' W2 q1 q2 q3 q4 q5
  rw [← htk] at q1
  simp only [X_nx, rf, List.length_nil] at q3 q4
  simp (maxSteps:=9^9) (disch:=omega) only [BS, ↓reduceIte, nE, reduceCtorEq, wadd1, g8, g0, g7]
  have hgn := gE.nx
  exact ⟨k + 1, ⟨tt, tt, tt, hk, ⟨q2, by omega, fun y hy => by rw [q5 y hy, X_old (by omega)]; exact gE.get y hy⟩, h', rfl, q1⟩, by omega, by omega⟩
 ·obtain rfl : k = 7 := by omega
  rw [List.take_of_length_le (by omega)] at gn
  simp (maxSteps:=9^9) (disch:=omega) only [BX, ↓reduceIte, nE, c_names_0, g2, g8, show decide (((7 : Nat) : Int) < 7) = false from rfl, gn.frz]
  exact ⟨_, rfl, _, W, .weak (weak_back hok (hbl _) gE.get), lr _, rfl, rfl⟩
theorem names0_c (hP : PE E) (W : AW) : ACalls E 25 [.int .u8 0] W fun Y W' => Y = .nilsl ∧ W' = W := by
 refine ACalls.of hP Tryz.func25 ok_namese (by simp) fun _ hok => ?_
 refine awp_start hok ?_
 simp only [c_names]
 have hcs : ∀ x ∈ V.str ⟨#[]⟩ :: namesL, x.cells = [x] ∧ x.one = true := fun x hx => by
  simp only [namesL, List.mem_cons, List.not_mem_nil, or_false] at hx
  rcases hx with rfl | rfl | rfl | rfl | rfl | rfl | rfl | rfl <;> exact ⟨rfl, rfl⟩
 have hfz : ∀ x ∈ namesL, ∀ W : AW, W.frz x = x := fun x hx W => by
  simp only [namesL, List.mem_cons, List.not_mem_nil, or_false] at hx
  rcases hx with rfl | rfl | rfl | rfl | rfl | rfl | rfl <;> rfl
 unfold namesL at *
 generalize V.str ⟨#[]⟩ = z at *
 generalize V.str ⟨#[71, 48]⟩ = n0 at *
 generalize V.str ⟨#[71, 49, 97]⟩ = n1 at *
 generalize V.str ⟨#[71, 49, 98]⟩ = n2 at *
 generalize V.str ⟨#[71, 49, 99]⟩ = n3 at *
 generalize V.str ⟨#[71, 50]⟩ = n4 at *
 generalize V.str ⟨#[73, 110, 99, 111, 109, 112, 97, 116, 105, 98, 108, 101]⟩ = n5 at *
 generalize V.str ⟨#[71, 97, 114, 98, 97, 103, 101]⟩ = n6 at *
 have hb := fun W K => bld7 (E := E) (W := W) (K := K) (z := z) (a := n0) (b := n1) (c := n2) (d := n3) (e := n4) (f := n5) (g := n6) (hcs z (by simp)).1 fun x hx => (hcs x (List.mem_cons_of_mem _ hx)).1
 have c0 := hcs n0 (by simp)
 have c1 := hcs n1 (by simp)
 have c2 := hcs n2 (by simp)
 have c3 := hcs n3 (by simp)
 have c4 := hcs n4 (by simp)
 have c5 := hcs n5 (by simp)
 have c6 := hcs n6 (by simp)
 have f0 := hfz n0 (by simp)
 have f1 := hfz n1 (by simp)
 have f2 := hfz n2 (by simp)
 have f3 := hfz n3 (by simp)
 have f4 := hfz n4 (by simp)
 have f5 := hfz n5 (by simp)
 have f6 := hfz n6 (by simp)
 simp (maxSteps:=9^9) (disch:=omega) only [BZ, ↓reduceIte, nE, BM, BD, nA, nL, nT, hb]
 rw [if_pos (by simp only [c0.2, c1.2, c2.2, c3.2, c4.2, c5.2, c6.2, Bool.and_true])]
 clear hb c0 c1 c2 c3 c4 c5 c6 f0 f1 f2 f3 f4 f5 f6 hcs hfz
 obtain ⟨L, hL⟩ : ∃ L : List V, L = [n0, n1, n2, n3, n4, n5, n6] := ⟨_, rfl⟩
 have hll : L.length = 7 := by rw [hL]; rfl
 rw [← hL]
 clear hL
 obtain ⟨W0, hW0⟩ : ∃ W0, W0 = X W W.nx [.row L] := ⟨_, rfl⟩
 have hE0 : Ex W W0 := by rw [hW0]; exact .x0
 rw [← hW0]
 clear hW0
 rw [e_loop]
 refine alp (fun (k : Nat) A1 W1 => A1 0 = some (.int .u8 0) ∧ A1 7 = some (.agg L) ∧ A1 8 = some (.int .i64 k) ∧ k ≤ 7 ∧ A1 2 = some .nilsl ∧ W1 = W0) (fun k => 7 - k) 0
  ⟨rfl, rfl, rfl, by omega, rfl, rfl⟩ ?_
 rintro k A1 W1 ⟨g0, g7, g8, gk, g2, rfl⟩ gW
 by_cases hk : k < 7
 ·have hk' : decide ((k : Int) < 7) = true := by simp; omega
  have hat : L[k]? = some (L[k]'(by omega)) := gEg _
  generalize L[k]'(by omega) = x at hat
  have hix : ∀ W K, sem E (.idxv 7 1 false) [.agg L, .int .i64 (k : Int)] W K = K x W := fun W K => by
   rw [m_idxv, if_pos ⟨by omega, by omega⟩, partV_f, show ((k : Int).toNat * 1) = k by omega, hat, optK_some]
  have h10 : ((0 : Int) != 0) = false := rfl
  simp (maxSteps:=9^9) (disch:=omega) only [BX, ↓reduceIte, nE, reduceCtorEq, c_names_0, g0, g2, g7, g8, hk', hix, shr0 hk, and0, h10, wadd1]
  exact ⟨k + 1, ⟨tt, tt, tt, hk, tt, tt⟩, by omega, lr _⟩
 ·obtain rfl : k = 7 := by omega
  simp (maxSteps:=9^9) (disch:=omega) only [BX, ↓reduceIte, nE, c_names_0, g2, g8, show decide (((7 : Nat) : Int) < 7) = false from rfl]
  exact ⟨_, rfl, _, W, .weak (weak_back hok rfl hE0.get), lr _, rfl, rfl⟩
def c_lawK : AC := (.r [.v 0 (.bool false)] (.r [.p 19 (.call 20) [.c (.int .u8 0),.c (.int .u16 1)],.p 20 (.call 20) [.c (.int .u8 1),.c (.int .u16 2)],.b 21 (.bslice 3 2 (.agg [.bool false,.int .u8 0,.int .u16 0]) [0, 1]) 19 20,.p 22 (.build [.nilsl,.nilsl] [(0, 1), (1, 1)]) [.t 21,.c (.nilsl)],.p 23 (.call 20) [.c (.int .u8 0),.c (.int .u16 3)],.p 24 (.call 20) [.c (.int .u8 1),.c (.int .u16 4)],.b 25 (.bslice 3 2 (.agg [.bool false,.int .u8 0,.int .u16 0]) [0, 1]) 23 24,.p 26 (.build [.nilsl,.nilsl] [(0, 1), (1, 1)]) [.t 25,.c (.nilsl)],.p 27 (.call 21) [.c (.int .u8 0)],.p 28 (.call 21) [.c (.int .u8 1)],.b 29 (.bslice 3 2 (.agg [.bool false,.int .u8 0,.int .u16 0]) [0, 1]) 27 28,.p 30 (.bslice 1 2 (.int .u16 0) [0, 1]) [.c (.int .u16 1),.c (.int .u16 3)],.p 31 (.bslice 1 2 (.int .u16 0) [0, 1]) [.c (.int .u16 4),.c (.int .u16 2)],.b 32 (.bslice 1 2 (.nilsl) [0, 1]) 30 31,.u 33 (.call 22) 32,.b 34 (.build [.nilsl,.nilsl] [(0, 1), (1, 1)]) 29 33,.p 35 (.bslice 2 3 (.agg [.nilsl,.nilsl]) [0, 1, 2]) [.t 22,.t 26,.t 34],.m 1 35] (.r [.p 36 (.call 20) [.c (.int .u8 0),.c (.int .u16 1)],.p 37 (.call 20) [.c (.int .u8 0),.c (.int .u16 2)],.b 38 (.bslice 3 2 (.agg [.bool false,.int .u8 0,.int .u16 0]) [0, 1]) 36 37,.p 39 (.build [.nilsl,.nilsl] [(0, 1), (1, 1)]) [.t 38,.c (.nilsl)],.p 40 (.call 21) [.c (.int .u8 0)],.u 41 (.bslice 3 1 (.agg [.bool false,.int .u8 0,.int .u16 0]) [0]) 40,.p 42 (.bslice 1 1 (.int .u16 0) [0]) [.c (.int .u16 1)],.u 43 (.bslice 1 1 (.nilsl) [0]) 42,.u 44 (.call 22) 43,.b 45 (.build [.nilsl,.nilsl] [(0, 1), (1, 1)]) 41 44,.b 46 (.bslice 2 2 (.agg [.nilsl,.nilsl]) [0, 1]) 39 45,.m 2 46] (.r [.p 47 (.call 21) [.c (.int .u8 0)],.p 48 (.call 20) [.c (.int .u8 1),.c (.int .u16 1)],.b 49 (.bslice 3 2 (.agg [.bool false,.int .u8 0,.int .u16 0]) [0, 1]) 47 48,.p 50 (.bslice 1 1 (.nilsl) [0]) [.c (.nilsl)],.u 51 (.call 22) 50,.b 52 (.build [.nilsl,.nilsl] [(0, 1), (1, 1)]) 49 51,.p 53 (.call 21) [.c (.int .u8 1)],.p 54 (.call 20) [.c (.int .u8 0),.c (.int .u16 2)],.b 55 (.bslice 3 2 (.agg [.bool false,.int .u8 0,.int .u16 0]) [0, 1]) 53 54,.p 56 (.bslice 1 1 (.nilsl) [0]) [.c (.nilsl)],.u 57 (.call 22) 56,.b 58 (.build [.nilsl,.nilsl] [(0, 1), (1, 1)]) 55 57,.p 59 (.call 21) [.c (.int .u8 0)],.p 60 (.call 21) [.c (.int .u8 1)],.b 61 (.bslice 3 2 (.agg [.bool false,.int .u8 0,.int .u16 0]) [0, 1]) 59 60,.p 62 (.bslice 1 1 (.int .u16 0) [0]) [.c (.int .u16 2)],.p 63 (.bslice 1 1 (.int .u16 0) [0]) [.c (.int .u16 1)],.b 64 (.bslice 1 2 (.nilsl) [0, 1]) 62 63,.u 65 (.call 22) 64,.b 66 (.build [.nilsl,.nilsl] [(0, 1), (1, 1)]) 61 65,.p 67 (.bslice 2 3 (.agg [.nilsl,.nilsl]) [0, 1, 2]) [.t 52,.t 58,.t 66],.m 3 67] (.r [.p 68 (.call 20) [.c (.int .u8 0),.c (.int .u16 1)],.u 69 (.bslice 3 1 (.agg [.bool false,.int .u8 0,.int .u16 0]) [0]) 68,.p 70 (.build [.nilsl,.nilsl] [(0, 1), (1, 1)]) [.t 69,.c (.nilsl)],.p 71 (.call 20) [.c (.int .u8 0),.c (.int .u16 2)],.u 72 (.bslice 3 1 (.agg [.bool false,.int .u8 0,.int .u16 0]) [0]) 71,.p 73 (.build [.nilsl,.nilsl] [(0, 1), (1, 1)]) [.t 72,.c (.nilsl)],.p 74 (.call 21) [.c (.int .u8 0)],.u 75 (.bslice 3 1 (.agg [.bool false,.int .u8 0,.int .u16 0]) [0]) 74,.p 76 (.bslice 1 2 (.int .u16 0) [0, 1]) [.c (.int .u16 1),.c (.int .u16 2)],.u 77 (.bslice 1 1 (.nilsl) [0]) 76,.u 78 (.call 22) 77,.b 79 (.build [.nilsl,.nilsl] [(0, 1), (1, 1)]) 75 78,.p 80 (.call 21) [.c (.int .u8 0)],.u 81 (.bslice 3 1 (.agg [.bool false,.int .u8 0,.int .u16 0]) [0]) 80,.p 82 (.bslice 1 2 (.int .u16 0) [0, 1]) [.c (.int .u16 2),.c (.int .u16 1)],.u 83 (.bslice 1 1 (.nilsl) [0]) 82,.u 84 (.call 22) 83,.b 85 (.build [.nilsl,.nilsl] [(0, 1), (1, 1)]) 81 84,.p 86 (.call 21) [.c (.int .u8 1)],.u 87 (.bslice 3 1 (.agg [.bool false,.int .u8 0,.int .u16 0]) [0]) 86,.p 88 (.bslice 1 1 (.int .u16 0) [0]) [.c (.int .u16 9)],.u 89 (.bslice 1 1 (.nilsl) [0]) 88,.u 90 (.call 22) 89,.b 91 (.build [.nilsl,.nilsl] [(0, 1), (1, 1)]) 87 90,.p 92 (.bslice 2 5 (.agg [.nilsl,.nilsl]) [0, 1, 2, 3, 4]) [.t 70,.t 73,.t 79,.t 85,.t 91],.m 4 92] (.seq (.r [.p 93 (.call 9) [],.u 94 (.un .not) 93,.m 95 94,.M 96 1 95 false,.U 97 (.call 23) 96 95 false,.P 98 (.bin .neq) [.t 97,.c (.int .u8 1)] 95 false,.p 99 .pick [.t 95,.T,.t 98],.m 100 99,.M 101 2 100 false,.U 102 (.call 23) 101 100 false,.P 103 (.bin .neq) [.t 102,.c (.int .u8 4)] 100 false,.p 104 .pick [.t 100,.T,.t 103],.m 105 104,.M 106 3 105 false,.U 107 (.call 23) 106 105 false,.P 108 (.bin .neq) [.t 107,.c (.int .u8 16)] 105 false,.p 109 .pick [.t 105,.T,.t 108],.m 110 109,.M 111 4 110 false,.U 112 (.call 23) 111 110 false,.P 113 (.bin .neq) [.t 112,.c (.int .u8 96)] 110 false,.p 114 .pick [.t 110,.T,.t 113]] (.cond (.t 114) (.r [.v 0 (.bool false)] .ret) .skip)) (.r [.m 116 4,.u 117 (.call 24) 116,.m 115 117,.u 118 (.ext 0) 115,.u 119 (.ext 1) 115,.m 5 118,.m 6 119] (.r [.m 120 5,.m 121 6,.b 122 (.call 17) 120 121,.m 7 122] (.seq (.r [.m 123 7,.u 124 (.len 1 0) 123,.a 125 (.bin .neq) 124 2,.m 126 125,.M 127 7 126 false,.P 128 (.idxp 4) [.t 127,.i 0] 126 false,.U 129 (.load true 4) 128 126 false,.P 130 (.build [.int .u8 0,.int .u16 0,.int .u8 0,.int .u16 0] [(0, 1), (1, 1)]) [.c (.int .u8 32),.c (.int .u16 4)] 126 false,.B 131 (.eqv true (true, [.i .u8,.i .u16,.i .u8,.i .u16])) 129 130 126 false,.p 132 .pick [.t 126,.T,.t 131],.m 133 132,.M 134 7 133 false,.P 135 (.idxp 4) [.t 134,.i 1] 133 false,.U 136 (.load true 4) 135 133 false,.P 137 (.build [.int .u8 0,.int .u16 0,.int .u8 0,.int .u16 0] [(0, 1), (1, 1), (2, 1), (3, 1)]) [.c (.int .u8 64),.c (.int .u16 5),.c (.int .u8 1),.c (.int .u16 9)] 133 false,.B 138 (.eqv true (true, [.i .u8,.i .u16,.i .u8,.i .u16])) 136 137 133 false,.p 139 .pick [.t 133,.T,.t 138]] (.cond (.t 139) (.r [.v 0 (.bool false)] .ret) .skip)) (.r [.p 140 (.call 25) [.c (.int .u8 255)],.m 8 140] (.r [.p 141 (.build [.int .u8 0] []) [],.u 142 .box 141,.m 9 142] (.r [.m 144 9,.m 145 5,.m 146 6,.p 147 (.call 19) [.t 144,.t 145,.t 146],.m 143 147,.u 148 (.ext 0) 143,.u 149 (.ext 1) 143,.m 10 148,.m 11 149] (.r [.m 151 9,.m 152 5,.m 153 6,.p 154 (.call 19) [.t 151,.t 152,.t 153],.m 150 154,.u 155 (.ext 0) 150,.u 156 (.ext 1) 150,.m 12 155,.m 13 156] (.r [.m 158 9,.m 159 3,.u 160 (.call 24) 159,.u 161 (.ext 0) 160,.u 162 (.ext 1) 160,.p 163 (.call 19) [.t 158,.t 161,.t 162],.m 157 163,.u 164 (.ext 0) 157,.u 165 (.ext 1) 157,.m 14 164,.m 15 165] (.r [.v 16 (.nilptr)] (.r [.m 167 16,.m 168 5,.m 169 6,.p 170 (.call 19) [.t 167,.t 168,.t 169],.m 166 170,.u 171 (.ext 0) 166,.u 172 (.ext 1) 166,.m 17 171,.m 18 172] (.r [.m 173 8,.u 174 (.len 1 0) 173,.a 175 (.bin .eql) 174 7,.m 176 175,.M 177 8 176 true,.P 178 (.idxp 1) [.t 177,.i 0] 176 true,.U 179 (.load false 1) 178 176 true,.P 180 (.bin .eql) [.t 179,.c (.str ⟨#[71, 48]⟩)] 176 true,.p 181 .pick [.t 176,.t 180,.F],.m 182 181,.M 183 8 182 true,.P 184 (.idxp 1) [.t 183,.i 1] 182 true,.U 185 (.load false 1) 184 182 true,.P 186 (.bin .eql) [.t 185,.c (.str ⟨#[71, 49, 97]⟩)] 182 true,.p 187 .pick [.t 182,.t 186,.F],.m 188 187,.M 189 8 188 true,.P 190 (.idxp 1) [.t 189,.i 3] 188 true,.U 191 (.load false 1) 190 188 true,.P 192 (.bin .eql) [.t 191,.c (.str ⟨#[71, 49, 99]⟩)] 188 true,.p 193 .pick [.t 188,.t 192,.F],.m 194 193,.M 195 8 194 true,.P 196 (.idxp 1) [.t 195,.i 6] 194 true,.U 197 (.load false 1) 196 194 true,.P 198 (.bin .eql) [.t 197,.c (.str ⟨#[71, 97, 114, 98, 97, 103, 101]⟩)] 194 true,.p 199 .pick [.t 194,.t 198,.F],.m 200 199,.P 201 (.call 25) [.c (.int .u8 0)] 200 true,.U 202 (.len 1 0) 201 200 true,.P 203 (.bin .eql) [.t 202,.i 0] 200 true,.p 204 .pick [.t 200,.t 203,.F],.m 205 204,.M 206 10 205 true,.P 207 (.bin .eql) [.t 206,.c (.int .u8 96)] 205 true,.p 208 .pick [.t 205,.t 207,.F],.m 209 208,.M 210 11 209 true,.P 211 (.bin .eql) [.t 210,.c (.int .u8 96)] 209 true,.p 212 .pick [.t 209,.t 211,.F],.m 213 212,.M 214 12 213 true,.P 215 (.bin .eql) [.t 214,.c (.int .u8 96)] 213 true,.p 216 .pick [.t 213,.t 215,.F],.m 217 216,.M 218 13 217 true,.P 219 (.bin .eql) [.t 218,.c (.int .u8 0)] 217 true,.p 220 .pick [.t 217,.t 219,.F],.m 221 220,.M 222 14 221 true,.P 223 (.bin .eql) [.t 222,.c (.int .u8 112)] 221 true,.p 224 .pick [.t 221,.t 223,.F],.m 225 224,.M 226 15 225 true,.P 227 (.bin .eql) [.t 226,.c (.int .u8 16)] 225 true,.p 228 .pick [.t 225,.t 227,.F],.m 229 228,.M 230 9 229 true,.U 231 (.call 26) 230 229 true,.P 232 (.bin .eql) [.t 231,.c (.int .u8 112)] 229 true,.p 233 .pick [.t 229,.t 232,.F],.m 234 233,.M 235 17 234 true,.P 236 (.bin .eql) [.t 235,.c (.int .u8 0)] 234 true,.p 237 .pick [.t 234,.t 236,.F],.m 238 237,.M 239 18 238 true,.P 240 (.bin .eql) [.t 239,.c (.int .u8 0)] 238 true,.p 241 .pick [.t 238,.t 240,.F],.m 242 241,.M 243 16 242 true,.U 244 (.call 26) 243 242 true,.P 245 (.bin .eql) [.t 244,.c (.int .u8 0)] 242 true,.p 246 .pick [.t 242,.t 245,.F],.m 247 246,.M 248 6 247 true,.P 249 (.call 16) [.c (.nilptr),.t 248] 247 true,.P 250 (.bin .eql) [.t 249,.c (.int .u8 0)] 247 true,.p 251 .pick [.t 247,.t 250,.F],.m 252 251,.M 253 5 252 true,.P 254 (.call 17) [.t 253,.c (.nilptr)] 252 true,.U 255 (.len 1 0) 254 252 true,.P 256 (.bin .eql) [.t 255,.i 0] 252 true,.p 257 .pick [.t 252,.t 256,.F],.m 258 257,.P 259 (.call 14) [.c (.nilptr)] 258 true,.P 260 (.bin .eql) [.t 259,.c (.int .u8 0)] 258 true,.p 261 .pick [.t 258,.t 260,.F],.m 262 261,.P 263 (.call 9) [] 262 true,.p 264 .pick [.t 262,.t 263,.F],.m 0 264] .ret)))))))))))))))))
theorem ok_lawKe : compF Tryz.prog Tryz.f6 ⟨false, false, []⟩ = some (c_lawK, [.tmp 0], 265) := by kernel_rfl
def hD : List Dn := [dn0 [⟨false, 0, 1⟩, ⟨false, 1, 2⟩], dn0 [⟨false, 0, 3⟩, ⟨false, 1, 4⟩], dn1 [⟨true, 0, 0⟩, ⟨true, 1, 0⟩] [some [1, 3], some [4, 2]]]
def hE : List Dn := [dn0 [⟨false, 0, 1⟩, ⟨false, 0, 2⟩], dn1 [⟨true, 0, 0⟩] [some [1]]]
def hF : List Dn := [dn1 [⟨true, 0, 0⟩, ⟨false, 1, 1⟩] [none], dn1 [⟨true, 1, 0⟩, ⟨false, 0, 2⟩] [none], dn1 [⟨true, 0, 0⟩, ⟨true, 1, 0⟩] [some [2], some [1]]]
def hG : List Dn := [dn0 [⟨false, 0, 1⟩], dn0 [⟨false, 0, 2⟩], dn1 [⟨true, 0, 0⟩] [some [1, 2]], dn1 [⟨true, 0, 0⟩] [some [2, 1]], dn1 [⟨true, 1, 0⟩] [some [9]]]
def finD (ds : List Dn) : Str × Ods := runG (runG ([], os0) (begsA ds)) (endsA ds)
theorem hD_ok : okD hD = true ∧ ofD hD = 1 := by decide +kernel
theorem hE_ok : okD hE = true ∧ ofD hE = 4 := by decide +kernel
theorem hF_ok : okD hF = true ∧ ofD hF = 16 := by decide +kernel
theorem hG_ok : okD hG = true ∧ ofD hG = 96 := by decide +kernel
theorem hG_fl : faultsR (finD hG).1 (finD hG).2 = [⟨32, 4, 0, 0⟩, ⟨64, 5, 1, 9⟩] := by decide +kernel
theorem hD_d : ∀ d ∈ hD, d.ok := fun d hd => by
 simp only [hD, List.mem_cons, List.not_mem_nil, or_false] at hd
 rcases hd with rfl | rfl | rfl
 ·exact dn0_ok (by decide)
 ·exact dn0_ok (by decide)
 ·exact dn1_ok (by decide)
theorem hE_d : ∀ d ∈ hE, d.ok := all2 (dn0_ok (by decide)) (dn1_ok (by decide))
theorem hF_d : ∀ d ∈ hF, d.ok := fun d hd => by
 simp only [hF, List.mem_cons, List.not_mem_nil, or_false] at hd
 rcases hd with rfl | rfl | rfl <;> exact dn1_ok (by decide)
theorem hG_d : ∀ d ∈ hG, d.ok := fun d hd => by
 simp only [hG, List.mem_cons, List.not_mem_nil, or_false] at hd
 rcases hd with rfl | rfl | rfl | rfl | rfl
 ·exact dn0_ok (by decide)
 ·exact dn0_ok (by decide)
 ·exact dn1_ok (by decide)
 ·exact dn1_ok (by decide)
 ·exact dn1_ok (by decide)
theorem bsD3 {W : AW} {K : V → AW → Prop} {a b c d e f : V} : sem E (.bslice 2 3 (.agg [.nilsl, .nilsl]) [0, 1, 2]) [.agg [a, b], .agg [c, d], .agg [e, f]] W K = K (.sl 2 true [.agg [a, b], .agg [c, d], .agg [e, f]]) W := by
 simp [sem, rsem, tsem, fillE, V.cells]
theorem bsD5 {W : AW} {K : V → AW → Prop} {a b c d e f g h i j : V} : sem E (.bslice 2 5 (.agg [.nilsl, .nilsl]) [0, 1, 2, 3, 4]) [.agg [a, b], .agg [c, d], .agg [e, f], .agg [g, h], .agg [i, j]] W K = K (.sl 2 true [.agg [a, b], .agg [c, d], .agg [e, f], .agg [g, h], .agg [i, j]]) W := by
 simp [sem, rsem, tsem, fillE, V.cells]
theorem streq {W : AW} {K : V → AW → Prop} {s : ByteArray} : sem E (.bin .eql) [.str s, .str s] W K = K (.bool true) W := by
 simp [sem, rsem, tsem, binS]
theorem hist_c (hP : PE E) (W : AW) {ds : List Dn} (hd : ∀ d ∈ ds, d.ok) (hl : ds.length ≤ 100) (hok : okD ds = true) : ACalls E 24 [.sl 2 true (ds.map Dn.V)] W fun Y W' => ∃ p ra rw q, Y = .tuple [.ptr p 0, .ptr q 0] ∧ Sx W W' p ra rw q (finD ds).1 (finD ds).2 := by
 rw [okD, Bool.and_eq_true] at hok
 exact history_c hP W .mk hd hl hok.1 hok.2
theorem known29_c (hP : PE E) (W : AW) : ACalls E 6 [] W fun Y _ => Y = .bool true := by
 refine ACalls.of hP Tryz.func6 ok_lawKe (by simp) fun _ hok => ?_
 have fD := fun W => flags_c (E := E) hP W (v := .sl 2 true (hD.map Dn.V)) (ds := hD) .mk hD_d (by decide) hD_ok.1
 have fE := fun W => flags_c (E := E) hP W (v := .sl 2 true (hE.map Dn.V)) (ds := hE) .mk hE_d (by decide) hE_ok.1
 have fF := fun W => flags_c (E := E) hP W (v := .sl 2 true (hF.map Dn.V)) (ds := hF) .mk hF_d (by decide) hF_ok.1
 have fG := fun W => flags_c (E := E) hP W (v := .sl 2 true (hG.map Dn.V)) (ds := hG) .mk hG_d (by decide) hG_ok.1
 rw [hD_ok.2] at fD
 rw [hE_ok.2] at fE
 rw [hF_ok.2] at fF
 rw [hG_ok.2] at fG
 have z1 : ((((1 : Nat) : Int)) != 1) = false := rfl
 have z4 : ((((4 : Nat) : Int)) != 4) = false := rfl
 have z16 : ((((16 : Nat) : Int)) != 16) = false := rfl
 have z96 : ((((96 : Nat) : Int)) != 96) = false := rfl
 simp (maxSteps:=9^9) (disch:=omega) only [BZ, c_lawK]
 repeat ((first | refine pc (add_c hP _ _ _) ?_ | refine pc (read_c hP _ _) ?_ | refine pc (listsA_c hP _ rfl) ?_); simp (maxSteps:=9^9) (disch:=omega) only [BZ, ↓reduceIte, nE, BM, BD, nA, nL, bsM1, bsM2, bsU, bsU2, bsL1, bsL2, bsN1, bsD2, bsD3, bsD5])
 refine pc (awake_c hP _) ?_
 simp (maxSteps:=9^9) (disch:=omega) only [BS, ↓reduceIte, BD, ]
 repeat (rw [guard_if]; simp (maxSteps:=9^9) (disch:=omega) only [BS, BC, ↓reduceIte, nE, ])
 refine pc (fD _) ?_
 simp (maxSteps:=9^9) (disch:=omega) only [BS]
 repeat (rw [guard_if]; simp (maxSteps:=9^9) (disch:=omega) only [BS, BC, ↓reduceIte, nE, z1])
 refine pc (fE _) ?_
 simp (maxSteps:=9^9) (disch:=omega) only [BS]
 repeat (rw [guard_if]; simp (maxSteps:=9^9) (disch:=omega) only [BS, BC, ↓reduceIte, nE, z4])
 refine pc (fF _) ?_
 simp (maxSteps:=9^9) (disch:=omega) only [BS]
 repeat (rw [guard_if]; simp (maxSteps:=9^9) (disch:=omega) only [BS, BC, ↓reduceIte, nE, z16])
 refine pc (fG _) ?_
 simp (maxSteps:=9^9) (disch:=omega) only [BS]
 repeat (rw [guard_if]; simp (maxSteps:=9^9) (disch:=omega) only [BX, ↓reduceIte, nE, z96])
 clear fD fE fF fG z1 z4 z16 z96
 refine (hist_c hP W hG_d (by decide) hG_ok.1).mono ?_
 rintro _ W1 ⟨p, ra, rw, q, rfl, hS⟩
 simp (maxSteps:=9^9) (disch:=omega) only [BZ, ↓reduceIte, nE, ]
 refine pc (faults_c hP _ hS.nw.st hS.od) ?_
 rw [hG_fl]
 have hs := nowGS_S 4 ([⟨32, 4, 0, 0⟩, ⟨64, 5, 1, 9⟩].map Flt.V)
 generalize nowGS 4 ([⟨32, 4, 0, 0⟩, ⟨64, 5, 1, 9⟩].map Flt.V) = fv at hs ⊢
 have hl : ∀ W K, sem E (.len 1 0) [fv] W K = K (.int .i64 2) W := fun W K => hs.len
 have i0 : ∀ W K, sem E (.idxp 4) [fv, .int .i64 0] W K = K (.cptr (Flt.V ⟨32, 4, 0, 0⟩).cells) W := fun W K => hs.idx (k := 0) rfl
 have i1 : ∀ W K, sem E (.idxp 4) [fv, .int .i64 1] W K = K (.cptr (Flt.V ⟨64, 5, 1, 9⟩).cells) W := fun W K => hs.idx (k := 1) rfl
 have l4 : ∀ (f : Flt) W K, sem E (.load true 4) [.cptr f.V.cells] W K = K f.V W := fun f W K => rfl
 have b0 : ∀ W K, sem E (.build [.int .u8 0, .int .u16 0, .int .u8 0, .int .u16 0] [(0, 1), (1, 1)]) [.int .u8 32, .int .u16 4] W K = K (Flt.V ⟨32, 4, 0, 0⟩) W := fun W K => by simp [sem, rsem, tsem, fillV, V.cells, Flt.V]
 have b1 : ∀ W K, sem E (.build [.int .u8 0, .int .u16 0, .int .u8 0, .int .u16 0] [(0, 1), (1, 1), (2, 1), (3, 1)]) [.int .u8 64, .int .u16 5, .int .u8 1, .int .u16 9] W K = K (Flt.V ⟨64, 5, 1, 9⟩) W := fun W K => by simp [sem, rsem, tsem, fillV, V.cells, Flt.V]
 have e0 : ∀ W K, sem E (.eqv true (true, [.i .u8, .i .u16, .i .u8, .i .u16])) [Flt.V ⟨32, 4, 0, 0⟩, Flt.V ⟨32, 4, 0, 0⟩] W K = K (.bool false) W := fun W K => by simp [sem, rsem, tsem, Flt.V]; rfl
 have e1 : ∀ W K, sem E (.eqv true (true, [.i .u8, .i .u16, .i .u8, .i .u16])) [Flt.V ⟨64, 5, 1, 9⟩, Flt.V ⟨64, 5, 1, 9⟩] W K = K (.bool false) W := fun W K => by simp [sem, rsem, tsem, Flt.V]; rfl
 have z2 : ((2 : Int) != 2) = false := rfl
 simp (maxSteps:=9^9) (disch:=omega) only [BS, e_seq, ↓reduceIte, hl, z2]
 repeat (rw [guard_if]; simp (maxSteps:=9^9) (disch:=omega) only [BX, ↓reduceIte, nE, i0, l4, b0, e0, i1, b1, e1])
 clear hl i0 i1 l4 b0 b1 e0 e1 z2 hs
 rw [hS.nw.ex.cl.start]
 refine pc (names_c hP _) ?_
 have hs := nowGS_S 1 namesL
 have hl : ∀ W K, sem E (.len 1 0) [nowGS 1 namesL] W K = K (.int .i64 7) W := fun W K => hs.len
 have i0 : ∀ W K, sem E (.idxp 1) [nowGS 1 namesL, .int .i64 0] W K = K (.cptr [.str ⟨#[71, 48]⟩]) W := fun W K => hs.idx (k := 0) rfl
 have i1 : ∀ W K, sem E (.idxp 1) [nowGS 1 namesL, .int .i64 1] W K = K (.cptr [.str ⟨#[71, 49, 97]⟩]) W := fun W K => hs.idx (k := 1) rfl
 have i3 : ∀ W K, sem E (.idxp 1) [nowGS 1 namesL, .int .i64 3] W K = K (.cptr [.str ⟨#[71, 49, 99]⟩]) W := fun W K => hs.idx (k := 3) rfl
 have i6 : ∀ W K, sem E (.idxp 1) [nowGS 1 namesL, .int .i64 6] W K = K (.cptr [.str ⟨#[71, 97, 114, 98, 97, 103, 101]⟩]) W := fun W K => hs.idx (k := 6) rfl
 have q0 : ∀ W K, sem E (.bin .eql) [.str ⟨#[71, 48]⟩, .str ⟨#[71, 48]⟩] W K = K (.bool true) W := fun W K => streq
 have q1 : ∀ W K, sem E (.bin .eql) [.str ⟨#[71, 49, 97]⟩, .str ⟨#[71, 49, 97]⟩] W K = K (.bool true) W := fun W K => streq
 have q3 : ∀ W K, sem E (.bin .eql) [.str ⟨#[71, 49, 99]⟩, .str ⟨#[71, 49, 99]⟩] W K = K (.bool true) W := fun W K => streq
 have q6 : ∀ W K, sem E (.bin .eql) [.str ⟨#[71, 97, 114, 98, 97, 103, 101]⟩, .str ⟨#[71, 97, 114, 98, 97, 103, 101]⟩] W K = K (.bool true) W := fun W K => streq
 generalize nowGS 1 namesL = nv at *
 generalize V.str ⟨#[71, 48]⟩ = n0 at *
 generalize V.str ⟨#[71, 49, 97]⟩ = n1 at *
 generalize V.str ⟨#[71, 49, 99]⟩ = n3 at *
 generalize V.str ⟨#[71, 97, 114, 98, 97, 103, 101]⟩ = n6 at *
 simp (maxSteps:=9^9) (disch:=omega) only [BZ, ↓reduceIte, nE, BM, BD, ]
 have hGn : ofN (finD hG).1 (finD hG).2 = 96 := hG_ok.2
 have hFn : ofN (finD hF).1 (finD hF).2 = 16 := hF_ok.2
 have r0 : rf W1.nx 0 = W1.nx := rfl
 have hEx : ∀ {W2 : AW} {o : AObj}, Ex W1 W2 → rf W1.nx 0 < W2.nx → Ex W1 (W2.put (rf W1.nx 0) o) := fun {W2 o} h hx => ⟨h.cl.put hx, by rw [put_nx]; exact h.nx, fun x hx' => by rw [put_ne (by omega)]; exact h.get x hx'⟩
 obtain ⟨W2, hW2⟩ : ∃ W2, W2 = X W1 W1.nx [.row [.int .u8 0]] := ⟨_, rfl⟩
 have hE2 : Ex W1 W2 := by rw [hW2]; exact (Ex.refl hS.nw.ex.cl).X
 have n2 : W2.nx = W1.nx + 1 := by rw [hW2]; rfl
 have g2 : W2.get (rf W1.nx 0) = some (.row [.int .u8 0]) := by rw [hW2, X_get]; rfl
 rw [← hW2]
 clear hW2
 have hS2 := hS.exx hE2
 refine (look_c hP W2 (f := 96) (m := 96) g2 hS2.nw.st hS2.od (by rw [hGn]; decide) (by rw [hGn]; decide)).mono ?_
 rintro _ _ ⟨rfl, rfl⟩
 have hE3 := hEx (o := .row [.int .u8 96]) hE2 (by omega)
 have g3 : (W2.put (rf W1.nx 0) (.row [.int .u8 96])).get (rf W1.nx 0) = some (.row [.int .u8 96]) := put_at
 have n3' : (W2.put (rf W1.nx 0) (.row [.int .u8 96])).nx = W2.nx := put_nx
 generalize W2.put (rf W1.nx 0) (.row [.int .u8 96]) = W3 at hE3 g3 n3' ⊢
 have hS3 := hS.exx hE3
 simp (maxSteps:=9^9) (disch:=omega) only [BZ, ↓reduceIte, nE, ]
 refine (look_c hP W3 (f := 0) (m := 96) g3 hS3.nw.st hS3.od (by rw [hGn]; decide) (by rw [hGn]; decide)).mono ?_
 rintro _ _ ⟨rfl, rfl⟩
 have hE4 := hEx (o := .row [.int .u8 96]) hE3 (by omega)
 have g4 : (W3.put (rf W1.nx 0) (.row [.int .u8 96])).get (rf W1.nx 0) = some (.row [.int .u8 96]) := put_at
 have n4' : (W3.put (rf W1.nx 0) (.row [.int .u8 96])).nx = W3.nx := put_nx
 generalize W3.put (rf W1.nx 0) (.row [.int .u8 96]) = W4 at hE4 g4 n4' ⊢
 simp (maxSteps:=9^9) (disch:=omega) only [BZ, ↓reduceIte, nE, ]
 refine (hist_c hP W4 hF_d (by decide) hF_ok.1).mono ?_
 rintro _ W5 ⟨p', ra', rw', q', rfl, hT⟩
 have hE5 : Ex W1 W5 := hE4.trans hT.nw.ex
 have g5 : W5.get (rf W1.nx 0) = some (.row [.int .u8 96]) := by rw [hT.nw.ex.get _ (by omega)]; exact g4
 have n5' := hT.nw.ex.nx
 simp (maxSteps:=9^9) (disch:=omega) only [BS, BC, ↓reduceIte, nE, ]
 refine (look_c hP W5 (f := 16) (m := 112) g5 hT.nw.st hT.od (by rw [hFn]; decide) (by rw [hFn]; decide)).mono ?_
 rintro _ _ ⟨rfl, rfl⟩
 have hE6 := hEx (o := .row [.int .u8 112]) hE5 (by omega)
 have g6 : (W5.put (rf W1.nx 0) (.row [.int .u8 112])).get (rf W1.nx 0) = some (.row [.int .u8 112]) := put_at
 have n6' : (W5.put (rf W1.nx 0) (.row [.int .u8 112])).nx = W5.nx := put_nx
 generalize W5.put (rf W1.nx 0) (.row [.int .u8 112]) = W6 at hE6 g6 n6' ⊢
 simp (maxSteps:=9^9) (disch:=omega) only [BZ, ↓reduceIte, nE, ]
 refine pc (look_nil hP _ _ _) ?_
 have k1 : ((96 : Int) == 96) = true := rfl
 have k2 : ((0 : Int) == 0) = true := rfl
 have k3 : ((112 : Int) == 112) = true := rfl
 have k4 : ((16 : Int) == 16) = true := rfl
 have k5 : ((7 : Int) == 7) = true := rfl
 simp (maxSteps:=9^9) (disch:=omega) only [BS, e_seq, ↓reduceIte, nE, hl, k5]
 repeat (rw [guard_if]; simp (maxSteps:=9^9) (disch:=omega) only [BS, BC, ↓reduceIte, nE, BM, i0, i1, i3, i6, q0, q1, q3, q6])
 refine pc (names0_c hP _) ?_
 simp (maxSteps:=9^9) (disch:=omega) only [BS]
 repeat (rw [guard_if]; simp (maxSteps:=9^9) (disch:=omega) only [BS, BC, ↓reduceIte, nE, k1, k2, k3, k4])
 refine pc (flagsW_c hP _ g6) ?_
 simp (maxSteps:=9^9) (disch:=omega) only [BS]
 repeat (rw [guard_if]; simp (maxSteps:=9^9) (disch:=omega) only [BS, BC, ↓reduceIte, nE, k2, k3])
 refine pc (flagsW_nil hP _) ?_
 simp (maxSteps:=9^9) (disch:=omega) only [BS]
 repeat (rw [guard_if]; simp (maxSteps:=9^9) (disch:=omega) only [BS, BC, ↓reduceIte, nE, k2])
 refine pc (of_nil hP _ _) ?_
 simp (maxSteps:=9^9) (disch:=omega) only [BS]
 repeat (rw [guard_if]; simp (maxSteps:=9^9) (disch:=omega) only [BS, BC, ↓reduceIte, nE, k2])
 refine pc (faults_nil2 hP _ _) ?_
 simp (maxSteps:=9^9) (disch:=omega) only [BS]
 repeat (rw [guard_if]; simp (maxSteps:=9^9) (disch:=omega) only [BS, BC, ↓reduceIte, nE, k2])
 refine pc (cycles_nil hP _) ?_
 simp (maxSteps:=9^9) (disch:=omega) only [BS]
 repeat (rw [guard_if]; simp (maxSteps:=9^9) (disch:=omega) only [BS, BC, ↓reduceIte, nE, k2])
 refine pc (awake_c hP _) ?_
 simp (maxSteps:=9^9) (disch:=omega) only [BS, BC, ↓reduceIte, nE, ]
 exact ⟨_, rfl, _, W, .weak (weak_back hok rfl fun x hx => by have := hS.nw.ex.nx; rw [hE6.get x (by omega)]; exact hS.nw.ex.get x hx), lr _, rfl⟩
end Go.AL.S
namespace Go.AL.S
open Go Go.AL Go.RowKit
mutual
def Sh.tyB (P : Program) : Sh → TypeId → Bool
 | .bool, t => (match P.underlying t with | some .bool => true | _ => false) && decide (P.cellsOf t = 1)
 | .int k, t => (match P.underlying t with | some (.int k') => decide (k' = k) | _ => false) && decide (P.cellsOf t = 1)
 | .sl e, t => (match P.underlying t with | some (.slice te) => e.tyB P te && decide (0 < e.n) && decide (0 < P.bytesOf te) | _ => false) && decide (P.cellsOf t = 1)
 | .st l, t => (match P.underlying t with | some (.struct fs) => decide (P.cellsOf t = Sh.nL l) && Sh.tyLB P l 0 fs.toList | _ => false)
def Sh.tyLB (P : Program) : List Sh → Nat → List Field → Bool
 | [], _, [] => true
 | s :: l, off, f :: r => decide (f.offset = off) && s.tyB P f.type && Sh.tyLB P l (off + s.n) r
 | _, _, _ => false
end
mutual
theorem Sh.ty_of {P : Program} : ∀ {s : Sh} {t : TypeId}, s.tyB P t = true → s.Ty P t
 | .bool, t, h => by
  simp only [Sh.tyB, Bool.and_eq_true, decide_eq_true_eq] at h
  refine ⟨?_, h.2⟩
  have h1 := h.1
  split at h1
  ·assumption
  ·cases h1
 | .int k, t, h => by
  simp only [Sh.tyB, Bool.and_eq_true, decide_eq_true_eq] at h
  refine ⟨?_, h.2⟩
  have h1 := h.1
  split at h1
  ·rename_i k' hk; rw [decide_eq_true_eq] at h1; rw [hk, h1]
  ·cases h1
 | .sl e, t, h => by
  simp only [Sh.tyB, Bool.and_eq_true, decide_eq_true_eq] at h
  have h1 := h.1
  split at h1
  ·rename_i te hk
   simp only [Bool.and_eq_true, decide_eq_true_eq] at h1
   exact ⟨te, hk, Sh.ty_of h1.1.1, h1.1.2, h.2, h1.2⟩
  ·cases h1
 | .st l, t, h => by
  simp only [Sh.tyB] at h
  split at h
  ·rename_i fs hk
   simp only [Bool.and_eq_true, decide_eq_true_eq] at h
   exact .inl ⟨fs, hk, h.1, Sh.tyL_of h.2⟩
  ·cases h
theorem Sh.tyL_of {P : Program} : ∀ {l : List Sh} {off : Nat} {fs : List Field}, Sh.tyLB P l off fs = true → Sh.TyL P l off fs
 | [], _, [], _ => rfl
 | s :: l, off, f :: r, h => by
  simp only [Sh.tyLB, Bool.and_eq_true, decide_eq_true_eq] at h
  exact ⟨f, r, rfl, h.1.1, Sh.ty_of h.1.2, Sh.tyL_of h.2⟩
 | [], _, _ :: _, h => by simp [Sh.tyLB] at h
 | _ :: _, _, [], h => by simp [Sh.tyLB] at h
end
section
variable {H : Type} {enc : TypeId × Value → H} {P : Program} {W : World}
end
end Go.AL.S
