/- What the program's functions do, part 4. Conditions: none. -/
import Derived.Test.YtpclhmihehcniaaGreatDoorBc
import Derived.OpenShut
import Derived.ChangeArms
import Derived.ReadAgain
set_option maxRecDepth 100000
set_option maxHeartbeats 2000000
namespace Go.AL.S
open Go Go.AL Go.Proofs
variable {E : Env}
theorem cells_buf {b : Bool} {r s n : Nat} : (V.buf b r s n).cells = [.buf b r s n] := id rfl
theorem one_buf {b : Bool} {r s n : Nat} : (V.buf b r s n).one = true := id rfl
theorem bs1 {W : AW} {K : V → AW → Prop} {a : Int} : sem E (.bslice 1 1 (.int .u16 0) [0]) [.int .u16 a] W K = K (.sl 1 true [.int .u16 a]) W := by
  simp [sem, rsem, tsem, fillE, V.cells]
theorem nowG.cells1 {W : AW} {h : V} {xs : List V} {s lo : Nat} (hn : nowG W h xs s lo) : h.cells = [h] ∧ h.one = true := by
  rcases hn with ⟨rfl, rfl⟩ | ⟨r, h1, h2, rfl, h4, h5⟩
  · exact ⟨rfl, rfl⟩
  · exact ⟨rfl, rfl⟩
theorem Bd.lo {W W1 : AW} {p ra rw q g m lo : Nat} {s : Str} {os : Ods} {hn hn' : V} {P P' : List Ek} (h : Bd W p ra rw q g m s os hn P) (hl : p < lo ∧ ra < lo ∧ rw < lo ∧ q < lo ∧ g < lo ∧ m < lo) (gne : g ≠ p ∧ g ≠ q ∧ g ≠ ra ∧ g ≠ rw) (hn1 : W.nx ≤ W1.nx) (hlo : lo ≤ W.nx) (hx : ∀ x, x < lo → x ≠ g → x ≠ m → W1.get x = W.get x)
    (hg : W1.get g = some (.row [hn', .map m])) (hm : W1.get m = some (gmap P')) (hk : ∀ x ∈ P', ekOk x) : Bd W1 p ra rw q g m s os hn' P' := by
  obtain ⟨n1, n2, n3⟩ := h.nem
  obtain ⟨e1, e2, e3, e4⟩ := gne
  obtain ⟨l1, l2, l3, l4, l5, l6⟩ := hl
  exact ⟨h.st.by hn1 (hx _ l1 e1.symm n1) (hx _ l2 e3.symm h.mra.symm) (hx _ l3 e4.symm h.mrw.symm), h.od.by hn1 (hx _ l4 e2.symm n2), hg, hm, by omega, by omega, h.mra, h.mrw, hk⟩
def nodeP (t : Tx) : List Int := if t.st = 2 then [] else [t.id]
theorem nodesR_eq (s : Str) : nodesR s = s.flatMap nodeP := by
  induction s with
  | nil => rfl
  | cons t s ih =>
    simp only [nodesR, List.filter_cons, List.flatMap_cons, nodeP] at ih ⊢
    rw [← ih]
    by_cases h : t.st = 2
    · simp [h]
    · simp [h]
/-- One transaction. -/
theorem b3_go (hP : E.P = Tryz.prog) {W1 : AW} {p ra rw q g m b2 b3 b5 b7 lo : Nat} {s : Str} {os : Ods} {hn : V} {P : List Ek} {N : List Int} (hC : Cl W1) (h : Bd W1 p ra rw q g m s os hn P) (hnow : nowG W1 hn (intsV N) 1 lo) (hlo : lo ≤ W1.nx) (hgl : g < lo) (hml : m < lo) (hst : p < lo ∧ ra < lo ∧ rw < lo ∧ q < lo) (gne : g ≠ p ∧ g ≠ q ∧ g ≠ ra ∧ g ≠ rw) (hN : N.length < 2 ^ 20) {t : Tx} (ht : t.ok)
    (hPl : (P ++ txnP s os t).length < 2 ^ 40) {A : AFr} {Q : Exit → AFr → AW → Prop} (a2 : A 2 = some (.ptr b2 0)) (a3 : A 3 = some (.ptr b3 0)) (a5 : A 5 = some (.ptr b5 0)) (a7 : A 7 = some (.ptr b7 0))
    (g2 : W1.get b2 = some (.row [.ptr p 0])) (g3 : W1.get b3 = some (.row [.ptr q 0])) (g5 : W1.get b5 = some (.row [.ptr p 0, .ptr q 0, .ptr g 0])) (g7 : W1.get b7 = some (.row [.int .u16 t.id, .int .u8 t.client, msV t.ms, lsV t.ls, .int .u8 t.st]))
    (l2 : b2 < lo) (l3 : b3 < lo) (l5 : b5 < lo) (l7 : b7 < W1.nx) (n2 : b2 ≠ g) (n3 : b3 ≠ g) (n7 : b7 ≠ g)
    (hQ : ∀ A' W' hn', Cl W' → W1.nx ≤ W'.nx → (∀ x, x < W1.nx → x ≠ m → x ≠ g → (x < lo ∨ ∀ ys, W1.get x ≠ some (.buf true 1 ys)) → W'.get x = W1.get x) → W'.get g = some (.row [hn', .map m]) → W'.get m = some (gmap (P ++ txnP s os t)) → nowG W' hn' (intsV (N ++ nodeP t)) 1 lo → Q .normal A' W') : awp E c_build_B3 Q A W1 := by
  have hbv : ∀ x : V, V.agg [.int .u16 t.id, .int .u8 t.client, msV t.ms, lsV t.ls, .int .u8 t.st] = t.V := fun _ => rfl
  have n5 : b5 ≠ g := by rintro rfl; have := g5.symm.trans h.hg; simp at this
  simp only [c_build_B3, BS, BC, e_seq, ↓reduceIte, BM, BD, Nat.reduceAdd, Nat.reduceLeDiff, a7, g7]
  refine pc (alive_c hP _ t) ?_
  by_cases hs2 : t.st = 2
  · simp only [BS, cond_if, ↓reduceIte, BD, show decide (t.st ≠ 2) = false by simp [hs2]]
    have e1 : txnP s os t = [] := by simp [txnP, hs2]
    have e2 : nodeP t = [] := by simp [nodeP, hs2]
    rw [e1, e2, List.append_nil, List.append_nil] at hQ
    exact hQ _ _ hn hC (Nat.le_refl _) (fun _ _ _ _ _ => rfl) h.hg h.hm hnow
  · have e1 : txnP s os t = (readsR t).flatMap (rf1 s os t.id) := by simp only [txnP, if_neg hs2]; rfl
    have e2 : nodeP t = [t.id] := by simp [nodeP, hs2]
    rw [e1] at hQ hPl
    rw [e2] at hQ
    have hg5 := h.hg
    have ones : (V.int IntKind.u16 t.id).cells.all V.one = true := rfl
    have hsn : intsV (N ++ [t.id]) = intsV N ++ [.int .u16 t.id] := by simp [intsV]
    have hlen : (intsV N).length = N.length := ints_len N
    -- what is left, behind the append
    have fin : ∀ (A' : AFr) (h' : V) (W' : AW), A' 2 = some (.ptr b2 0) → A' 3 = some (.ptr b3 0) → A' 5 = some (.ptr b5 0) → A' 7 = some (.ptr b7 0) → nowG W' h' (intsV N ++ [.int .u16 t.id]) 1 lo → Cl W' → W1.nx ≤ W'.nx → (∀ y, y < W1.nx → (y < lo ∨ ∀ ys, W1.get y ≠ some (.buf true 1 ys)) → W'.get y = W1.get y) →
        awp E (.seq (.reg [⟨(some 48), .load true 5, [.t 7], none⟩, ⟨(some 49), .call 36, [.t 48], none⟩, ⟨(some 50), .len 1 0, [.t 49], none⟩, ⟨(some 51), .mov, [.c (.int .i64 0)], none⟩]) (.block 4 (.loop c_build_B3_0))) (blockQ 3 Q) A' (W'.put g (.row [h', .map m])) := by
      intro A' h' W' q2 q3 q5 q7 gN gC gn gg
      have hgm : g ≠ m := h.nem.2.2
      have hB : Bd (W'.put g (.row [h', .map m])) p ra rw q g m s os h' P :=
        h.lo (lo := lo) ⟨hst.1, hst.2.1, hst.2.2.1, hst.2.2.2, hgl, hml⟩ gne (by rw [put_nx]; exact gn) hlo (fun x hx hxg _ => by rw [put_ne hxg]; exact gg x (by omega) (.inl hx)) put_at (by rw [put_ne hgm.symm, gg _ h.lm (.inl hml)]; exact h.hm) h.pk
      have k2 : (W'.put g (.row [h', .map m])).get b2 = some (.row [.ptr p 0]) := by rw [put_ne n2, gg _ (by omega) (.inl l2)]; exact g2
      have k3 : (W'.put g (.row [h', .map m])).get b3 = some (.row [.ptr q 0]) := by rw [put_ne n3, gg _ (by omega) (.inl l3)]; exact g3
      have k5 : (W'.put g (.row [h', .map m])).get b5 = some (.row [.ptr p 0, .ptr q 0, .ptr g 0]) := by rw [put_ne n5, gg _ (by omega) (.inl l5)]; exact g5
      have k7 : (W'.put g (.row [h', .map m])).get b7 = some (.row [.int .u16 t.id, .int .u8 t.client, msV t.ms, lsV t.ls, .int .u8 t.st]) := by rw [put_ne n7, gg _ l7 (.inr fun ys => by rw [g7]; simp)]; exact g7
      have hsl := nowGS_S 2 ((readsR t).map rdV)
      simp only [BS, BC, e_seq, ↓reduceIte, BM, BD, Nat.reduceAdd, Nat.reduceLeDiff, q7, k7]
      refine pc (reads_c hP _ ht) ?_
      simp only [BS, ↓reduceIte, hsl.len, List.length_map]
      rw [e_loop]
      refine rds_go hP (gC.put (by omega)) hB ht hPl (b2 := b2) (b3 := b3) (b5 := b5) (b7 := b7) q2 q3 q5 q7 rfl rfl rfl k2 k3 k5 k7 (by rw [put_nx]; omega) (by rw [put_nx]; omega) (by rw [put_nx]; omega) (by rw [put_nx]; omega) ?_
      intro A'' W'' fC fn ff fm
      rw [put_nx] at fn
      simp only [BS, ↓reduceIte]
      have hgn : g < W'.nx := by omega
      refine hQ _ W'' h' fC (by omega) (fun x hx hxm hxg hc => ?_) ?_ fm ?_
      · rw [ff x (by rw [put_nx]; omega) hxm, put_ne hxg]; exact gg x hx hc
      · rw [ff g (by rw [put_nx]; omega) hgm, put_at]
      · rw [hsn]
        refine gN.to fn fun r hr1 hr2 _ => ?_
        rw [ff r (by rw [put_nx]; omega) (by omega), put_ne (by omega)]
    have hlen2 : ((intsV N).length + 1) * 2 ≤ 2 ^ 46 := by rw [hlen]; omega
    simp only [BS, BC, e_seq, cond_if, ↓reduceIte, Nat.reduceEqDiff, BM, BD, show decide (t.st ≠ 2) = true by simp [hs2], a5, a7, g5, g7, hg5, bs1]
    constructor
    · refine app_now (lo := lo) hnow hC hlo (by decide) ones hlen2 ?_
      intro h' W' gN gC gn gg1 gg2
      have hg' : W'.get g = some (.row [hn, .map m]) := by rw [gg2 _ hgl]; exact hg5
      simp only [BS, ↓reduceIte, Nat.reduceEqDiff, BM, BD, Nat.reduceAdd, Nat.reduceLeDiff, gN.cells1.1, gN.cells1.2, hg']
      exact fin _ h' W' a2 a3 a5 a7 gN gC gn fun y hy hc => hc.elim (gg2 y) (gg1 y hy)
    · refine app_now (lo := lo) hnow hC hlo (by decide) ones hlen2 ?_
      intro h' W' gN gC gn gg1 gg2
      have hg' : W'.get g = some (.row [hn, .map m]) := by rw [gg2 _ hgl]; exact hg5
      have h5' : W'.get b5 = some (.row [.ptr p 0, .ptr q 0, .ptr g 0]) := by rw [gg2 _ l5]; exact g5
      simp only [BS, BC, ↓reduceIte, Nat.reduceEqDiff, BM, BD, Nat.reduceAdd, Nat.reduceLeDiff, gN.cells1.1, gN.cells1.2, hg', h5']
      exact fin _ h' W' a2 a3 a5 a7 gN gC gn fun y hy hc => hc.elim (gg2 y) (gg1 y hy)
end Go.AL.S
set_option maxRecDepth 100000
set_option maxHeartbeats 2000000
namespace Go.AL.S
open Go Go.AL Go.Proofs
variable {E : Env}
/-- A graph that was built. -/
structure Gr (W : AW) (g m : Nat) (h : V) (P : List Ek) (N : List Int) (lo : Nat) : Prop where
  hg : W.get g = some (.row [h, .map m])
  hm : W.get m = some (gmap P)
  now : nowG W h (intsV N) 1 lo
  lg : g < W.nx
  lm : m < W.nx
  gg : lo ≤ g
  gm : lo ≤ m
  pk : ∀ x ∈ P, ekOk x
  pl : P.length < 2 ^ 32
  nl : N.length < 2 ^ 20
theorem edgeP_len (f t k : Int) : (edgeP f t k).length ≤ 1 := by unfold edgeP; split <;> simp
theorem lastP_len (s : Str) (b : Int) (r : Rd) : (lastP s b r).length ≤ 1 := by
  unfold lastP
  split
  · split
    · exact edgeP_len _ _ _
    · simp
  · simp
theorem nextP_len (s : Str) (os : Ods) (b : Int) (r : Rd) : (nextP s os b r).length ≤ 1 := by
  unfold nextP
  split
  · split
    · exact edgeP_len _ _ _
    · simp
  · simp
theorem flat_len {α β : Type} {f : α → List β} {n : Nat} : ∀ {l : List α}, (∀ x ∈ l, (f x).length ≤ n) → (l.flatMap f).length ≤ l.length * n
  | [], _ => by simp
  | x :: l, h => by
    have h1 := h x (by simp)
    have h2 := flat_len (l := l) (f := f) (n := n) fun y hy => h y (by simp [hy])
    rw [List.flatMap_cons, List.length_append, List.length_cons, Nat.add_mul]; omega
theorem txnP_len {s : Str} {os : Ods} {t : Tx} (h : t.ok) : (txnP s os t).length ≤ 16 := by
  unfold txnP
  split
  · simp
  · have := flat_len (f := fun r => if countsR s os r = true then readP s os t.id r else []) (n := 2) (l := readsR t) fun r _ => by
      split
      · have h1 := lastP_len s t.id r
        have h2 := nextP_len s os t.id r
        rw [readP, List.length_append]; omega
      · simp
    have h8 := readsR_len h
    omega
theorem keyP_len {W : AW} {q : Nat} {s : Str} {os : Ods} (h : Od W q os) (k : Int) : (keyP s os k).length ≤ 32 := by
  have := flat_len (f := kf s k) (n := 1) (l := (keyO os k).zip (keyO os k).tail) fun x _ => by
    unfold kf
    split
    · exact edgeP_len _ _ _
    · simp
  have h1 := (keyO_ok h k).1
  have h2 : ((keyO os k).zip (keyO os k).tail).length ≤ 32 := by rw [List.length_zip]; omega
  have h3 : keyP s os k = ((keyO os k).zip (keyO os k).tail).flatMap (kf s k) := rfl
  rw [h3]; omega
theorem buildP_len {W : AW} {q : Nat} {s : Str} {os : Ods} (hs : SOk s) (h : Od W q os) : (buildP s os).length < 2 ^ 21 := by
  have h1 := flat_len (f := fun (k : Nat) => keyP s os (k : Int)) (n := 32) (l := List.range 8) fun k _ => keyP_len h k
  have h2 := flat_len (f := txnP s os) (n := 16) (l := s) fun t ht => txnP_len (hs.ok t ht)
  have h3 := st_len hs
  have h4 : (List.range 8).length = 8 := rfl
  rw [buildP, keysP, List.length_append]
  omega
theorem buildP_ok {s : Str} {os : Ods} (hs : SOk s) : ∀ x ∈ buildP s os, ekOk x := by
  intro x hx
  rcases List.mem_append.1 hx with hx | hx
  · obtain ⟨k, _, hx⟩ := List.mem_flatMap.1 hx
    obtain ⟨z, _, hz⟩ := List.mem_flatMap.1 hx
    exact kf_ok hs _ z x hz
  · obtain ⟨t, ht, hx⟩ := List.mem_flatMap.1 hx
    have hto := hs.ok t ht
    unfold txnP at hx
    split at hx
    · simp at hx
    · obtain ⟨r, _, hr⟩ := List.mem_flatMap.1 hx
      exact rf1_ok hs os ⟨hto.id0, hto.id1⟩ r x hr
theorem nodes_len (s : Str) : (nodesR s).length ≤ s.length := by
  simp only [nodesR, List.length_map]; exact List.length_filter_le _ _
theorem prefix_ok {s : Str} {os : Ods} (hs : SOk s) {P' : List Ek} (h : P' <+: buildP s os) : ∀ x ∈ P', ekOk x := fun x hx => buildP_ok hs x (h.subset hx)
theorem u8add1 {k : Nat} (h : k < 100) : IntKind.u8.wrap ((k : Int) + 1) = ((k + 1 : Nat) : Int) := by
  simp only [IntKind.wrap, IntKind.signed, IntKind.bits]; simp; omega
theorem build_c (hP : E.P = Tryz.prog) (W : AW) {p ra rw q : Nat} {s : Str} {os : Ods} (hS : St W p ra rw s) (hO : Od W q os) :
    ACalls E 12 [.ptr p 0, .ptr q 0] W fun Y W' => ∃ g m h, Y = .ptr g 0 ∧ Gr W' g m h (buildP s os) (nodesR s) W.nx ∧ Ex W W' := by
  refine ACalls.of hP Tryz.func12 ok_builde (by simp) fun _ hok => ?_
  refine awp_start hok ?_
  have hlp := hS.lp
  have hla := hS.la
  have hlw := hS.lw
  have hlq := hO.lq
  have hbl := buildP_len hS.ok hO
  have hsl := st_len hS.ok
  simp only [c_build, BS, BC, e_seq, cond_if, guard_if, ↓reduceIte, Nat.reduceEqDiff, BM, BD, Nat.reduceAdd, Nat.reduceLeDiff, Nat.reduceLT]
  rw [e_loop]
  obtain ⟨W0, hW0⟩ : ∃ W0, W0 = X W W.nx [.row [.ptr p 0], .row [.ptr q 0], .map [] 0, .row [.nilsl, .map (rf W.nx 2)], .row [.ptr p 0, .ptr q 0, .ptr (rf W.nx 3) 0]] := ⟨_, rfl⟩
  rw [← hW0]
  have hE0 : Ex W W0 := by rw [hW0]; exact .x0
  have hn0 : W0.nx = W.nx + 5 := by rw [hW0]; rfl
  have r0 : rf W.nx 0 = W.nx := rfl
  have r1 : rf W.nx 1 = W.nx + 1 := rfl
  have r2 : rf W.nx 2 = W.nx + 2 := rfl
  have r3 : rf W.nx 3 = W.nx + 3 := rfl
  have r4 : rf W.nx 4 = W.nx + 4 := rfl
  have w0 : W0.get (rf W.nx 0) = some (.row [.ptr p 0]) := by rw [hW0, X_get]; rfl
  have w1 : W0.get (rf W.nx 1) = some (.row [.ptr q 0]) := by rw [hW0, X_get]; rfl
  have w2 : W0.get (rf W.nx 2) = some (gmap []) := by rw [hW0, X_get]; rfl
  have w3 : W0.get (rf W.nx 3) = some (.row [.nilsl, .map (rf W.nx 2)]) := by rw [hW0, X_get]; rfl
  have w4 : W0.get (rf W.nx 4) = some (.row [.ptr p 0, .ptr q 0, .ptr (rf W.nx 3) 0]) := by rw [hW0, X_get]; rfl
  have hB0 : Bd W0 p ra rw q (rf W.nx 3) (rf W.nx 2) s os .nilsl [] := ⟨hS.ex hE0, hO.ex hE0, w3, w2, by omega, by omega, by omega, by omega, by simp⟩
  clear hW0
  refine ALoop.go (B := awp E _) (fun h => awp_mono _ h) (fun (k : Nat) A1 W1 => A1 2 = some (.ptr (rf W.nx 0) 0) ∧ A1 3 = some (.ptr (rf W.nx 1) 0) ∧ A1 5 = some (.ptr (rf W.nx 4) 0) ∧ A1 22 = some (.int .u8 k) ∧ k ≤ 8 ∧ W1 = W0.put (rf W.nx 2) (gmap ((List.range k).flatMap fun (j : Nat) => keyP s os (j : Int)))) (fun k => 8 - k) 0
    ⟨rfl, rfl, rfl, rfl, Nat.zero_le _, (put_same w2).symm⟩ ?_
  rintro k A1 W1 ⟨q2, q3, q5, q22, qk, rfl⟩ _
  have hpre : ∀ j, j ≤ 8 → ((List.range j).flatMap fun (j : Nat) => keyP s os (j : Int)) <+: keysP s os := by
    intro j hj
    have : List.range 8 = List.range j ++ (List.range (8 - j)).map (j + ·) := by rw [← List.range_add]; congr 1; omega
    rw [keysP, this, List.flatMap_append]; exact List.prefix_append _ _
  have hkb : keysP s os <+: buildP s os := List.prefix_append _ _
  have hB1 : Bd (W0.put (rf W.nx 2) (gmap ((List.range k).flatMap fun (j : Nat) => keyP s os (j : Int)))) p ra rw q (rf W.nx 3) (rf W.nx 2) s os .nilsl ((List.range k).flatMap fun (j : Nat) => keyP s os (j : Int)) :=
    hB0.to (by rw [put_nx]; omega) (fun x _ hx => put_ne hx) put_at (prefix_ok hS.ok ((hpre k qk).trans hkb))
  have v4 : (W0.put (rf W.nx 2) (gmap ((List.range k).flatMap fun (j : Nat) => keyP s os (j : Int)))).get (rf W.nx 4) = some (.row [.ptr p 0, .ptr q 0, .ptr (rf W.nx 3) 0]) := by rw [put_ne (by omega)]; exact w4
  by_cases hk : k < 8
  · have hk' : decide ((k : Int) < 8) = true := by simp; omega
    have hst : ((List.range (k + 1)).flatMap fun (j : Nat) => keyP s os (j : Int)) = ((List.range k).flatMap fun (j : Nat) => keyP s os (j : Int)) ++ keyP s os k := by
      rw [List.range_succ, List.flatMap_append]; simp [List.flatMap]
    have hle := ((hpre (k + 1) hk).trans hkb).length_le
    simp (maxSteps := 2000000) (disch := omega) only [c_build_0, BS, BC, e_seq, cond_if, ↓reduceIte, Nat.reduceEqDiff, BM, BD, Nat.reduceAdd, Nat.reduceLeDiff, q5, q22, hk', v4]
    refine (key_c hP _ hB1 k (by omega) (by omega) (by rw [← hst]; omega)).mono ?_
    rintro _ W3 ⟨rfl, rfl⟩
    simp (maxSteps := 2000000) (disch := omega) only [BS, ↓reduceIte, Nat.reduceEqDiff, q2, q3, q5, q22, u8add1]
    refine ⟨k + 1, ⟨(by first | trivial | rfl | omega), (by first | trivial | rfl | omega), (by first | trivial | rfl | omega), (by first | trivial | rfl | omega), hk, ?_⟩, by omega, by simp only [put_nx]; omega⟩
    rw [put_put, hst]
  · obtain rfl : k = 8 := by omega
    have hk' : decide (((8 : Nat) : Int) < 8) = false := by decide
    obtain ⟨W1, hW1⟩ : ∃ W1, W1 = W0.put (rf W.nx 2) (gmap ((List.range 8).flatMap fun (j : Nat) => keyP s os (j : Int))) := ⟨_, rfl⟩
    rw [← hW1] at hB1 v4 ⊢
    have hn1 : W1.nx = W.nx + 5 := by rw [hW1, put_nx]; exact hn0
    have hg1 : ∀ x, x ≠ rf W.nx 2 → W1.get x = W0.get x := fun x hx => by rw [hW1, put_ne hx]
    have v0 : W1.get (rf W.nx 0) = some (.row [.ptr p 0]) := by rw [hg1 _ (by omega)]; exact w0
    have v1 : W1.get (rf W.nx 1) = some (.row [.ptr q 0]) := by rw [hg1 _ (by omega)]; exact w1
    have hC1 : Cl W1 := by rw [hW1]; exact hE0.cl.put (by omega)
    have hE1 : Ex W W1 := ⟨hC1, by omega, fun x hx => by rw [hg1 _ (by omega)]; exact hE0.get x hx⟩
    clear hW1
    simp (maxSteps := 2000000) (disch := omega) only [c_build_0, BS, BC, e_seq, cond_if, ↓reduceIte, Nat.reduceEqDiff, BM, q2, q22, hk', v0]
    refine (all_c hP _ p).mono ?_
    rintro _ W2 ⟨rfl, rfl⟩
    simp (maxSteps := 2000000) (disch := omega) only [BS]
    obtain ⟨W2, hW2⟩ : ∃ W2, W2 = W1.alloc (.row [.ptr p 0]) := ⟨_, rfl⟩
    rw [← hW2]
    have hn2 : W2.nx = W.nx + 6 := by rw [hW2, alloc_nx, hn1]
    have hq2 : W2.get W1.nx = some (.row [.ptr p 0]) := by rw [hW2, alloc_at]
    have hE12 : Ex W1 W2 := ⟨fun x hx => by rw [hW2, al_gets]; rw [hW2, alloc_nx] at hx; rw [if_neg (by omega)]; exact hC1 x (by omega), by omega, fun x hx => by rw [hW2, alloc_lt hx]⟩
    have hB2 := hB1.ex hE12
    have u0 := (hE12.get _ (by omega : rf W.nx 0 < W1.nx)).trans v0
    have u1 := (hE12.get _ (by omega : rf W.nx 1 < W1.nx)).trans v1
    have u4 := (hE12.get _ (by omega : rf W.nx 4 < W1.nx)).trans v4
    have hE2 := hE1.trans hE12
    have hb8 : keysP s os = (List.range 8).flatMap fun (j : Nat) => keyP s os (j : Int) := rfl
    rw [← hb8] at hB2
    have hpreb : ∀ i, (keysP s os ++ (s.take i).flatMap (txnP s os)) <+: buildP s os := fun i => by
      refine List.prefix_append_right_inj _ |>.2 ?_
      generalize txnP s os = f
      conv => rhs; rw [← List.take_append_drop i s, List.flatMap_append]
      exact List.prefix_append _ _
    refine range_all hP (q := W1.nx) (s := s) (W0 := W2) (by simp only [ev_t]; exact if_pos rfl) hq2 (by omega) hE2.cl (hS.ex hE2)
      (fun i W' => Cl W' ∧ (∀ x, x < W2.nx → x ≠ rf W.nx 2 → x ≠ rf W.nx 3 → W'.get x = W2.get x) ∧ W'.get (rf W.nx 2) = some (gmap (keysP s os ++ (s.take i).flatMap (txnP s os))) ∧ ∃ hn, W'.get (rf W.nx 3) = some (.row [hn, .map (rf W.nx 2)]) ∧ nowG W' hn (intsV ((s.take i).flatMap nodeP)) 1 W2.nx) ?_ ?_ ?_ ?_
    · intro W' hE
      refine ⟨hE.cl, fun x hx _ _ => hE.get x hx, ?_, .nilsl, ?_, .inl ⟨rfl, rfl⟩⟩
      · rw [hE.get _ (by omega), hB2.hm]; simp
      · rw [hE.get _ (by omega), hB2.hg]
    · rintro i W' ⟨j0, j1, _⟩
      exact ⟨j0, j1 _ (by omega) (by omega) (by omega), j1 _ (by omega) (by omega) (by omega), j1 _ (by omega) (by omega) (by omega)⟩
    · rintro i hi W' ⟨j0, j1, j2, hn, j3, j4⟩ hl hnn
      have hto := hS.ok.ok s[i] (List.getElem_mem hi)
      have st1 := flat_snoc (f := txnP s os) hi
      have st2 := flat_snoc (f := nodeP) hi
      have hpi := hpreb (i + 1)
      rw [st1, ← List.append_assoc] at hpi
      have hnl : ((s.take i).flatMap nodeP).length < 2 ^ 20 := by
        have := flat_len (f := nodeP) (n := 1) (l := s.take i) fun t _ => by unfold nodeP; split <;> simp
        have h2 : (s.take i).length ≤ s.length := by simp; omega
        omega
      generalize s[i] = t at hto st1 st2 hpi
      refine awp_startC j0 ?_
      simp (maxSteps := 2000000) (disch := omega) only [BS, BC, ↓reduceIte, Nat.reduceEqDiff, BM, BD, Nat.reduceAdd, Nat.reduceLeDiff, Nat.reduceLT, msV_one, lsV_one, Tx.V, hl]
      refine ⟨trivial, ?_⟩
      have hB : Bd (X (W'.put W2.nx (.loop .busy none)) W'.nx [.row [.int .u16 t.id, .int .u8 t.client, msV t.ms, lsV t.ls, .int .u8 t.st]]) p ra rw q (rf W.nx 3) (rf W.nx 2) s os hn (keysP s os ++ (s.take i).flatMap (txnP s os)) :=
        hB2.lo (lo := W2.nx) (by omega) (by omega) (by simp only [X_nx, rf]; omega) (Nat.le_refl _) (fun x hx h3 h2 => by rw [X_old (by omega), put_ne (by omega)]; exact j1 x hx h2 h3) (by rw [X_old (by omega), put_ne (by omega)]; exact j3) (by rw [X_old (by omega), put_ne (by omega)]; exact j2) (prefix_ok hS.ok (hpreb i))
      refine b3_go hP (lo := W2.nx) (b2 := rf W.nx 0) (b3 := rf W.nx 1) (b5 := rf W.nx 4) (b7 := rf W'.nx 0) (N := (s.take i).flatMap nodeP) (t := t) Cl.X hB (j4.to (by simp only [X_nx, rf]; omega) fun r h1 h2 ⟨ys, hy⟩ => by rw [X_old h2, put_ne (by rintro rfl; rw [hl] at hy; cases hy)]) (by simp only [X_nx, rf]; omega) (by omega) (by omega) (by omega) (by omega) hnl hto (by have := hpi.length_le; omega) q2 q3 q5 rfl ?_ ?_ ?_ (by rw [X_get]; rfl) (by omega) (by omega) (by omega) (by simp [X_nx, rf]) (by omega) (by omega) (by simp only [rf]; omega) ?_
      · rw [X_old (by omega), put_ne (by omega), j1 _ (by omega) (by omega) (by omega)]; exact u0
      · rw [X_old (by omega), put_ne (by omega), j1 _ (by omega) (by omega) (by omega)]; exact u1
      · rw [X_old (by omega), put_ne (by omega), j1 _ (by omega) (by omega) (by omega)]; exact u4
      intro A'' W'' hn' fC fn ff fg fm fnow
      simp only [X_nx, rf, List.length_cons, List.length_nil] at fn
      have hloop : W''.get W2.nx = some (.loop .busy none) := by
        rw [ff W2.nx (by simp only [X_nx, rf]; omega) (by omega) (by omega) (.inr fun ys => by rw [X_old (by omega), put_at]; simp), X_old (by omega), put_at]
      refine ⟨rfl, hloop, by omega, fC.put (by omega), fun x hx h2 h3 => ?_, ?_, hn', ?_, ?_⟩
      · rw [put_ne (by omega), ff x (by simp only [X_nx, rf]; omega) h2 h3 (.inl hx), X_old (by omega), put_ne (by omega)]
        exact j1 x hx h2 h3
      · rw [put_ne (by omega), fm, st1, List.append_assoc]
      · rw [put_ne (by omega), fg]
      · rw [st2]
        exact fnow.to (by rw [put_nx]; exact Nat.le_refl _) fun r h1 h2 ⟨ys, hy⟩ => put_ne (by rintro rfl; rw [hloop] at hy; cases hy)
    · rintro W' ⟨j0, j1, j2, hn, j3, j4⟩ hl hnn
      rw [List.take_length] at j2 j4
      rw [← nodesR_eq] at j4
      have k4 : (W'.put W2.nx (.loop .exhausted none)).get (rf W.nx 4) = some (.row [.ptr p 0, .ptr q 0, .ptr (rf W.nx 3) 0]) := by rw [put_ne (by omega), j1 _ (by omega) (by omega) (by omega)]; exact u4
      simp (maxSteps := 2000000) (disch := omega) only [BS, BC, e_seq, ↓reduceIte, Nat.reduceEqDiff, BM, BD, q5, k4]
      have hnl := nodes_len s
      have hbp : buildP s os = keysP s os ++ s.flatMap (txnP s os) := rfl
      refine ⟨_, rfl, _, _, .weak weak_id, by rw [put_nx]; omega, rf W.nx 3, rf W.nx 2, hn, rfl, ⟨by rw [put_ne (by omega)]; exact j3, by rw [put_ne (by omega)]; exact j2, ?_, by rw [put_nx]; omega, by rw [put_nx]; omega, by omega, by omega, buildP_ok hS.ok, by omega, by omega⟩, j0.put (by omega), by rw [put_nx]; omega, fun x hx => by rw [put_ne (by omega), j1 x (by omega) (by omega) (by omega)]; exact hE2.get x hx⟩
      rcases j4 with j4 | ⟨r, h1, h2, h3, h4, h5⟩
      · exact .inl j4
      · exact .inr ⟨r, by omega, by rw [put_nx]; exact h2, h3, h4, by rw [put_ne (by rintro rfl; rw [hl] at h5; cases h5)]; exact h5⟩
end Go.AL.S
set_option maxRecDepth 100000
set_option maxHeartbeats 2000000
namespace Go.AL.S
open Go Go.AL Go.AL.SE Go.Proofs
/- (*umpire/graph.Graph).Nodes -/
def c_nodes : AC := (AC.seq (AC.reg [⟨some 2, .mov, [.c (.nilsl)], none⟩]) (AC.seq (AC.seq (AC.reg [⟨some 3, .mov, [.t 0], none⟩,⟨some 4, .eqn false 0, [.t 3, .c (.nilptr)], none⟩]) (AC.cond (.t 4) (AC.seq (AC.reg [⟨some 2, .mov, [.c (.nilsl)], none⟩]) AC.ret) AC.skip)) (AC.seq (AC.reg [⟨some 5, .mov, [.t 0], none⟩,⟨some 6, .nilck, [.t 5], none⟩,⟨some 7, .fld 0, [.t 6], none⟩,⟨some 8, .load false 1, [.t 7], none⟩,⟨some 9, .call 44, [.t 8], none⟩,⟨some 2, .mov, [.t 9], none⟩]) AC.ret)))
def r_nodes : AC × List RT × Nat := (c_nodes, [.tmp 2], 10)
theorem ok_nodese : compF Tryz.prog Tryz.f15 ⟨false, false, []⟩ = some r_nodes := by kernel_rfl
/- (*umpire/graph.Graph).sorted -/
def c_sorted : AC := (AC.seq (AC.reg [⟨some 2, .mov, [.c (.nilsl)], none⟩]) (AC.seq (AC.seq (AC.reg [⟨some 3, .mov, [.t 0], none⟩,⟨some 4, .eqn false 0, [.t 3, .c (.nilptr)], none⟩]) (AC.cond (.t 4) (AC.seq (AC.reg [⟨some 2, .mov, [.c (.nilsl)], none⟩]) AC.ret) AC.skip)) (AC.seq (AC.reg [⟨some 5, .mov, [.t 0], none⟩,⟨some 6, .nilck, [.t 5], none⟩,⟨some 7, .fld 1, [.t 6], none⟩,⟨some 8, .load false 1, [.t 7], none⟩,⟨some 9, .call 108, [.t 8], none⟩,⟨some 10, .call 107, [.t 9, .f 109], none⟩,⟨some 2, .mov, [.t 10], none⟩]) AC.ret)))
def r_sorted : AC × List RT × Nat := (c_sorted, [.tmp 2], 11)
theorem ok_sortede : compF Tryz.prog Tryz.f87 ⟨false, false, []⟩ = some r_sorted := by kernel_rfl
/- (*umpire/graph.Graph).Edges -/
def c_edges : AC := (AC.seq (AC.reg [⟨some 1, .box, [.t 0], none⟩,⟨some 2, .mov, [.c (.nilfn)], none⟩]) (AC.seq (AC.reg [⟨some 3, .mkfn (.func 86) 0, [.t 1], none⟩,⟨some 2, .mov, [.t 3], none⟩]) AC.ret))
def r_edges : AC × List RT × Nat := (c_edges, [.tmp 2], 4)
theorem ok_edgese : compF Tryz.prog Tryz.f43 ⟨false, false, []⟩ = some r_edges := by kernel_rfl
def c_edges1_0 : AC := (AC.seq (AC.reg [⟨some 9, .bin .lss, [.t 8, .t 7], none⟩]) (AC.seq (AC.cond (.t 9) AC.skip (AC.exit 0)) (AC.seq (AC.block 1 (AC.seq (AC.reg [⟨some 10, .idxp 3, [.t 6, .t 8], none⟩,⟨some 11, .load true 3, [.t 10], none⟩,⟨some 4, .alloc [.int .u16 0, .int .u16 0, .int .u8 0], [], none⟩,⟨none, .store 3, [.t 4, .t 11], none⟩]) (AC.seq (AC.reg [⟨some 12, .mov, [.t 0], none⟩,⟨some 13, .load true 3, [.t 4], none⟩,⟨some 14, .callv, [.t 12, .t 13], none⟩,⟨some 15, .un .not, [.t 14], none⟩]) (AC.cond (.t 15) AC.ret AC.skip)))) (AC.reg [⟨some 16, .bin .add, [.t 8, .c (.int .i64 1)], none⟩,⟨some 8, .mov, [.t 16], none⟩]))))
/- (*umpire/graph.Graph).Edges$1 -/
def c_edges1 : AC := (AC.seq (AC.reg [⟨some 5, .load false 1, [.t 1], none⟩,⟨some 6, .call 87, [.t 5], none⟩,⟨some 7, .len 1 0, [.t 6], none⟩,⟨some 8, .mov, [.c (.int .i64 0)], none⟩]) (AC.block 0 (AC.loop c_edges1_0)))
def r_edges1 : AC × List RT × Nat := (c_edges1, [], 17)
theorem ok_edges1e : compF Tryz.prog Tryz.f86 ⟨false, false, []⟩ = some r_edges1 := by kernel_rfl
/- (*umpire/graph.Graph).Has -/
def c_hasG : AC := (AC.seq (AC.reg [⟨some 3, .box, [.t 1], none⟩,⟨some 4, .mov, [.c (.bool false)], none⟩]) (AC.seq (AC.par (PT.step 0 ⟨some 5, .mov, [.t 0], none⟩ (PT.step 1 ⟨some 6, .eqn true 0, [.t 5, .c (.nilptr)], none⟩ (PT.step 2 ⟨some 7, .mov, [.t 6], none⟩ (PT.step 3 ⟨some 8, .mov, [.t 0], (some (7, true))⟩ (PT.step 4 ⟨some 9, .nilck, [.t 8], (some (7, true))⟩ (PT.step 5 ⟨some 10, .fld 1, [.t 9], (some (7, true))⟩ (PT.step 6 ⟨some 11, .load false 1, [.t 10], (some (7, true))⟩ (PT.step 7 ⟨some 12, .load true 3, [.t 3], (some (7, true))⟩ (PT.step 8 ⟨some 13, .lookup (true, [.i .u16, .i .u16, .i .u8]) (.int .i64 0) false, [.t 11, .t 12], (some (7, true))⟩ (PT.step 9 ⟨some 14, .bin .gtr, [.t 13, .c (.int .i64 0)], (some (7, true))⟩ (PT.step 10 ⟨some 15, .pick, [.t 7, .t 14, .c (.bool false)], none⟩ (PT.step 11 ⟨some 4, .mov, [.t 15], none⟩ PT.done))))))))))))) AC.ret))
def r_hasG : AC × List RT × Nat := (c_hasG, [.tmp 4], 16)
theorem ok_hasGe : compF Tryz.prog Tryz.f16 ⟨false, false, []⟩ = some r_hasG := by kernel_rfl
variable {E : Env}
theorem gs_clone (l : List Int) : cloneV 1 (nowGS 1 (intsV l)) = nowGS 1 (intsV l) := by
  cases l with
  | nil => rfl
  | cons a l => rfl
theorem nodes_c (hP : E.P = Tryz.prog) (W : AW) {g m lo : Nat} {h : V} {P : List Ek} {N : List Int} (hG : Gr W g m h P N lo) : ACalls E 15 [.ptr g 0] W fun Y W' => Y = nowGS 1 (intsV N) ∧ W' = W := by
  refine ACalls.of hP Tryz.func15 ok_nodese (by simp) fun _ hok => ?_
  simp only [c_nodes, BS, BC, e_seq, cond_if, ↓reduceIte, reduceCtorEq, BM, BD, hG.hg, hG.now.frz]
  have hs := nowGS_S 1 (intsV N)
  refine pc (clone39_c hP W _ _ hs (belL_ints _ _) (by rw [ints_len]; have := hG.nl; omega)) ?_
  rw [gs_clone]
  simp only [BS, BC, ↓reduceIte, hs.frz]
  exact ⟨_, rfl, _, _, .weak weak_id, Nat.le_refl _, rfl, rfl⟩
theorem keys35_c (hP : E.P = Tryz.prog) (W : AW) (m : Nat) : ACalls E 108 [.map m] W fun Y W' => Y = .fn (.func 125) [] [.ptr W.nx 0] ∧ W' = W.alloc (.row [.map m]) := by
  refine ACalls.of hP Tryz.func108 ok_e35e (by simp) fun _ hok => ?_
  simp only [c_e35, BS, BC, e_seq, ↓reduceIte, Nat.reduceEqDiff, BM, BD]
  exact ⟨_, rfl, _, _, .weak weak_id, by rw [alloc_nx]; omega, rfl, rfl⟩
theorem g_edOf (l : List (Ek × Int)) : ∀ n, (gFrom n l).map edOf = (keysE l).map toEd := by
  induction l with
  | nil => intro n; rfl
  | cons x l ih => intro n; simp only [gFrom, List.map_cons, ih, keysE]; rfl
theorem g_key (l : List (Ek × Int)) : ∀ n, ∀ e ∈ gFrom n l, e.1 = (edOf e).V := by
  induction l with
  | nil => intro n e he; simp [gFrom] at he
  | cons x l ih =>
    intro n e he
    rcases List.mem_cons.1 he with rfl | he
    · rfl
    · exact ih _ e he
theorem g_len (l : List (Ek × Int)) : ∀ n, (gFrom n l).length = l.length := by
  induction l with
  | nil => intro n; rfl
  | cons x l ih => intro n; simp [gFrom, ih]
theorem g_fresh (l : List (Ek × Int)) : ∀ n, (∀ e ∈ gFrom n l, n ≤ e.2.2 ∧ e.2.2 < n + l.length) ∧ (stamps (gFrom n l)).Nodup := by
  induction l with
  | nil => intro n; exact ⟨fun _ h => by simp [gFrom] at h, List.nodup_nil⟩
  | cons x l ih =>
    intro n
    obtain ⟨h1, h2⟩ := ih (n + 1)
    refine ⟨fun e he => ?_, ?_⟩
    · rcases List.mem_cons.1 he with rfl | he
      · simp
      · have := h1 e he; simp only [List.length_cons]; omega
    · refine List.nodup_cons.2 ⟨fun h => ?_, h2⟩
      obtain ⟨e, he, h3⟩ := List.mem_map.1 h
      have := h1 e he
      simp only at h3
      omega
def edsV (l : List Ed) : V := if l = [] then .nilsl else .sl 3 false (l.map Ed.V)
theorem edsV_S (l : List Ed) : isS 3 (edsV l) (l.map Ed.V) := by
  unfold edsV
  split
  · rename_i h; subst h; exact .nil
  · exact .mk
theorem sorted_eq (P : List Ek) : sortedEV ((gFrom 0 (tally P)).map edOf) = edsV (edL P) := by
  rw [g_edOf, sortedEV, edsV]
  by_cases h : (keysE (tally P)).map toEd = []
  · have : edL P = [] := by rw [edL, h]; exact (sortL_perm []).eq_nil
    rw [if_pos h, if_pos this]
  · have : edL P ≠ [] := by
      intro e
      apply h
      have := edL_perm P
      rw [e] at this
      exact this.symm.eq_nil
    rw [if_neg h, if_neg this]; rfl
theorem bel_eds (l : List Ed) (n : Nat) : (edsV l).bel n = true := (edsV_S l).lens (bel_edV n l)
theorem sorted27_c (hP : E.P = Tryz.prog) (W : AW) {g m lo : Nat} {h : V} {P : List Ek} {N : List Int} (hG : Gr W g m h P N lo) : ACalls E 87 [.ptr g 0] W fun Y W' => Y = edsV (edL P) ∧ W' = W := by
  refine ACalls.of hP Tryz.func87 ok_sortede (by simp) fun _ hok => ?_
  simp only [c_sorted, BS, BC, e_seq, cond_if, ↓reduceIte, reduceCtorEq, BM, BD, hG.hg]
  refine (keys35_c hP _ m).mono ?_
  rintro _ W1 ⟨rfl, rfl⟩
  simp only [BS, BC, ↓reduceIte]
  have hf := g_fresh (tally P) 0
  have hlm := hG.lm
  have hE : Ex W (W.alloc (.row [.map m])) := ⟨fun x hx => by rw [alloc_nx] at hx; rw [al_gets, if_neg (by omega)]; exact ok_Cl hok x (by omega), by rw [alloc_nx]; omega, fun x hx => alloc_lt hx⟩
  refine pc (sortedE_c hP (pb := W.nx) (m := m) alloc_at (by rw [alloc_lt hlm]; exact hG.hm) ⟨hf.2, fun e he => by have := (hf.1 e he).2; omega⟩ (by rw [alloc_nx]; omega) (by rw [alloc_nx]; omega) (g_key _ 0) (by rw [g_len]; have := tally_len P; have := hG.pl; omega)) ?_
  rw [sorted_eq]
  have hs := edsV_S (edL P)
  simp only [BS, BC, ↓reduceIte, hs.frz]
  exact ⟨_, rfl, _, W, hE.back hok (bel_eds _ _), Nat.le_refl _, rfl, rfl⟩
theorem edges_c (hP : E.P = Tryz.prog) (W : AW) (g : Nat) : ACalls E 43 [.ptr g 0] W fun Y W' => ∃ q, Y = .fn (.func 86) [] [.ptr q 0] ∧ W'.get q = some (.row [.ptr g 0]) ∧ q < W'.nx ∧ Ex W W' := by
  refine ACalls.of hP Tryz.func43 ok_edgese (by simp) fun _ hok => ?_
  refine awp_start hok ?_
  simp only [c_edges, BS, BC, e_seq, ↓reduceIte, Nat.reduceEqDiff, BM, BD]
  exact ⟨_, rfl, _, _, .weak weak_id, by simp [X], rf W.nx 0, rfl, by rw [X_get]; rfl, by simp [X, rf], .x0⟩
theorem ed_at {l : List Ed} {k : Nat} (h : k < l.length) : (l.map Ed.V)[k]? = some (l[k]).V := by simp [h]
theorem ed_cells (e : Ed) : e.V.cells = [.int .u16 e.fr, .int .u16 e.to, .int .u8 e.kd] := rfl
theorem edL_lt {W : AW} {g m lo : Nat} {h : V} {P : List Ek} {N : List Int} (hG : Gr W g m h P N lo) : (edL P).length < 2 ^ 32 := by
  have := edL_le P; have := hG.pl; omega
/-- Edges' function: it hands out each edge, in order. -/
theorem edges_iter (hP : E.P = Tryz.prog) {W : AW} {y q g m lo : Nat} {h : V} {P : List Ek} {N : List Int} (hq : W.get q = some (.row [.ptr g 0])) (hG : Gr W g m h P N lo) (J : Nat → AW → Prop)
    (h0 : J 0 W) (hJ : ∀ i W1, J i W1 → Cl W1 ∧ W.nx ≤ W1.nx) (hmono : ∀ (vs : List V) (W1 : AW) (K K' : V → AW → Prop), (∀ v W', K v W' → K' v W') → E.yield y vs W1 K → E.yield y vs W1 K')
    (hy : ∀ i (hi : i < (edL P).length) W1 l, J i W1 → E.yield y [(edL P)[i].V] (X W1 W1.nx l) (fun Y W2 => Y = .bool true ∧ J (i + 1) W2)) :
    ACalls E 86 [.yld y, .ptr q 0] W fun Y W' => Y = .tuple [] ∧ J (edL P).length W' := by
  refine ACalls.of hP Tryz.func86 ok_edges1e (by simp) fun _ hok => ?_
  have hs := edsV_S (edL P)
  have hl := edL_lt hG
  simp (maxSteps := 2000000) (disch := omega) only [c_edges1, BS, BC, e_seq, ↓reduceIte, BM, hq]
  refine pc (sorted27_c hP _ hG) ?_
  simp (maxSteps := 2000000) (disch := omega) only [BS, ↓reduceIte, hs.len, List.length_map]
  rw [e_loop]
  refine ALoop.go (B := awp E _) (fun h => awp_mono _ h) (fun (i : Nat) A1 W1 => A1 0 = some (.yld y) ∧ A1 6 = some (edsV (edL P)) ∧ A1 7 = some (.int .i64 (edL P).length) ∧ A1 8 = some (.int .i64 i) ∧ i ≤ (edL P).length ∧ J i W1) (fun i => (edL P).length - i) 0
    ⟨rfl, rfl, rfl, rfl, Nat.zero_le _, h0⟩ ?_
  rintro i A1 W1 ⟨g0, g6, g7, g8, gi, gJ⟩ hn
  by_cases hi : i < (edL P).length
  · have hat := ed_at hi
    have hyi := fun l => hy i hi W1 l gJ
    generalize (edL P)[i] = e at hat hyi
    refine awp_startC (hJ _ _ gJ).1 ?_
    simp (maxSteps := 2000000) (disch := omega) only [c_edges1_0, BS, BC, e_seq, cond_if, ↓reduceIte, Nat.reduceEqDiff, reduceCtorEq, BM, BD, Nat.reduceAdd, Nat.reduceLeDiff, Nat.reduceLT, g0, g6, g7, g8, clt, hi, decide_true, hs.idx hat, ed_cells, sem_yield]
    refine hmono _ _ _ _ ?_ (hyi _)
    rintro Y W2 ⟨rfl, g⟩
    simp (maxSteps := 2000000) (disch := omega) only [BS, BC, cond_if, ↓reduceIte, Nat.reduceEqDiff, reduceCtorEq, BD, g0, g6, g7, g8, wadd1]
    exact ⟨i + 1, ⟨(by first | trivial | rfl | omega), (by first | trivial | rfl | omega), (by first | trivial | rfl | omega), (by first | trivial | rfl | omega), by omega, g⟩, by omega, (hJ _ _ g).2⟩
  · obtain rfl : i = (edL P).length := by omega
    simp (maxSteps := 2000000) (disch := omega) only [c_edges1_0, BS, BC, e_seq, cond_if, ↓reduceIte, g7, g8, clt, hi, decide_false]
    exact ⟨_, rfl, _, _, .weak weak_id, (hJ _ _ gJ).2, rfl, gJ⟩
theorem Gr.ex {W W1 : AW} {g m lo : Nat} {h : V} {P : List Ek} {N : List Int} (hG : Gr W g m h P N lo) (hE : Ex W W1) : Gr W1 g m h P N lo := by
  have := hG.lg
  have := hG.lm
  have := hE.nx
  exact ⟨(hE.get _ hG.lg).trans hG.hg, (hE.get _ hG.lm).trans hG.hm, hG.now.to hE.nx fun r _ hr _ => hE.get r hr, by omega, by omega, hG.gg, hG.gm, hG.pk, hG.pl, hG.nl⟩
/-- A round over a graph's edges. -/
theorem range_edges (hP : E.P = Tryz.prog) {W0 : AW} {A : AFr} {q pv g m lo : Nat} {h : V} {P : List Ek} {N : List Int} {gx : AX} {asg body : AC} {Q : Exit → AFr → AW → Prop} (hg : gx.ev E A = some (.fn (.func 86) [] [.ptr q 0])) (hq : W0.get q = some (.row [.ptr g 0])) (hqn : q < W0.nx) (hC : Cl W0) (hG : Gr W0 g m h P N lo)
    (J : Nat → AW → Prop) (h0 : ∀ W1, Ex W0 W1 → W0.nx < W1.nx → J 0 W1) (hJ : ∀ i W1, J i W1 → Cl W1 ∧ W0.nx < W1.nx)
    (hb : ∀ i (hi : i < (edL P).length) W1 W1', J i W1 → Ex W1 W1' → W1'.get W0.nx = some (.loop .ready none) →
      awp E asg (thenQ (fun A1 W2 => W2.get W0.nx = some (.loop .ready none) ∧ awp E body (fun e _ W3 => e = .normal ∧ W3.get W0.nx = some (.loop .busy none) ∧ J (i + 1) (W3.put W0.nx (.loop .ready none))) A1 (W2.put W0.nx (.loop .busy none))) (fun _ _ _ => False)) (A.put pv (edL P)[i].V) W1')
    (hQ : ∀ W1, J (edL P).length W1 → W1.get W0.nx = some (.loop .ready none) → Q .normal A (W1.put W0.nx (.loop .exhausted none))) : awp E (.rangef gx [pv] asg body) Q A W0 := by
  rw [awp_rangef', hg]
  intro E' eP eG ey _
  have hP' : E'.P = Tryz.prog := eP.trans hP
  have hE : Ex W0 (W0.alloc (.loop .ready none)) := ⟨fun r hr => by rw [alloc_nx] at hr; rw [al_gets, if_neg (by omega)]; exact hC r (by omega), by rw [alloc_nx]; omega, fun x hx => alloc_lt hx⟩
  simp only [List.map_cons, List.map_nil, frz_ptr]
  refine (edges_iter (E := E') hP' (y := W0.nx) (q := q) (by rw [alloc_lt hqn]; exact hq) (hG.ex hE) (fun k W1 => J k W1 ∧ W1.get W0.nx = some (.loop .ready none)) ⟨h0 _ hE (by rw [alloc_nx]; omega), alloc_at⟩ (fun i W1 g => ⟨(hJ _ _ g.1).1, by rw [alloc_nx]; exact (hJ _ _ g.1).2⟩) (fun vs W1 K K' hk hy => E'.yieldMono _ _ _ _ _ hk hy) ?_).mono ?_
  · rintro i hi W1 l ⟨g1, g2⟩
    have hlt := (hJ _ _ g1).2
    refine ey _ _ _ ⟨by rw [X_old hlt]; exact g2, rfl, ?_⟩
    refine awp_mono _ ?_ (hb i hi W1 _ g1 ((Ex.refl (hJ _ _ g1).1).X (l := l)) (by rw [X_old hlt]; exact g2))
    intro e A1 W2 hh
    cases e with
    | normal =>
      refine ⟨hh.1, awp_mono _ ?_ hh.2⟩
      rintro e A3 W3 ⟨rfl, h2, h3⟩
      exact ⟨h2, rfl, h3, put_at⟩
    | _ => exact hh
  · rintro Y W1 ⟨_, g1, g2⟩
    simp only [doneQ, g2]
    exact hQ _ g1 g2
def inP (P : List Ek) (e : Ed) : Bool := decide (ofEd e ∈ P)
theorem hasG_c (hP : E.P = Tryz.prog) (W : AW) {g m lo : Nat} {h : V} {P : List Ek} {N : List Int} (hG : Gr W g m h P N lo) (e : Ed) (he : ekOk (ofEd e)) : ACalls E 16 [.ptr g 0, e.V] W fun Y W' => Y = .bool (inP P e) ∧ W' = W := by
  refine ACalls.of hP Tryz.func16 ok_hasGe (by simp) fun _ hok => ?_
  refine awp_start hok ?_
  have hlm := hG.lm
  have hlg := hG.lg
  have hks := g_keys (tally_ok hG.pk) he 0
  have hlk : ∀ l K, sem E (.lookup shE (.int .i64 0) false) [.map m, .agg [.int .u16 e.fr, .int .u16 e.to, .int .u8 e.kd]] (X W W.nx l) K = K (.int .i64 ((getE (tally P) (ofEd e)).getD 0)) (X W W.nx l) := fun l K => by
    rw [show V.agg [.int .u16 e.fr, .int .u16 e.to, .int .u8 e.kd] = ekV (ofEd e) from rfl, m_lookup (by rw [X_old hlm]; exact hG.hm) hks, lookK_g]
  have hd : decide ((getE (tally P) (ofEd e)).getD 0 > 0) = inP P e := by
    rw [tally_get, inP]
    by_cases hm : ofEd e ∈ P
    · have := List.count_pos_iff.2 hm
      simp [hm]
    · simp [hm]
  simp (maxSteps := 2000000) (disch := omega) only [c_hasG, BS, BC, e_seq, guard_if, ↓reduceIte, Nat.reduceEqDiff, reduceCtorEq, BM, BD, Nat.reduceAdd, Nat.reduceLeDiff, Ed.V, hG.hg, hlk, hd]
  exact ⟨_, rfl, _, W, backX hok rfl, Nat.le_refl _, rfl, rfl⟩
end Go.AL.S
set_option maxRecDepth 100000
set_option maxHeartbeats 2000000
namespace Go.AL.S
open Go Go.AL Go.Proofs
/- slices.Index[[]uint8,uint8] -/
def c_idx8 : AC := (AC.seq (AC.reg [⟨some 4, .mov, [.c (.int .i64 0)], none⟩]) (AC.seq (AC.seq (AC.reg [⟨some 6, .mov, [.t 0], none⟩,⟨some 7, .len 1 0, [.t 6], none⟩,⟨some 8, .mov, [.c (.int .i64 0)], none⟩]) (AC.block 0 (AC.loop (AC.seq (AC.reg [⟨some 9, .bin .lss, [.t 8, .t 7], none⟩]) (AC.seq (AC.cond (.t 9) AC.skip (AC.exit 0)) (AC.seq (AC.block 1 (AC.seq (AC.reg [⟨some 10, .mov, [.t 8], none⟩,⟨some 5, .mov, [.t 10], none⟩]) (AC.seq (AC.reg [⟨some 11, .mov, [.t 1], none⟩,⟨some 12, .mov, [.t 0], none⟩,⟨some 13, .mov, [.t 5], none⟩,⟨some 14, .idxp 1, [.t 12, .t 13], none⟩,⟨some 15, .load false 1, [.t 14], none⟩,⟨some 16, .bin .eql, [.t 11, .t 15], none⟩]) (AC.cond (.t 16) (AC.seq (AC.reg [⟨some 17, .mov, [.t 5], none⟩,⟨some 4, .mov, [.t 17], none⟩]) AC.ret) AC.skip)))) (AC.reg [⟨some 18, .bin .add, [.t 8, .c (.int .i64 1)], none⟩,⟨some 8, .mov, [.t 18], none⟩]))))))) (AC.seq (AC.reg [⟨some 4, .mov, [.c (.int .i64 (-1))], none⟩]) AC.ret)))
def r_idx8 : AC × List RT × Nat := (c_idx8, [.tmp 4], 19)
theorem ok_idx8e : compF Tryz.prog Tryz.f98 ⟨false, false, []⟩ = some r_idx8 := by kernel_rfl
/- slices.Contains[[]uint8,uint8] -/
def c_has8 : AC := (AC.seq (AC.reg [⟨some 4, .mov, [.c (.bool false)], none⟩]) (AC.seq (AC.reg [⟨some 5, .mov, [.t 0], none⟩,⟨some 6, .mov, [.t 1], none⟩,⟨some 7, .call 98, [.t 5, .t 6], none⟩,⟨some 8, .bin .geq, [.t 7, .c (.int .i64 0)], none⟩,⟨some 4, .mov, [.t 8], none⟩]) AC.ret))
def r_has8 : AC × List RT × Nat := (c_has8, [.tmp 4], 9)
theorem ok_has8e : compF Tryz.prog Tryz.f69 ⟨false, false, []⟩ = some r_has8 := by kernel_rfl
/- slices.Index[[]int,int] -/
def c_idxI : AC := (AC.seq (AC.reg [⟨some 4, .mov, [.c (.int .i64 0)], none⟩]) (AC.seq (AC.seq (AC.reg [⟨some 6, .mov, [.t 0], none⟩,⟨some 7, .len 1 0, [.t 6], none⟩,⟨some 8, .mov, [.c (.int .i64 0)], none⟩]) (AC.block 0 (AC.loop (AC.seq (AC.reg [⟨some 9, .bin .lss, [.t 8, .t 7], none⟩]) (AC.seq (AC.cond (.t 9) AC.skip (AC.exit 0)) (AC.seq (AC.block 1 (AC.seq (AC.reg [⟨some 10, .mov, [.t 8], none⟩,⟨some 5, .mov, [.t 10], none⟩]) (AC.seq (AC.reg [⟨some 11, .mov, [.t 1], none⟩,⟨some 12, .mov, [.t 0], none⟩,⟨some 13, .mov, [.t 5], none⟩,⟨some 14, .idxp 1, [.t 12, .t 13], none⟩,⟨some 15, .load false 1, [.t 14], none⟩,⟨some 16, .bin .eql, [.t 11, .t 15], none⟩]) (AC.cond (.t 16) (AC.seq (AC.reg [⟨some 17, .mov, [.t 5], none⟩,⟨some 4, .mov, [.t 17], none⟩]) AC.ret) AC.skip)))) (AC.reg [⟨some 18, .bin .add, [.t 8, .c (.int .i64 1)], none⟩,⟨some 8, .mov, [.t 18], none⟩]))))))) (AC.seq (AC.reg [⟨some 4, .mov, [.c (.int .i64 (-1))], none⟩]) AC.ret)))
def r_idxI : AC × List RT × Nat := (c_idxI, [.tmp 4], 19)
theorem ok_idxIe : compF Tryz.prog Tryz.f99 ⟨false, false, []⟩ = some r_idxI := by kernel_rfl
/- slices.Contains[[]int,int] -/
def c_hasI : AC := (AC.seq (AC.reg [⟨some 4, .mov, [.c (.bool false)], none⟩]) (AC.seq (AC.reg [⟨some 5, .mov, [.t 0], none⟩,⟨some 6, .mov, [.t 1], none⟩,⟨some 7, .call 99, [.t 5, .t 6], none⟩,⟨some 8, .bin .geq, [.t 7, .c (.int .i64 0)], none⟩,⟨some 4, .mov, [.t 8], none⟩]) AC.ret))
def r_hasI : AC × List RT × Nat := (c_hasI, [.tmp 4], 9)
theorem ok_hasIe : compF Tryz.prog Tryz.f70 ⟨false, false, []⟩ = some r_hasI := by kernel_rfl
def c_bs16_0 : AC := (AC.seq (AC.seq (AC.reg [⟨some 13, .mov, [.t 7], none⟩,⟨some 14, .mov, [.t 8], none⟩,⟨some 15, .bin .lss, [.t 13, .t 14], none⟩]) (AC.cond (.t 15) AC.skip (AC.exit 0))) (AC.block 1 (AC.seq (AC.reg [⟨some 16, .mov, [.t 7], none⟩,⟨some 17, .mov, [.t 8], none⟩,⟨some 18, .bin .add, [.t 16, .t 17], none⟩,⟨some 19, .conv .u64, [.t 18], none⟩,⟨some 20, .bin .shr, [.t 19, .c (.int .u64 1)], none⟩,⟨some 21, .conv .i64, [.t 20], none⟩,⟨some 9, .mov, [.t 21], none⟩]) (AC.seq (AC.reg [⟨some 22, .mov, [.t 0], none⟩,⟨some 23, .mov, [.t 9], none⟩,⟨some 24, .idxp 1, [.t 22, .t 23], none⟩,⟨some 25, .load false 1, [.t 24], none⟩,⟨some 26, .mov, [.t 1], none⟩,⟨some 27, .call 96, [.t 25, .t 26], none⟩]) (AC.cond (.t 27) (AC.reg [⟨some 28, .mov, [.t 9], none⟩,⟨some 29, .bin .add, [.t 28, .c (.int .i64 1)], none⟩,⟨some 7, .mov, [.t 29], none⟩]) (AC.reg [⟨some 30, .mov, [.t 9], none⟩,⟨some 8, .mov, [.t 30], none⟩]))))))
/- slices.BinarySearch[[]uint16,uint16] -/
def c_bs16 : AC := (AC.seq (AC.reg [⟨some 4, .mov, [.c (.int .i64 0)], none⟩,⟨some 5, .mov, [.c (.bool false)], none⟩]) (AC.seq (AC.reg [⟨some 10, .mov, [.t 0], none⟩,⟨some 11, .len 1 0, [.t 10], none⟩,⟨some 6, .mov, [.t 11], none⟩]) (AC.seq (AC.reg [⟨some 12, .mov, [.t 6], none⟩,⟨some 7, .mov, [.c (.int .i64 0)], none⟩,⟨some 8, .mov, [.t 12], none⟩]) (AC.seq (AC.block 0 (AC.loop c_bs16_0)) (AC.seq (AC.reg [⟨some 31, .mov, [.t 7], none⟩,⟨some 32, .mov, [.t 7], none⟩,⟨some 33, .mov, [.t 6], none⟩,⟨some 34, .bin .lss, [.t 32, .t 33], none⟩,⟨some 35, .mov, [.t 34], none⟩,⟨some 36, .mov, [.t 0], (some (35, true))⟩,⟨some 37, .mov, [.t 7], (some (35, true))⟩,⟨some 38, .idxp 1, [.t 36, .t 37], (some (35, true))⟩,⟨some 39, .load false 1, [.t 38], (some (35, true))⟩,⟨some 40, .mov, [.t 1], (some (35, true))⟩,⟨some 41, .bin .eql, [.t 39, .t 40], (some (35, true))⟩,⟨some 42, .mov, [.t 41], (some (35, true))⟩,⟨some 43, .mov, [.t 0], (some (42, false))⟩,⟨some 44, .mov, [.t 7], (some (42, false))⟩,⟨some 45, .idxp 1, [.t 43, .t 44], (some (42, false))⟩,⟨some 46, .load false 1, [.t 45], (some (42, false))⟩,⟨some 47, .call 97, [.t 46], (some (42, false))⟩,⟨some 48, .mov, [.t 47], (some (42, false))⟩,⟨some 49, .mov, [.t 1], (some (48, true))⟩,⟨some 50, .call 97, [.t 49], (some (48, true))⟩,⟨some 51, .pick, [.t 48, .t 50, .c (.bool false)], (some (42, false))⟩,⟨some 52, .pick, [.t 42, .c (.bool true), .t 51], (some (35, true))⟩,⟨some 53, .pick, [.t 35, .t 52, .c (.bool false)], none⟩,⟨some 4, .mov, [.t 31], none⟩,⟨some 5, .mov, [.t 53], none⟩]) AC.ret)))))
def r_bs16 : AC × List RT × Nat := (c_bs16, [.tmp 4, .tmp 5], 54)
theorem ok_bs16e : compF Tryz.prog Tryz.f68 ⟨false, false, []⟩ = some r_bs16 := by kernel_rfl
/- slices.isNaN[uint16] -/
def c_snan : AC := (AC.seq (AC.reg [⟨some 2, .mov, [.c (.bool false)], none⟩]) (AC.seq (AC.reg [⟨some 3, .mov, [.t 0], none⟩,⟨some 4, .mov, [.t 0], none⟩,⟨some 5, .bin .neq, [.t 3, .t 4], none⟩,⟨some 2, .mov, [.t 5], none⟩]) AC.ret))
def r_snan : AC × List RT × Nat := (c_snan, [.tmp 2], 6)
theorem ok_snane : compF Tryz.prog Tryz.f97 ⟨false, false, []⟩ = some r_snan := by kernel_rfl
variable {E : Env}
/-! finding numbers in lists -/
def u8s (l : List Int) : List V := l.map (V.int .u8)
def i64s (l : List Int) : List V := l.map (V.int .i64)
theorem u8s_at {l : List Int} {k : Nat} (h : k < l.length) : (u8s l)[k]? = some (.int .u8 l[k]) := by simp [u8s, h]
theorem i64s_at {l : List Int} {k : Nat} (h : k < l.length) : (i64s l)[k]? = some (.int .i64 l[k]) := by simp [i64s, h]
theorem u8s_len (l : List Int) : (u8s l).length = l.length := by simp [u8s]
theorem i64s_len (l : List Int) : (i64s l).length = l.length := by simp [i64s]
theorem idx8_c (hP : E.P = Tryz.prog) (W : AW) {v : V} {l : List Int} (h : isS 1 v (u8s l)) (hl : l.length < 2 ^ 40) (n : Int) :
    ACalls E 98 [v, .int .u8 n] W fun Y W' => Y = .int .i64 (idxV (fun x => decide (n = x)) l) ∧ W' = W := by
  refine ACalls.of hP Tryz.func98 ok_idx8e (by simp) fun _ hok => ?_
  simp only [c_idx8, BS, BC, e_seq, ↓reduceIte, reduceCtorEq, h.len, u8s_len]
  rw [e_loop]
  refine ALoop.go (B := awp E _) (fun h => awp_mono _ h) (fun (k : Nat) A1 W1 => A1 0 = some v ∧ A1 1 = some (.int .u8 n) ∧ A1 7 = some (.int .i64 l.length) ∧ A1 8 = some (.int .i64 k) ∧ k ≤ l.length ∧ W1 = W ∧ ∀ i (hi : i < l.length), i < k → decide (n = l[i]) = false) (fun k => l.length - k) 0
    ⟨rfl, rfl, rfl, rfl, Nat.zero_le _, rfl, fun _ _ h => by omega⟩ ?_
  rintro k A1 W1 ⟨g0, g1, g7, g8, gk, rfl, ge⟩ _
  by_cases hk1 : k < l.length
  · cases hb : decide (n = l[k])
    · simp (maxSteps := 2000000) (disch := omega) only [BS, BC, e_seq, cond_if, ↓reduceIte, Nat.reduceEqDiff, reduceCtorEq, BM, g0, g1, g7, g8, clt, hk1, decide_true, h.idx (u8s_at hk1), cmpeq, hb, wadd1]
      refine ⟨k + 1, ⟨(by first | trivial | rfl | omega), (by first | trivial | rfl | omega), (by first | trivial | rfl | omega), (by first | trivial | rfl | omega), (by first | trivial | rfl | omega), (by first | trivial | rfl | omega), fun i hi hk => ?_⟩, by omega, Nat.le_refl _⟩
      by_cases e : i = k
      · subst e; exact hb
      · exact ge i hi (by omega)
    · simp (maxSteps := 2000000) (disch := omega) only [BS, BC, e_seq, cond_if, ↓reduceIte, Nat.reduceEqDiff, reduceCtorEq, BM, g0, g1, g7, g8, clt, hk1, decide_true, h.idx (u8s_at hk1), cmpeq, hb]
      exact ⟨_, rfl, _, _, .weak weak_id, Nat.le_refl _, by rw [idxV_hit hk1 hb ge], rfl⟩
  · obtain rfl : k = l.length := by omega
    simp only [BS, BC, e_seq, cond_if, ↓reduceIte, g7, g8, clt, hk1, decide_false]
    exact ⟨_, rfl, _, _, .weak weak_id, Nat.le_refl _, by rw [idxV_none fun i hi => ge i hi hi], rfl⟩
theorem has8_c (hP : E.P = Tryz.prog) (W : AW) {v : V} {l : List Int} (h : isS 1 v (u8s l)) (hl : l.length < 2 ^ 40) (n : Int) :
    ACalls E 69 [v, .int .u8 n] W fun Y W' => Y = .bool (l.any fun x => decide (n = x)) ∧ W' = W := by
  refine ACalls.of hP Tryz.func69 ok_has8e (by simp) fun _ hok => ?_
  simp only [c_has8, BS, BC, e_seq, ↓reduceIte, Nat.reduceEqDiff, reduceCtorEq, h.frz]
  refine pc (idx8_c hP W h hl n) ?_
  simp only [BS, BC, ↓reduceIte, idxV_ge]
  exact ⟨_, rfl, _, _, .weak weak_id, Nat.le_refl _, rfl, rfl⟩
theorem idxI_c (hP : E.P = Tryz.prog) (W : AW) {v : V} {l : List Int} (h : isS 1 v (i64s l)) (hl : l.length < 2 ^ 40) (n : Int) :
    ACalls E 99 [v, .int .i64 n] W fun Y W' => Y = .int .i64 (idxV (fun x => decide (n = x)) l) ∧ W' = W := by
  refine ACalls.of hP Tryz.func99 ok_idxIe (by simp) fun _ hok => ?_
  simp only [c_idxI, BS, BC, e_seq, ↓reduceIte, reduceCtorEq, h.len, i64s_len]
  rw [e_loop]
  refine ALoop.go (B := awp E _) (fun h => awp_mono _ h) (fun (k : Nat) A1 W1 => A1 0 = some v ∧ A1 1 = some (.int .i64 n) ∧ A1 7 = some (.int .i64 l.length) ∧ A1 8 = some (.int .i64 k) ∧ k ≤ l.length ∧ W1 = W ∧ ∀ i (hi : i < l.length), i < k → decide (n = l[i]) = false) (fun k => l.length - k) 0
    ⟨rfl, rfl, rfl, rfl, Nat.zero_le _, rfl, fun _ _ h => by omega⟩ ?_
  rintro k A1 W1 ⟨g0, g1, g7, g8, gk, rfl, ge⟩ _
  by_cases hk1 : k < l.length
  · cases hb : decide (n = l[k])
    · simp (maxSteps := 2000000) (disch := omega) only [BS, BC, e_seq, cond_if, ↓reduceIte, Nat.reduceEqDiff, reduceCtorEq, BM, g0, g1, g7, g8, clt, hk1, decide_true, h.idx (i64s_at hk1), cmpeq, hb, wadd1]
      refine ⟨k + 1, ⟨(by first | trivial | rfl | omega), (by first | trivial | rfl | omega), (by first | trivial | rfl | omega), (by first | trivial | rfl | omega), (by first | trivial | rfl | omega), (by first | trivial | rfl | omega), fun i hi hk => ?_⟩, by omega, Nat.le_refl _⟩
      by_cases e : i = k
      · subst e; exact hb
      · exact ge i hi (by omega)
    · simp (maxSteps := 2000000) (disch := omega) only [BS, BC, e_seq, cond_if, ↓reduceIte, Nat.reduceEqDiff, reduceCtorEq, BM, g0, g1, g7, g8, clt, hk1, decide_true, h.idx (i64s_at hk1), cmpeq, hb]
      exact ⟨_, rfl, _, _, .weak weak_id, Nat.le_refl _, by rw [idxV_hit hk1 hb ge], rfl⟩
  · obtain rfl : k = l.length := by omega
    simp only [BS, BC, e_seq, cond_if, ↓reduceIte, g7, g8, clt, hk1, decide_false]
    exact ⟨_, rfl, _, _, .weak weak_id, Nat.le_refl _, by rw [idxV_none fun i hi => ge i hi hi], rfl⟩
theorem hasI_c (hP : E.P = Tryz.prog) (W : AW) {v : V} {l : List Int} (h : isS 1 v (i64s l)) (hl : l.length < 2 ^ 40) (n : Int) :
    ACalls E 70 [v, .int .i64 n] W fun Y W' => Y = .bool (l.any fun x => decide (n = x)) ∧ W' = W := by
  refine ACalls.of hP Tryz.func70 ok_hasIe (by simp) fun _ hok => ?_
  simp only [c_hasI, BS, BC, e_seq, ↓reduceIte, Nat.reduceEqDiff, reduceCtorEq, h.frz]
  refine pc (idxI_c hP W h hl n) ?_
  simp only [BS, BC, ↓reduceIte, idxV_ge]
  exact ⟨_, rfl, _, _, .weak weak_id, Nat.le_refl _, rfl, rfl⟩
theorem snan_c (hP : E.P = Tryz.prog) (W : AW) (a : Int) : ACalls E 97 [.int .u16 a] W fun X W' => X = .bool false ∧ W' = W := by
  refine ACalls.of hP Tryz.func97 ok_snane (by simp) fun _ hok => ?_
  simp (maxSteps := 200000) (disch := omega) only [BS, BC, e_seq, ↓reduceIte, Nat.reduceEqDiff, reduceCtorEq, c_snan, cmpne, show decide (a ≠ a) = false by simp]
  exact ⟨_, rfl, _, _, .weak weak_id, Nat.le_refl _, rfl, rfl⟩
/-- How many numbers of an ascending list are below one. -/
def lowB (l : List Int) (x : Int) : Nat := (l.takeWhile fun y => decide (y < x)).length
theorem lowB_of {l : List Int} {x : Int} {k : Nat} (hk : k ≤ l.length) (h1 : ∀ i (h : i < l.length), i < k → l[i] < x) (h2 : ∀ (h : k < l.length), ¬ l[k] < x) : lowB l x = k := by
  induction l generalizing k with
  | nil => simp at hk; subst hk; rfl
  | cons a l ih =>
    cases k with
    | zero =>
      have := h2 (by simp)
      simp only [List.getElem_cons_zero] at this
      simp [lowB, this]
    | succ k =>
      have h0 := h1 0 (by simp) (by omega)
      simp only [List.getElem_cons_zero] at h0
      have := ih (k := k) (by simpa using hk) (fun i h hi => by have := h1 (i + 1) (by simpa using h) (by omega); simpa using this) (fun h => by have := h2 (by simpa using h); simpa using this)
      simp only [lowB, List.takeWhile_cons, decide_eq_true h0, if_true, List.length_cons] at this ⊢
      omega
theorem half {a b : Nat} (h : a + b < 2 ^ 41) : IntKind.i64.wrap ((a : Int) + b) = ((a + b : Nat) : Int) := by
  rw [show (a : Int) + b = ((a + b : Nat) : Int) by omega]; exact wrapn (by omega) (by omega)
theorem wrapu {n : Nat} (h : n < 2 ^ 41) : IntKind.u64.wrap (n : Int) = n := by
  simp only [IntKind.wrap, IntKind.signed, IntKind.bits]
  simp
  omega
theorem bs16_c (hP : E.P = Tryz.prog) (W : AW) {v : V} {l : List Int} (h : isS 1 v (intsV l)) (hs : l.Pairwise fun a b => a < b) (hl : l.length < 2 ^ 40) (x : Int) :
    ACalls E 68 [v, .int .u16 x] W fun Y W' => Y = .tuple [.int .i64 (lowB l x), .bool (decide (x ∈ l))] ∧ W' = W := by
  refine ACalls.of hP Tryz.func68 ok_bs16e (by simp) fun _ hok => ?_
  simp (maxSteps := 200000) (disch := omega) only [BS, BC, e_seq, ↓reduceIte, Nat.reduceEqDiff, reduceCtorEq, c_bs16, h.len, ints_len]
  rw [e_loop]
  refine ALoop.go (B := awp E _) (fun h => awp_mono _ h) (fun (σ : Nat × Nat) A1 W1 => A1 0 = some v ∧ A1 1 = some (.int .u16 x) ∧ A1 6 = some (.int .i64 l.length) ∧ A1 7 = some (.int .i64 σ.1) ∧ A1 8 = some (.int .i64 σ.2) ∧ σ.1 ≤ σ.2 ∧ σ.2 ≤ l.length ∧ W1 = W ∧ (∀ i (hi : i < l.length), i < σ.1 → l[i] < x) ∧ (∀ i (hi : i < l.length), σ.2 ≤ i → ¬ l[i] < x)) (fun σ => σ.2 - σ.1) (0, l.length)
    ⟨rfl, rfl, rfl, rfl, rfl, Nat.zero_le _, Nat.le_refl _, rfl, fun _ _ h => by simp at h, fun i hi h => by simp at h; omega⟩ ?_
  rintro ⟨i, j⟩ A1 W1 ⟨g0, g1, g6, g7, g8, gij, gj, rfl, gl, gh⟩ _
  simp only at g7 g8 gij gj gl gh
  by_cases hij : i < j
  · have hm : (i + j) / 2 ^ 1 < l.length := by simp; omega
    have hm' : (i + j) / 2 ^ 1 < j ∧ i ≤ (i + j) / 2 ^ 1 := by simp; omega
    generalize hmm : (i + j) / 2 ^ 1 = m at hm hm'
    have hsh : ∀ K, sem E (.bin .shr) [.int .u64 ((i + j : Nat) : Int), .int .u64 1] W1 K = K (.int .u64 (m : Int)) W1 := fun K => by rw [← hmm]; exact shrN 1 (by decide)
    have hcm : IntKind.i64.wrap (m : Int) = m := wrapn (by omega) (by omega)
    simp (maxSteps := 200000) (disch := omega) only [BS, BC, e_seq, cond_if, ↓reduceIte, Nat.reduceEqDiff, reduceCtorEq, BM, c_bs16_0, g0, g1, g7, g8, clt, hij, decide_true, half (a := i) (b := j) (by omega), wrapu, hsh, hcm, h.idx (int_at hm)]
    refine pc (less_c hP _ _ _) ?_
    by_cases hx : l[m] < x
    · simp (maxSteps := 200000) (disch := omega) only [BS, cond_if, ↓reduceIte, Nat.reduceEqDiff, reduceCtorEq, g0, g1, g6, g8, decide_eq_true hx, wadd1]
      refine ⟨(m + 1, j), ⟨(by first | trivial | rfl | omega), (by first | trivial | rfl | omega), (by first | trivial | rfl | omega), (by first | trivial | rfl | omega), (by first | trivial | rfl | omega), by show m + 1 ≤ j; omega, gj, (by first | trivial | rfl | omega), fun i' hi' h' => ?_, gh⟩, by show j - (m + 1) < j - i; omega, Nat.le_refl _⟩
      by_cases e : i' = m
      · subst e; exact hx
      · have := List.pairwise_iff_getElem.1 hs i' m hi' hm (by simp only at h'; omega)
        omega
    · simp (maxSteps := 200000) (disch := omega) only [BS, BC, cond_if, ↓reduceIte, Nat.reduceEqDiff, reduceCtorEq, g0, g1, g6, g7, decide_eq_false hx]
      refine ⟨(i, m), ⟨(by first | trivial | rfl | omega), (by first | trivial | rfl | omega), (by first | trivial | rfl | omega), (by first | trivial | rfl | omega), (by first | trivial | rfl | omega), hm'.2, by show m ≤ l.length; omega, (by first | trivial | rfl | omega), gl, fun i' hi' h' => ?_⟩, by show m - i < j - i; omega, Nat.le_refl _⟩
      by_cases e : i' = m
      · subst e; exact hx
      · have := List.pairwise_iff_getElem.1 hs m i' hm hi' (by simp only at h'; omega)
        omega
  · obtain rfl : i = j := by omega
    have hlb := lowB_of (x := x) gj gl (fun h => gh i h (Nat.le_refl _))
    by_cases hil : i < l.length
    · have hni : decide (x ∈ l) = decide (l[i] = x) := by
        refine decide_eq_decide.2 ⟨fun hx => ?_, fun e => by rw [← e]; exact List.getElem_mem _⟩
        obtain ⟨k, hk, rfl⟩ := List.mem_iff_getElem.1 hx
        rcases Nat.lt_trichotomy k i with h1 | h1 | h1
        · have := gl k hk h1; omega
        · subst h1; rfl
        · have h2 := List.pairwise_iff_getElem.1 hs i k hil hk h1
          have := gh i hil (Nat.le_refl _); omega
      by_cases he : l[i] = x
      · simp (maxSteps := 200000) (disch := omega) only [BS, BC, e_seq, cond_if, ↓reduceIte, Nat.reduceEqDiff, c_bs16_0, g6, g7, g8, clt, hij, hil, decide_true, decide_false]
        repeat (rw [guard_if]; simp (maxSteps := 200000) (disch := omega) only [BS, BC, ↓reduceIte, Nat.reduceEqDiff, reduceCtorEq, BM, g0, g1, g7, h.idx (int_at hil), cmpeq, decide_eq_true he])
        exact ⟨_, rfl, _, _, .weak weak_id, Nat.le_refl _, by rw [hlb, hni, decide_eq_true he], rfl⟩
      · simp (maxSteps := 200000) (disch := omega) only [BS, BC, e_seq, cond_if, ↓reduceIte, Nat.reduceEqDiff, c_bs16_0, g6, g7, g8, clt, hij, hil, decide_true, decide_false]
        repeat (rw [guard_if]; simp (maxSteps := 200000) (disch := omega) only [BS, BC, ↓reduceIte, Nat.reduceEqDiff, reduceCtorEq, BM, g0, g1, g7, h.idx (int_at hil), cmpeq, decide_eq_false he])
        refine pc (snan_c hP _ _) ?_
        simp (maxSteps := 200000) (disch := omega) only [BS]
        repeat (rw [guard_if]; simp (maxSteps := 200000) (disch := omega) only [BS, BC, ↓reduceIte, Nat.reduceEqDiff, BM])
        exact ⟨_, rfl, _, _, .weak weak_id, Nat.le_refl _, by rw [hlb, hni, decide_eq_false he], rfl⟩
    · have hni : decide (x ∈ l) = false := by
        refine decide_eq_false fun hx => ?_
        obtain ⟨k, hk, rfl⟩ := List.mem_iff_getElem.1 hx
        have := gl k hk (by omega); omega
      simp (maxSteps := 200000) (disch := omega) only [BS, BC, e_seq, cond_if, ↓reduceIte, Nat.reduceEqDiff, c_bs16_0, g6, g7, g8, clt, hij, hil, decide_false]
      repeat (rw [guard_if]; simp (maxSteps := 200000) (disch := omega) only [BS, BC, ↓reduceIte, Nat.reduceEqDiff, BM])
      exact ⟨_, rfl, _, _, .weak weak_id, Nat.le_refl _, by rw [hlb, hni], rfl⟩
end Go.AL.S
set_option maxRecDepth 100000
set_option maxHeartbeats 2000000
namespace Go.AL.S
open Go Go.AL Go.AL.SE Go.Proofs
def c_next_B1 : AC := (AC.block 1 (AC.seq (AC.par (PT.step 4 ⟨some 27, .fld 0, [.t 6], none⟩ (PT.step 0 ⟨some 23, .load false 1, [.t 2], none⟩ (PT.step 1 ⟨some 24, .nilck, [.t 23], none⟩ (PT.step 2 ⟨some 25, .fld 0, [.t 24], none⟩ (PT.step 3 ⟨some 26, .load false 1, [.t 25], none⟩ (PT.step 5 ⟨some 28, .load false 1, [.t 27], none⟩ (PT.step 6 ⟨some 29, .call 68, [.t 26, .t 28], none⟩ (PT.step 7 ⟨some 22, .mov, [.t 29], none⟩ (PT.step 8 ⟨some 30, .ext 0, [.t 22], none⟩ (PT.step 9 ⟨some 31, .ext 1, [.t 22], none⟩ (PT.step 10 ⟨some 7, .mov, [.t 30], none⟩ (PT.step 11 ⟨some 8, .mov, [.t 31], none⟩ PT.done))))))))))))) (AC.seq (AC.par (PT.step 4 ⟨some 37, .fld 1, [.t 6], none⟩ (PT.step 0 ⟨some 33, .load false 1, [.t 2], none⟩ (PT.step 1 ⟨some 34, .nilck, [.t 33], none⟩ (PT.step 2 ⟨some 35, .fld 0, [.t 34], none⟩ (PT.step 3 ⟨some 36, .load false 1, [.t 35], none⟩ (PT.step 5 ⟨some 38, .load false 1, [.t 37], none⟩ (PT.step 6 ⟨some 39, .call 68, [.t 36, .t 38], none⟩ (PT.step 7 ⟨some 32, .mov, [.t 39], none⟩ (PT.step 8 ⟨some 40, .ext 0, [.t 32], none⟩ (PT.step 9 ⟨some 41, .ext 1, [.t 32], none⟩ (PT.step 10 ⟨some 9, .mov, [.t 40], none⟩ (PT.step 11 ⟨some 10, .mov, [.t 41], none⟩ PT.done))))))))))))) (AC.seq (AC.reg [⟨some 42, .load false 1, [.t 3], none⟩,⟨some 43, .fld 2, [.t 6], none⟩,⟨some 44, .load false 1, [.t 43], none⟩,⟨some 45, .call 69, [.t 42, .t 44], none⟩,⟨some 46, .mov, [.t 45], none⟩,⟨some 47, .load false 1, [.t 5], (some (46, true))⟩,⟨some 48, .mov, [.t 7], (some (46, true))⟩,⟨some 49, .idxp 1, [.t 47, .t 48], (some (46, true))⟩,⟨some 50, .load false 1, [.t 49], (some (46, true))⟩,⟨some 51, .mov, [.t 9], (some (46, true))⟩,⟨some 52, .call 70, [.t 50, .t 51], (some (46, true))⟩,⟨some 53, .un .not, [.t 52], (some (46, true))⟩,⟨some 54, .pick, [.t 46, .t 53, .c (.bool false)], none⟩]) (AC.cond (.t 54) (AC.par (PT.step 1 ⟨some 56, .mov, [.t 7], none⟩ (PT.step 3 ⟨some 58, .mov, [.t 7], none⟩ (PT.step 6 ⟨some 61, .mov, [.t 9], none⟩ (PT.step 7 ⟨some 62, .bslice 1 1 (.int .i64 0) [0], [.t 61], none⟩ (PT.step 2 ⟨some 57, .load false 1, [.t 5], none⟩ (PT.step 4 ⟨some 59, .idxp 1, [.t 57, .t 58], none⟩ (PT.step 5 ⟨some 60, .load false 1, [.t 59], none⟩ (PT.alt (PT.step 0 ⟨some 55, .load false 1, [.t 5], none⟩ (PT.step 8 ⟨some 63, .append 1 8, [.t 60, .t 62], none⟩ (PT.step 9 ⟨some 64, .idxp 1, [.t 55, .t 56], none⟩ (PT.step 10 ⟨none, .store 1, [.t 64, .t 63], none⟩ PT.done)))) (PT.step 8 ⟨some 63, .append 1 8, [.t 60, .t 62], none⟩ (PT.step 0 ⟨some 55, .load false 1, [.t 5], none⟩ (PT.step 9 ⟨some 64, .idxp 1, [.t 55, .t 56], none⟩ (PT.step 10 ⟨none, .store 1, [.t 64, .t 63], none⟩ PT.done))))))))))))) AC.skip)))))
/- (*umpire/graph.Graph).Next -/
def c_next : AC := (AC.seq (AC.reg [⟨some 2, .box, [.t 0], none⟩,⟨some 3, .box, [.t 1], none⟩,⟨some 4, .mov, [.c (.nilsl)], none⟩]) (AC.seq (AC.seq (AC.reg [⟨some 11, .load false 1, [.t 2], none⟩,⟨some 12, .eqn false 0, [.t 11, .c (.nilptr)], none⟩]) (AC.cond (.t 12) (AC.seq (AC.reg [⟨some 4, .mov, [.c (.nilsl)], none⟩]) AC.ret) AC.skip)) (AC.seq (AC.reg [⟨some 13, .load false 1, [.t 2], none⟩,⟨some 14, .nilck, [.t 13], none⟩,⟨some 15, .fld 0, [.t 14], none⟩,⟨some 16, .load false 1, [.t 15], none⟩,⟨some 17, .len 1 0, [.t 16], none⟩,⟨some 18, .makesl 1 24 [.nilsl], [.t 17, .t 17], none⟩,⟨some 5, .alloc [.nilsl], [], none⟩,⟨none, .store 1, [.t 5, .t 18], none⟩]) (AC.seq (AC.seq (AC.reg [⟨some 19, .load false 1, [.t 2], none⟩,⟨some 20, .call 43, [.t 19], none⟩]) (AC.block 0 (AC.rangef (.t 20) [21] (AC.reg [⟨some 6, .alloc [.int .u16 0, .int .u16 0, .int .u8 0], [], none⟩,⟨none, .store 3, [.t 6, .t 21], none⟩]) c_next_B1))) (AC.seq (AC.reg [⟨some 65, .load false 1, [.t 5], none⟩,⟨some 4, .mov, [.t 65], none⟩]) AC.ret)))))
def r_next : AC × List RT × Nat := (c_next, [.tmp 4], 66)
theorem ok_nexte : compF Tryz.prog Tryz.f31 ⟨false, false, []⟩ = some r_next := by kernel_rfl
variable {E : Env}
/-! lists of lists that grow -/
theorem app_now2 {W : AW} {K : V → AW → Prop} {h x : V} {xs : List V} {s lo by' : Nat} (hn : nowG W h xs s lo) (hC : Cl W) (hlo : lo ≤ W.nx) (hs : 0 < s) (hx : x.cells.all V.one = true) (hb : (xs.length + 1) * by' ≤ 2 ^ 46)
    (hK : ∀ r W', nowG W' (.buf true r s (xs.length + 1)) (xs ++ [x]) s lo → Cl W' → W.nx ≤ W'.nx → (r = W.nx ∨ h = .buf true r s xs.length) → (∀ y, y < W.nx → y ≠ r → W'.get y = W.get y) → K (.buf true r s (xs.length + 1)) W') : sem E (.append s by') [h, .sl s true [x]] W K := by
  rcases hn with ⟨rfl, rfl⟩ | ⟨r, h1, h2, rfl, h4, h5⟩
  · have e : sem E (.append s by') [.nilsl, .sl s true [x]] W K = K (.buf true W.nx s 1) (W.alloc (.buf true s [x])) := by
      simp [sem, elemsV, hs]
      intro; simp at hb; omega
    rw [e]
    refine hK _ _ (.inr ⟨W.nx, hlo, by rw [alloc_nx]; omega, rfl, by simp, alloc_at⟩) ?_ (by rw [alloc_nx]; omega) (.inl rfl) (fun y hy _ => alloc_lt hy)
    intro y hy
    rw [alloc_nx] at hy
    rw [al_gets, if_neg (by omega)]
    exact hC y (by omega)
  · have e : sem E (.append s by') [.buf true r s xs.length, .sl s true [x]] W K = K (.buf true r s (xs.length + 1)) (W.put r (.buf true s (xs ++ [x]))) := by
      simp only [sem, elemsV, if_true, h5, List.length_cons, List.length_nil, Nat.zero_add, List.all_cons, List.all_nil, Bool.and_true, hx]
      exact propext ⟨fun h => h.2.2.2.2.2.2.2, fun h => ⟨hs, trivial, trivial, trivial, trivial, hb, trivial, h⟩⟩
    rw [e]
    exact hK _ _ (.inr ⟨r, h1, by rw [put_nx]; exact h2, by simp, by simp, put_at⟩) (hC.put h2) (by rw [put_nx]; omega) (.inr rfl) (fun y _ hne => put_ne hne)
/-- Cells that hold lists which grow, each in a place of its own. -/
structure Gc (W : AW) (cs : List V) (out : List (List Int)) (lo : Nat) : Prop where
  len : cs.length = out.length
  now : ∀ i (h : i < cs.length) (h' : i < out.length), nowG W cs[i] (i64s out[i]) 1 lo
  ne : ∀ i j (h : i < cs.length) (h' : j < cs.length), i ≠ j → ∀ r n m, cs[i] = .buf true r 1 n → cs[j] ≠ .buf true r 1 m
theorem Gc.start (W : AW) (n lo : Nat) : Gc W (List.replicate n .nilsl) (List.replicate n []) lo where
  len := by simp
  now := fun i h h' => .inl ⟨by simp, by simp [i64s]⟩
  ne := fun i j h h' _ r n m e => by simp at e
theorem Gc.to {W W' : AW} {cs : List V} {out : List (List Int)} {lo : Nat} (h : Gc W cs out lo) (hx : W.nx ≤ W'.nx) (hg : ∀ r, lo ≤ r → r < W.nx → (∃ ys, W.get r = some (.buf true 1 ys)) → W'.get r = W.get r) : Gc W' cs out lo :=
  ⟨h.len, fun i h1 h2 => (h.now i h1 h2).to hx hg, h.ne⟩
theorem Gc.app {W W' : AW} {cs : List V} {out : List (List Int)} {lo f r : Nat} {x : Int} (h : Gc W cs out lo) (hf : f < cs.length) (hf' : f < out.length) (hn : nowG W' (.buf true r 1 ((i64s out[f]).length + 1)) (i64s out[f] ++ [.int .i64 x]) 1 lo) (hx : W.nx ≤ W'.nx) (hr : r = W.nx ∨ cs[f] = .buf true r 1 (i64s out[f]).length) (hg : ∀ y, y < W.nx → y ≠ r → W'.get y = W.get y) :
    Gc W' (cs.set f (.buf true r 1 ((i64s out[f]).length + 1))) (out.set f (out[f] ++ [x])) lo := by
  have hlen := h.len
  have hne : ∀ j (hj : j < cs.length), j ≠ f → ∀ m, cs[j] ≠ .buf true r 1 m := by
    intro j hj hjf m e
    rcases hr with rfl | hr
    · rcases h.now j hj (by omega) with ⟨e1, _⟩ | ⟨r', h1, h2, h3, _⟩
      · rw [e] at e1; cases e1
      · rw [e] at h3; cases h3; omega
    · exact h.ne f j hf hj (fun e => hjf e.symm) r _ m hr e
  refine ⟨by simp [hlen], fun i h1 h2 => ?_, fun i j h1 h2 hij r' n m e1 e2 => ?_⟩
  · have h1' : i < cs.length := by simpa using h1
    have h2' : i < out.length := by simpa using h2
    by_cases e : i = f
    · subst e
      rw [List.getElem_set_self, List.getElem_set_self, show i64s (out[i] ++ [x]) = i64s out[i] ++ [.int .i64 x] by simp [i64s]]
      exact hn
    · rw [List.getElem_set_ne (by omega), List.getElem_set_ne (by omega)]
      rcases h.now i h1' h2' with g | ⟨r', g1, g2, g3, g4, g5⟩
      · exact .inl g
      · refine .inr ⟨r', g1, by omega, g3, g4, ?_⟩
        rw [hg r' g2 (by rintro rfl; exact hne i h1' e _ g3)]; exact g5
  · have h1' : i < cs.length := by simpa using h1
    have h2' : j < cs.length := by simpa using h2
    rw [List.getElem_set] at e1 e2
    by_cases ei : f = i
    · rw [if_pos ei] at e1
      rw [if_neg (by omega)] at e2
      have : r = r' := by injection e1
      subst this
      exact hne j h2' (by omega) _ e2
    · rw [if_neg ei] at e1
      by_cases ej : f = j
      · rw [if_pos ej] at e2
        have : r = r' := by injection e2
        subst this
        exact hne i h1' (by omega) _ e1
      · rw [if_neg ej] at e2
        exact h.ne i j h1' h2' hij r' n m e1 e2
theorem Gc.frz {W : AW} {cs : List V} {out : List (List Int)} {lo : Nat} (h : Gc W cs out lo) : cs.map W.frz = out.map fun l => nowGS 1 (i64s l) := by
  refine List.ext_getElem (by simp [h.len]) fun i h1 h2 => ?_
  rw [List.getElem_map, List.getElem_map]
  exact (h.now i (by simpa using h1) (by simpa using h2)).frz
/-! where edges lead -/
def nextStep (N kinds : List Int) (out : List (List Int)) (x : Ed) : List (List Int) :=
  if (kinds.any fun k => decide (x.kd = k)) = true ∧ ((out.getD (lowB N x.fr) []).any fun t => decide ((lowB N x.to : Int) = t)) = false then out.set (lowB N x.fr) (out.getD (lowB N x.fr) [] ++ [(lowB N x.to : Int)]) else out
def nextR (P : List Ek) (N kinds : List Int) : List (List Int) := (edL P).foldl (nextStep N kinds) (List.replicate N.length [])
theorem nextStep_len (N kinds : List Int) (out : List (List Int)) (x : Ed) : (nextStep N kinds out x).length = out.length := by
  unfold nextStep; split <;> simp
theorem lowB_lt {l : List Int} {x : Int} (h : x ∈ l) : lowB l x < l.length := by
  induction l with
  | nil => simp at h
  | cons a l ih =>
    simp only [lowB, List.takeWhile_cons]
    split
    · rename_i hd
      rcases List.mem_cons.1 h with rfl | h
      · simp at hd
      · have := ih h; simp only [lowB] at this; simp; omega
    · simp
theorem ix1 {W : AW} {K : V → AW → Prop} {r n i : Nat} {kk : IntKind} (h : i < n) : sem E (.idxp 1) [.slr r 0 n 1, .int kk (i : Int)] W K = K (.vptr r i) W := by
  rw [sem_idxp_slr (by omega) (by omega)]; simp
theorem ldv {W : AW} {K : V → AW → Prop} {r i : Nat} {cs : List V} {c : V} (h : W.get r = some (.vec 1 cs)) (hc : cs[i]? = some c) : sem E (.load false 1) [.vptr r i] W K = K c W := by
  have hp : partV cs i 1 false = some c := by simp [partV, hc]
  exact sem_load_vec (g := false) h hp
theorem stv {W : AW} {K : V → AW → Prop} {r i : Nat} {cs : List V} {c : V} (h : W.get r = some (.vec 1 cs)) (hi : i < cs.length) (h1 : c.cells = [c]) (h2 : c.one = true) : sem E (.store 1) [.vptr r i, c] W K = K .undef (W.put r (.vec 1 (cs.set i c))) := by
  rw [sem_store_vec (s := 1) (x := c) h (by rw [h1]; rfl) (by rw [h1]; simp [h2]) (by omega), h1, List.set_eq_take_append_cons_drop, if_pos hi]
  simp
theorem bsI {W : AW} {K : V → AW → Prop} {a : Int} : sem E (.bslice 1 1 (.int .i64 0) [0]) [.int .i64 a] W K = K (.sl 1 true [.int .i64 a]) W := by
  simp [sem, rsem, tsem, fillE, V.cells]
theorem next1_go (hP : E.P = Tryz.prog) {W1 : AW} {g m lo0 b2 b3 b5 b6 rv lo : Nat} {h kv : V} {P : List Ek} {N kinds : List Int} (hC : Cl W1) (hG : Gr W1 g m h P N lo0) (hNs : N.Pairwise fun a b => a < b) (hkv : isS 1 kv (u8s kinds)) (hkl : kinds.length < 2 ^ 40) {x : Ed} (hx1 : x.fr ∈ N) (hx2 : x.to ∈ N) {cs : List V} {out : List (List Int)} (hcs : Gc W1 cs out lo) (hrv : W1.get rv = some (.vec 1 cs)) (hout : out.length = N.length) (hol : ∀ l ∈ out, l.length < 2 ^ 40) (hlo : lo ≤ W1.nx)
    {A : AFr} {Q : Exit → AFr → AW → Prop} (a2 : A 2 = some (.ptr b2 0)) (a3 : A 3 = some (.ptr b3 0)) (a5 : A 5 = some (.ptr b5 0)) (a6 : A 6 = some (.ptr b6 0))
    (g2 : W1.get b2 = some (.row [.ptr g 0])) (g3 : W1.get b3 = some (.row [kv])) (g5 : W1.get b5 = some (.row [.slr rv 0 N.length 1])) (g6 : W1.get b6 = some (.row [.int .u16 x.fr, .int .u16 x.to, .int .u8 x.kd])) (l5 : b5 < W1.nx) (lr : rv < W1.nx)
    (hQ : ∀ A' W' cs', Cl W' → W1.nx ≤ W'.nx → Gc W' cs' (nextStep N kinds out x) lo → W'.get rv = some (.vec 1 cs') → (∀ y, y < W1.nx → y ≠ rv → (∀ ys, W1.get y ≠ some (.buf true 1 ys)) → W'.get y = W1.get y) → (∀ y, y < lo → y ≠ rv → W'.get y = W1.get y) → Q .normal A' W') : awp E c_next_B1 Q A W1 := by
  have hf := lowB_lt hx1
  have ht := lowB_lt hx2
  have hN := hG.nl
  have hns := nowGS_S 1 (intsV N)
  have hcl := hcs.len
  have hfc : lowB N x.fr < cs.length := by omega
  have hfo : lowB N x.fr < out.length := by omega
  have hnow := hcs.now _ hfc hfo
  have hat : cs[lowB N x.fr]? = some cs[lowB N x.fr] := List.getElem?_eq_getElem _
  have hgd : out.getD (lowB N x.fr) [] = out[lowB N x.fr] := by rw [List.getD_eq_getElem?_getD, List.getElem?_eq_getElem hfo]; rfl
  have hos := nowGS_S 1 (i64s out[lowB N x.fr])
  have holf := hol _ (List.getElem_mem hfo)
  simp (maxSteps := 200000) (disch := omega) only [BS, BC, e_seq, ↓reduceIte, Nat.reduceEqDiff, BM, BD, c_next_B1, a2, a6, g2, g6, hG.hg, hG.now.frz]
  refine pc (bs16_c hP _ hns hNs (by omega) x.fr) ?_
  simp (maxSteps := 200000) (disch := omega) only [BS, BC, e_seq, ↓reduceIte, Nat.reduceEqDiff, BM, BD, a2, a6, g2, g6, hG.hg, hG.now.frz]
  refine pc (bs16_c hP _ hns hNs (by omega) x.to) ?_
  simp (maxSteps := 200000) (disch := omega) only [BS, BC, e_seq, ↓reduceIte, Nat.reduceEqDiff, BM, BD, a3, a6, g3, g6, hkv.frz]
  refine pc (has8_c hP _ hkv hkl x.kd) ?_
  cases hk : kinds.any fun k => decide (x.kd = k) with
  | false =>
    have hst : nextStep N kinds out x = out := by simp [nextStep, hk]
    rw [hst] at hQ
    simp (maxSteps := 200000) (disch := omega) only [BS, ↓reduceIte]
    repeat (rw [guard_if]; simp (maxSteps := 200000) (disch := omega) only [BS, BC, cond_if, ↓reduceIte, Nat.reduceEqDiff, BM])
    exact hQ _ _ cs hC (Nat.le_refl _) hcs hrv (fun _ _ _ _ => rfl) (fun _ _ _ => rfl)
  | true =>
    simp (maxSteps := 200000) (disch := omega) only [BS, ↓reduceIte]
    repeat (rw [guard_if]; simp (maxSteps := 200000) (disch := omega) only [BS, BC, ↓reduceIte, Nat.reduceEqDiff, BM, a5, g5, ix1 hf, ldv hrv hat, hnow.frz])
    refine pc (hasI_c hP _ hos holf _) ?_
    cases hi : out[lowB N x.fr].any fun t => decide ((lowB N x.to : Int) = t) with
    | true =>
      have hst : nextStep N kinds out x = out := by simp only [nextStep, hk, hgd, hi]; simp
      rw [hst] at hQ
      simp (maxSteps := 200000) (disch := omega) only [BS]
      repeat (rw [guard_if]; simp (maxSteps := 200000) (disch := omega) only [BS, BC, cond_if, ↓reduceIte, Nat.reduceEqDiff, BD])
      exact hQ _ _ cs hC (Nat.le_refl _) hcs hrv (fun _ _ _ _ => rfl) (fun _ _ _ => rfl)
    | false =>
      have hst : nextStep N kinds out x = out.set (lowB N x.fr) (out[lowB N x.fr] ++ [(lowB N x.to : Int)]) := by simp only [nextStep, hk, hgd, hi]; simp
      rw [hst] at hQ
      simp (maxSteps := 200000) (disch := omega) only [BS]
      repeat (rw [guard_if]; simp (maxSteps := 200000) (disch := omega) only [BS, BC, cond_if, ↓reduceIte, Nat.reduceEqDiff, BM, BD, a5, g5, ix1 hf, ldv hrv hat, bsI])
      have hnr : ∀ r, (r = W1.nx ∨ cs[lowB N x.fr] = .buf true r 1 (i64s out[lowB N x.fr]).length) → b5 ≠ r ∧ rv ≠ r ∧ b2 ≠ r := by
        have l2 : b2 < W1.nx := Classical.byContradiction fun hn => by rw [hC b2 (by omega)] at g2; cases g2
        intro r hr
        rcases hr with rfl | hr
        · omega
        · rcases hnow with ⟨e1, _⟩ | ⟨r', c1, c2, c3, c4, c5⟩
          · rw [hr] at e1; cases e1
          · rw [hr] at c3; cases c3
            refine ⟨?_, ?_, ?_⟩ <;> rintro rfl
            · rw [g5] at c5; cases c5
            · rw [hrv] at c5; cases c5
            · rw [g2] at c5; cases c5
      have hap : ∀ (r : Nat) (W' : AW), nowG W' (.buf true r 1 ((i64s out[lowB N x.fr]).length + 1)) (i64s out[lowB N x.fr] ++ [.int .i64 (lowB N x.to)]) 1 lo → Cl W' → W1.nx ≤ W'.nx → (r = W1.nx ∨ cs[lowB N x.fr] = .buf true r 1 (i64s out[lowB N x.fr]).length) → (∀ y, y < W1.nx → y ≠ r → W'.get y = W1.get y) → ∀ A', Q .normal A' (W'.put rv (.vec 1 (cs.set (lowB N x.fr) (.buf true r 1 ((i64s out[lowB N x.fr]).length + 1))))) := by
        intro r W' gN gC gn hr gg A'
        obtain ⟨n5, nv, _⟩ := hnr r hr
        have hrv' : W'.get rv = some (.vec 1 cs) := by rw [gg rv lr nv]; exact hrv
        have hg1 := hcs.app (f := lowB N x.fr) (r := r) (x := (lowB N x.to : Int)) hfc hfo gN gn hr gg
        refine hQ A' _ _ (gC.put (by omega)) (by rw [put_nx]; exact gn) (hg1.to (by rw [put_nx]; exact Nat.le_refl _) fun y _ _ ⟨ys, hy⟩ => put_ne (by rintro rfl; rw [hrv'] at hy; cases hy)) put_at (fun y hy hyr hyb => ?_) (fun y hy hyr => ?_)
        · rw [put_ne hyr, gg y hy]
          rintro rfl
          rcases hr with e | hr
          · omega
          · rcases hnow with ⟨e1, _⟩ | ⟨r', c1, c2, c3, c4, c5⟩
            · rw [hr] at e1; cases e1
            · rw [hr] at c3; cases c3; exact hyb _ c5
        · rw [put_ne hyr, gg y (by omega)]
          rintro rfl
          rcases hr with e | hr
          · omega
          · rcases hnow with ⟨e1, _⟩ | ⟨r', c1, c2, c3, c4, c5⟩
            · rw [hr] at e1; cases e1
            · rw [hr] at c3; cases c3; omega
      have hbl : ((i64s out[lowB N x.fr]).length + 1) * 8 ≤ 2 ^ 46 := by rw [i64s_len]; omega
      constructor
      · refine app_now2 (lo := lo) hnow hC hlo (by decide) rfl hbl ?_
        intro r W' gN gC gn hr gg
        obtain ⟨n5, nv, _⟩ := hnr r hr
        have hrv' : W'.get rv = some (.vec 1 cs) := by rw [gg rv lr nv]; exact hrv
        simp (maxSteps := 200000) (disch := omega) only [BS, ↓reduceIte, Nat.reduceEqDiff, BM, ix1 hf, stv hrv' hfc (c := .buf true r 1 ((i64s out[lowB N x.fr]).length + 1)) rfl rfl]
        exact hap r W' gN gC gn hr gg _
      · refine app_now2 (lo := lo) hnow hC hlo (by decide) rfl hbl ?_
        intro r W' gN gC gn hr gg
        obtain ⟨n5, nv, _⟩ := hnr r hr
        have hrv' : W'.get rv = some (.vec 1 cs) := by rw [gg rv lr nv]; exact hrv
        have g5' : W'.get b5 = some (.row [.slr rv 0 N.length 1]) := by rw [gg b5 l5 n5]; exact g5
        simp (maxSteps := 200000) (disch := omega) only [BS, BC, ↓reduceIte, Nat.reduceEqDiff, BM, a5, g5', ix1 hf, stv hrv' hfc (c := .buf true r 1 ((i64s out[lowB N x.fr]).length + 1)) rfl rfl]
        exact hap r W' gN gC gn hr gg _
end Go.AL.S
set_option maxRecDepth 100000
set_option maxHeartbeats 2000000
namespace Go.AL.S
open Go Go.AL Go.AL.SE Go.Proofs
variable {E : Env}
def llV (out : List (List Int)) : V := .sl 1 false (out.map fun l => nowGS 1 (i64s l))
theorem mk24 {W : AW} {K : V → AW → Prop} {n : Nat} (h : n < 2 ^ 40) : sem E (.makesl 1 24 [.nilsl]) [.int .i64 (n : Int), .int .i64 (n : Int)] W K = K (.slr W.nx 0 n 1) (W.alloc (.vec 1 (List.replicate n .nilsl))) := by
  have hz : ∀ k, zerosV [V.nilsl] k = List.replicate k .nilsl := fun k => by
    induction k with
    | zero => rfl
    | succ k ih => simp only [zerosV, List.replicate_succ, List.flatten_cons] at ih ⊢; rw [ih]; rfl
  simp only [sem, Int.toNat_natCast, hz]
  exact propext ⟨fun h => h.2.2.2.2, fun h => ⟨by omega, trivial, by omega, by omega, h⟩⟩
theorem chunks1' : ∀ (l : List V), chunks 1 l.length l = l
  | [] => rfl
  | x :: l => by
    have := chunks1' l
    simp only [List.length_cons, chunks, if_true, List.headD_cons, List.drop_succ_cons, List.drop_zero, this]
theorem nextStep_le {N kinds : List Int} {out : List (List Int)} {x : Ed} {i : Nat} (h : ∀ l ∈ out, l.length ≤ i) : ∀ l ∈ nextStep N kinds out x, l.length ≤ i + 1 := by
  intro l hl
  unfold nextStep at hl
  split at hl
  · rcases List.mem_or_eq_of_mem_set hl with hl | rfl
    · have := h l hl; omega
    · rw [List.length_append]
      by_cases hk : lowB N x.fr < out.length
      · rw [List.getD_eq_getElem?_getD, List.getElem?_eq_getElem hk]
        have := h _ (List.getElem_mem hk)
        simp; omega
      · rw [List.getD_eq_getElem?_getD, List.getElem?_eq_none (by omega)]; simp
  · have := h l hl; omega
theorem ll_ones (out : List (List Int)) : (out.map fun l => nowGS 1 (i64s l)).all V.one = true := by
  rw [List.all_map, List.all_eq_true]
  intro l _
  exact (nowGS_S 1 (i64s l)).one
theorem ll_bel (out : List (List Int)) (n : Nat) : V.belL n (out.map fun l => nowGS 1 (i64s l)) = true := by
  have hb : ∀ l : List Int, V.belL n (i64s l) = true := by
    intro l
    induction l with
    | nil => rfl
    | cons x l ih => simp only [i64s, List.map_cons, V.belL, Bool.and_eq_true] at ih ⊢; exact ⟨rfl, ih⟩
  induction out with
  | nil => rfl
  | cons x l ih =>
    simp only [List.map_cons, V.belL, Bool.and_eq_true]
    exact ⟨(nowGS_S 1 (i64s x)).lens (hb x), ih⟩
theorem nextG_c (hP : E.P = Tryz.prog) (W : AW) {g m lo : Nat} {h kv : V} {P : List Ek} {N kinds : List Int} (hG : Gr W g m h P N lo) (hNs : N.Pairwise fun a b => a < b) (hPN : ∀ x ∈ P, x.1 ∈ N ∧ x.2.1 ∈ N) (hkv : isS 1 kv (u8s kinds)) (hkl : kinds.length < 2 ^ 40) (hne : N ≠ []) :
    ACalls E 31 [.ptr g 0, kv] W fun Y W' => Y = llV (nextR P N kinds) ∧ W' = W := by
  refine ACalls.of hP Tryz.func31 ok_nexte (by simp) fun _ hok => ?_
  refine awp_start hok ?_
  have hlg := hG.lg
  have hN := hG.nl
  simp (maxSteps := 200000) (disch := omega) only [BS, BC, e_seq, cond_if, ↓reduceIte, Nat.reduceEqDiff, BM, BD, Nat.reduceAdd, Nat.reduceLeDiff, Nat.reduceLT, c_next, hkv.cells, hG.hg, hG.now.len, ints_len, mk24]
  refine (edges_c hP _ g).mono ?_
  rintro _ W0 ⟨qe, rfl, hqe, hqn, hE⟩
  have hE0 : Ex W W0 := Ex.x0.trans hE
  have hn0 := hE.nx
  simp only [X_nx, rf, List.length_cons, List.length_nil] at hn0
  have w2 : W0.get (rf W.nx 0) = some (.row [.ptr g 0]) := by rw [hE.get _ (by simp [X_nx, rf]), X_get]; rfl
  have w3 : W0.get (rf W.nx 1) = some (.row [kv]) := by rw [hE.get _ (by simp [X_nx, rf]), X_get]; rfl
  have w4 : W0.get (rf W.nx 2) = some (.vec 1 (List.replicate N.length .nilsl)) := by rw [hE.get _ (by simp [X_nx, rf]), X_get]; rfl
  have w5 : W0.get (rf W.nx 3) = some (.row [.slr (rf W.nx 2) 0 N.length 1]) := by rw [hE.get _ (by simp [X_nx, rf]), X_get]; rfl
  have r0 : rf W.nx 0 = W.nx := rfl
  have r1 : rf W.nx 1 = W.nx + 1 := rfl
  have r2 : rf W.nx 2 = W.nx + 2 := rfl
  have r3 : rf W.nx 3 = W.nx + 3 := rfl
  have hG0 := hG.ex hE0
  have hl := edL_lt hG
  simp (maxSteps := 200000) (disch := omega) only [BS]
  refine range_edges hP (q := qe) (P := P) (N := N) (by simp only [ev_t]; exact if_pos rfl) hqe hqn hE0.cl hG0 (fun i W1 => Cl W1 ∧ W0.nx < W1.nx ∧ (∀ x, x < W0.nx → x ≠ rf W.nx 2 → W1.get x = W0.get x) ∧ ∃ cs, Gc W1 cs (((edL P).take i).foldl (nextStep N kinds) (List.replicate N.length [])) W0.nx ∧ W1.get (rf W.nx 2) = some (.vec 1 cs) ∧ (((edL P).take i).foldl (nextStep N kinds) (List.replicate N.length [])).length = N.length ∧ ∀ l ∈ ((edL P).take i).foldl (nextStep N kinds) (List.replicate N.length []), l.length ≤ i) ?_ ?_ ?_ ?_
  · intro W1 hE1 hn1
    refine ⟨hE1.cl, hn1, fun x hx _ => hE1.get x hx, List.replicate N.length .nilsl, Gc.start _ _ _, by rw [hE1.get _ (by omega)]; exact w4, by simp, by simp⟩
  · exact fun i W1 h => ⟨h.1, h.2.1⟩
  · rintro i hi W1 W1' ⟨j0, j1, j2, cs, j3, j4, j5, j6⟩ hE1 hlp
    have hst : ((edL P).take (i + 1)).foldl (nextStep N kinds) (List.replicate N.length []) = nextStep N kinds (((edL P).take i).foldl (nextStep N kinds) (List.replicate N.length [])) (edL P)[i] := by
      rw [List.take_add_one, List.getElem?_eq_getElem hi, List.foldl_append]; rfl
    have hxN := hPN _ (edL_mem.1 (List.getElem_mem hi))
    generalize (edL P)[i] = x at hst hxN
    rw [hst]
    generalize ((edL P).take i).foldl (nextStep N kinds) (List.replicate N.length []) = out at j3 j5 j6
    have hn1 := hE1.nx
    refine awp_startC hE1.cl ?_
    simp (maxSteps := 2000000) (disch := omega) only [BS, BC, ↓reduceIte, Nat.reduceEqDiff, BM, BD, Nat.reduceAdd, Nat.reduceLeDiff, Nat.reduceLT, Ed.V, hlp]
    refine ⟨trivial, ?_⟩
    have hxg : ∀ y, y < W0.nx → y ≠ rf W.nx 2 → (X (W1'.put W0.nx (.loop .busy none)) W1'.nx [.row [.int .u16 x.fr, .int .u16 x.to, .int .u8 x.kd]]).get y = W0.get y := fun y hy hyr => by
      rw [X_old (by omega), put_ne (by omega), hE1.get y (by omega)]; exact j2 y hy hyr
    have hG1 := hG.ex (W1 := X (W1'.put W0.nx (.loop .busy none)) W1'.nx [.row [.int .u16 x.fr, .int .u16 x.to, .int .u8 x.kd]]) ⟨Cl.X, by simp only [X_nx, rf]; omega, fun y hy => by rw [hxg y (by omega) (by omega)]; exact hE0.get y hy⟩
    have hrv : (X (W1'.put W0.nx (.loop .busy none)) W1'.nx [.row [.int .u16 x.fr, .int .u16 x.to, .int .u8 x.kd]]).get (rf W.nx 2) = some (.vec 1 cs) := by
      rw [X_old (by omega), put_ne (by omega), hE1.get _ (by omega)]; exact j4
    have hcs := (j3.to hE1.nx fun r _ hr _ => hE1.get r hr).to (W' := X (W1'.put W0.nx (.loop .busy none)) W1'.nx [.row [.int .u16 x.fr, .int .u16 x.to, .int .u8 x.kd]]) (by simp only [X_nx, rf]; omega) fun r _ h2 ⟨ys, hy⟩ => by rw [X_old h2, put_ne (by rintro rfl; rw [hlp] at hy; cases hy)]
    refine next1_go hP (lo := W0.nx) (b2 := rf W.nx 0) (b3 := rf W.nx 1) (b5 := rf W.nx 3) (b6 := rf W1'.nx 0) (rv := rf W.nx 2) Cl.X hG1 hNs hkv hkl hxN.1 hxN.2 hcs hrv j5 (fun l hl' => by have := j6 l hl'; omega) (by simp only [X_nx, rf]; omega) rfl rfl rfl rfl (by rw [hxg _ (by omega) (by omega)]; exact w2) (by rw [hxg _ (by omega) (by omega)]; exact w3) (by rw [hxg _ (by omega) (by omega)]; exact w5) (by rw [X_get]; rfl) (by simp only [X_nx]; simp only [rf]; omega) (by simp only [X_nx]; simp only [rf]; omega) ?_
    intro A'' W'' cs' fC fn fG frv ff1 ff2
    simp only [X_nx, rf, List.length_cons, List.length_nil] at fn
    have hloop : W''.get W0.nx = some (.loop .busy none) := by
      rw [ff1 W0.nx (by simp only [X_nx, rf]; omega) (by omega) (fun ys => by rw [X_old (by omega), put_at]; simp), X_old (by omega), put_at]
    refine ⟨rfl, hloop, fC.put (by omega), by rw [put_nx]; omega, fun y hy hyr => ?_, cs', ?_, ?_, by rw [nextStep_len]; exact j5, nextStep_le j6⟩
    · rw [put_ne (by omega), ff2 y hy hyr]; exact hxg y hy hyr
    · exact fG.to (by rw [put_nx]; exact Nat.le_refl _) fun r _ _ ⟨ys, hy⟩ => put_ne (by rintro rfl; rw [hloop] at hy; cases hy)
    · rw [put_ne (by omega)]; exact frv
  · rintro W1 ⟨j0, j1, j2, cs, j3, j4, j5, j6⟩ hlp
    rw [List.take_length] at j3 j5
    have k5 : (W1.put W0.nx (.loop .exhausted none)).get (rf W.nx 3) = some (.row [.slr (rf W.nx 2) 0 N.length 1]) := by rw [put_ne (by omega), j2 _ (by omega) (by omega)]; exact w5
    simp (maxSteps := 200000) (disch := omega) only [BS, BC, e_seq, ↓reduceIte, Nat.reduceEqDiff, BM, k5]
    have hcs := j3.to (W' := W1.put W0.nx (.loop .exhausted none)) (by rw [put_nx]; exact Nat.le_refl _) fun r _ _ ⟨ys, hy⟩ => put_ne (by rintro rfl; rw [hlp] at hy; cases hy)
    have hfz := hcs.frz
    have hcl := hcs.len
    have hlen : 0 < N.length := List.length_pos_iff.2 hne
    have hnr : nextR P N kinds = (edL P).foldl (nextStep N kinds) (List.replicate N.length []) := rfl
    rw [← hnr] at hfz hcl j5
    have hch : chunks 1 N.length (cs.map (W1.put W0.nx (.loop .exhausted none)).frz) = (nextR P N kinds).map fun l => nowGS 1 (i64s l) := by
      rw [hfz]
      have := chunks1' ((nextR P N kinds).map fun l => nowGS 1 (i64s l))
      rw [List.length_map, j5] at this
      exact this
    refine ⟨_, rfl, .sl 1 false (chunks 1 N.length (cs.map (W1.put W0.nx (.loop .exhausted none)).frz)), W, ?_, Nat.le_refl _, by rw [hch]; rfl, rfl⟩
    refine .frzd (by rw [put_ne (by omega)]; exact j4) (by omega) hlen (by decide) (by rw [hfz]; exact ll_ones _) ?_
    rw [hch]
    refine weak_back hok (ll_bel _ _) fun y hy => ?_
    have hy' : y < W.nx := hy
    have hyr : y ≠ rf W.nx 2 := by omega
    simp only [AW.drop, hyr, ↓reduceIte]
    rw [put_ne (by omega), j2 y (by omega) hyr]
    exact hE0.get y hy'
end Go.AL.S
set_option maxRecDepth 100000
set_option maxHeartbeats 2000000
namespace Go.AL.S
open Go Go.AL Go.AL.SE Go.Proofs
def c_lsame_0 : AC := (AC.seq (AC.seq (AC.reg [⟨some 11, .mov, [.t 5], none⟩,⟨some 12, .mov, [.t 0], none⟩,⟨some 13, .len 1 0, [.t 12], none⟩,⟨some 14, .bin .lss, [.t 11, .t 13], none⟩]) (AC.cond (.t 14) AC.skip (AC.exit 0))) (AC.seq (AC.block 1 (AC.seq (AC.par (PT.step 0 ⟨some 17, .mov, [.t 0], none⟩ (PT.step 1 ⟨some 18, .mov, [.t 5], none⟩ (PT.step 4 ⟨some 21, .mov, [.t 1], none⟩ (PT.step 5 ⟨some 22, .mov, [.t 5], none⟩ (PT.step 2 ⟨some 19, .idxp 1, [.t 17, .t 18], none⟩ (PT.step 3 ⟨some 20, .load false 1, [.t 19], none⟩ (PT.step 6 ⟨some 23, .idxp 1, [.t 21, .t 22], none⟩ (PT.step 7 ⟨some 24, .load false 1, [.t 23], none⟩ (PT.step 8 ⟨some 25, .bin .neq, [.t 20, .t 24], none⟩ PT.done)))))))))) (AC.cond (.t 25) (AC.seq (AC.reg [⟨some 4, .mov, [.c (.bool false)], none⟩]) AC.ret) AC.skip))) (AC.reg [⟨some 15, .mov, [.t 5], none⟩,⟨some 16, .bin .add, [.t 15, .c (.int .i64 1)], none⟩,⟨some 5, .mov, [.t 16], none⟩])))
/- umpire/umpirelaw27.same -/
def c_lsame : AC := (AC.seq (AC.reg [⟨some 4, .mov, [.c (.bool false)], none⟩]) (AC.seq (AC.seq (AC.reg [⟨some 6, .mov, [.t 0], none⟩,⟨some 7, .len 1 0, [.t 6], none⟩,⟨some 8, .mov, [.t 1], none⟩,⟨some 9, .len 1 0, [.t 8], none⟩,⟨some 10, .bin .neq, [.t 7, .t 9], none⟩]) (AC.cond (.t 10) (AC.seq (AC.reg [⟨some 4, .mov, [.c (.bool false)], none⟩]) AC.ret) AC.skip)) (AC.seq (AC.seq (AC.reg [⟨some 5, .mov, [.c (.int .i64 0)], none⟩]) (AC.block 0 (AC.loop c_lsame_0))) (AC.seq (AC.reg [⟨some 4, .mov, [.c (.bool true)], none⟩]) AC.ret))))
def r_lsame : AC × List RT × Nat := (c_lsame, [.tmp 4], 26)
theorem ok_lsamee : compF Tryz.prog Tryz.f26 ⟨false, false, []⟩ = some r_lsame := by kernel_rfl
/- (*umpire/graph.Graph).Count -/
def c_countG : AC := (AC.seq (AC.reg [⟨some 3, .box, [.t 1], none⟩,⟨some 4, .alloc [.int .i64 0], [], none⟩]) (AC.seq (AC.seq (AC.reg [⟨some 6, .mov, [.t 0], none⟩,⟨some 7, .call 43, [.t 6], none⟩]) (AC.block 0 (AC.rangef (.t 7) [8] (AC.reg [⟨some 5, .alloc [.int .u16 0, .int .u16 0, .int .u8 0], [], none⟩,⟨none, .store 3, [.t 5, .t 8], none⟩]) (AC.block 1 (AC.seq (AC.reg [⟨some 9, .fld 2, [.t 5], none⟩,⟨some 10, .load false 1, [.t 9], none⟩,⟨some 11, .load false 1, [.t 3], none⟩,⟨some 12, .bin .eql, [.t 10, .t 11], none⟩]) (AC.cond (.t 12) (AC.reg [⟨some 13, .load false 1, [.t 4], none⟩,⟨some 14, .bin .add, [.t 13, .c (.int .i64 1)], none⟩,⟨none, .store 1, [.t 4, .t 14], none⟩]) AC.skip)))))) (AC.seq (AC.reg [⟨some 15, .load false 1, [.t 4], none⟩,⟨none, .store 1, [.t 4, .t 15], none⟩]) AC.ret)))
def r_countG : AC × List RT × Nat := (c_countG, [.cell 4 false 1], 16)
theorem ok_countGe : compF Tryz.prog Tryz.f27 ⟨false, false, []⟩ = some r_countG := by kernel_rfl
variable {E : Env}
theorem lsame_c (hP : E.P = Tryz.prog) (W : AW) {v v' : V} {l l' : List Int} (h : isS 1 v (i64s l)) (h' : isS 1 v' (i64s l')) (hl : l.length < 2 ^ 40) (_ : l'.length < 2 ^ 40) : ACalls E 26 [v, v'] W fun X W' => X = .bool (decide (l = l')) ∧ W' = W := by
  refine ACalls.of hP Tryz.func26 ok_lsamee (by simp) fun _ hok => ?_
  have hne : ((l.length : Int) != (l'.length : Int)) = decide (l.length ≠ l'.length) := by rw [cmpne]; exact decide_eq_decide.2 (by omega)
  by_cases hn : l.length = l'.length
  · simp (maxSteps := 200000) (disch := omega) only [BS, BC, e_seq, cond_if, ↓reduceIte, Nat.reduceEqDiff, reduceCtorEq, c_lsame, h.len, h'.len, i64s_len, hne, show decide (l.length ≠ l'.length) = false by simp [hn]]
    rw [e_loop]
    refine ALoop.go (B := awp E _) (fun h => awp_mono _ h) (fun (k : Nat) A1 W1 => A1 0 = some v ∧ A1 1 = some v' ∧ A1 5 = some (.int .i64 k) ∧ k ≤ l.length ∧ W1 = W ∧ l.take k = l'.take k) (fun k => l.length - k) 0
      ⟨rfl, rfl, rfl, Nat.zero_le _, rfl, rfl⟩ ?_
    rintro k A1 W1 ⟨g0, g1, g5, gk, rfl, ge⟩ _
    by_cases hk1 : k < l.length
    · have hk2 : k < l'.length := by omega
      by_cases he : l[k] = l'[k]
      · simp (maxSteps := 2000000) (disch := omega) only [c_lsame_0, BS, BC, e_seq, cond_if, ↓reduceIte, Nat.reduceEqDiff, reduceCtorEq, BM, g0, g1, g5, h.len, i64s_len, clt, hk1, decide_true, h.idx (i64s_at hk1), h'.idx (i64s_at hk2), cmpne, show decide (l[k] ≠ l'[k]) = false by simp [he], wadd1]
        exact ⟨k + 1, ⟨(by first | trivial | rfl | omega), (by first | trivial | rfl | omega), (by first | trivial | rfl | omega), by omega, (by first | trivial | rfl | omega), take_ext ge hk1 hk2 he⟩, by omega, Nat.le_refl _⟩
      · simp (maxSteps := 2000000) (disch := omega) only [c_lsame_0, BS, BC, e_seq, cond_if, ↓reduceIte, Nat.reduceEqDiff, reduceCtorEq, BM, g0, g1, g5, h.len, i64s_len, clt, hk1, decide_true, h.idx (i64s_at hk1), h'.idx (i64s_at hk2), cmpne, show decide (l[k] ≠ l'[k]) = true by simp [he]]
        exact ⟨_, rfl, _, _, .weak weak_id, Nat.le_refl _, by rw [decide_eq_false (ne_at hk1 hk2 he)], rfl⟩
    · obtain rfl : k = l.length := by omega
      simp (maxSteps := 2000000) (disch := omega) only [c_lsame_0, BS, BC, e_seq, cond_if, ↓reduceIte, Nat.reduceEqDiff, reduceCtorEq, g0, g5, h.len, i64s_len, clt, hk1, decide_false]
      rw [List.take_length, List.take_of_length_le (by omega)] at ge
      exact ⟨_, rfl, _, _, .weak weak_id, Nat.le_refl _, by rw [decide_eq_true ge], rfl⟩
  · simp (maxSteps := 200000) (disch := omega) only [BS, BC, e_seq, cond_if, ↓reduceIte, Nat.reduceEqDiff, reduceCtorEq, c_lsame, h.len, h'.len, i64s_len, hne, show decide (l.length ≠ l'.length) = true by simp [hn]]
    exact ⟨_, rfl, _, _, .weak weak_id, Nat.le_refl _, by rw [decide_eq_false]; intro e; exact hn (by rw [e]), rfl⟩
def countK (P : List Ek) (k : Int) : Nat := ((edL P).filter fun e => decide (e.kd = k)).length
theorem countG_c (hP : E.P = Tryz.prog) (W : AW) {g m lo : Nat} {h : V} {P : List Ek} {N : List Int} (hG : Gr W g m h P N lo) (k : Int) : ACalls E 27 [.ptr g 0, .int .u8 k] W fun Y W' => Y = .int .i64 (countK P k) ∧ W' = W := by
  refine ACalls.of hP Tryz.func27 ok_countGe (by simp) fun _ hok => ?_
  refine awp_start hok ?_
  simp (maxSteps := 200000) (disch := omega) only [BS, BC, e_seq, ↓reduceIte, reduceCtorEq, BM, BD, c_countG]
  refine (edges_c hP _ g).mono ?_
  rintro _ W0 ⟨q, rfl, hq, hqn, hE⟩
  have hE0 : Ex W W0 := Ex.x0.trans hE
  have hn0 := hE.nx
  simp only [X_nx, rf, List.length_cons, List.length_nil] at hn0
  have r0 : rf W.nx 0 = W.nx := rfl
  have r1 : rf W.nx 1 = W.nx + 1 := rfl
  have w3 : W0.get (rf W.nx 0) = some (.row [.int .u8 k]) := by rw [hE.get _ (by simp [X_nx, rf]), X_get]; rfl
  have w4 : W0.get (rf W.nx 1) = some (.row [.int .i64 0]) := by rw [hE.get _ (by simp [X_nx, rf]), X_get]; rfl
  have hl := edL_lt hG
  simp (maxSteps := 200000) (disch := omega) only [BS]
  refine range_edges hP (q := q) (P := P) (N := N) (by simp only [ev_t]; exact if_pos rfl) hq hqn hE0.cl (hG.ex hE0) (fun i W1 => Cl W1 ∧ W0.nx < W1.nx ∧ (∀ x, x < W0.nx → x ≠ rf W.nx 1 → W1.get x = W0.get x) ∧ W1.get (rf W.nx 1) = some (.row [.int .i64 ((((edL P).take i).filter fun e => decide (e.kd = k)).length : Nat)])) ?_ ?_ ?_ ?_
  · intro W1 hE1 hn1
    exact ⟨hE1.cl, hn1, fun x hx _ => hE1.get x hx, by rw [hE1.get _ (by omega)]; exact w4⟩
  · exact fun i W1 h => ⟨h.1, h.2.1⟩
  · rintro i hi W1 W1' ⟨j0, j1, j2, j3⟩ hE1 hlp
    have hst : (((edL P).take (i + 1)).filter fun e => decide (e.kd = k)).length = (((edL P).take i).filter fun e => decide (e.kd = k)).length + (if (edL P)[i].kd = k then 1 else 0) := by
      rw [List.take_add_one, List.getElem?_eq_getElem hi, List.filter_append, List.length_append]
      congr 1
      simp only [Option.toList_some, List.filter_cons, List.filter_nil]
      by_cases e : (edL P)[i].kd = k <;> simp [e]
    have hle : (((edL P).take i).filter fun e => decide (e.kd = k)).length ≤ i := by
      refine Nat.le_trans (List.length_filter_le _ _) ?_
      simp; omega
    rw [hst]
    generalize (edL P)[i] = x
    generalize (((edL P).take i).filter fun e => decide (e.kd = k)).length = n at j3 hle
    have hn1 := hE1.nx
    have k3 := (hE1.get (rf W.nx 0) (by omega)).trans ((j2 _ (by omega) (by omega)).trans w3)
    have k4 := (hE1.get (rf W.nx 1) (by omega)).trans j3
    refine awp_startC hE1.cl ?_
    by_cases hk : x.kd = k
    · rw [if_pos hk]
      simp (maxSteps := 2000000) (disch := omega) only [BS, BC, e_seq, ↓reduceIte, Nat.reduceEqDiff, BM, BD, Nat.reduceAdd, Nat.reduceLeDiff, Nat.reduceLT, Ed.V, hlp]
      refine ⟨trivial, ?_⟩
      simp (maxSteps := 2000000) (disch := omega) only [BS, BC, cond_if, ↓reduceIte, Nat.reduceEqDiff, BM, BD, Nat.reduceLeDiff, put_ne, k3, k4, cmpeq, decide_eq_true hk, wadd1]
      refine ⟨trivial, put_at, Cl.X, by simp only [rf]; omega, fun y hy hyr => ?_, ?_⟩
      · rw [X_old (by omega), put_ne (by omega), put_ne hyr, put_ne (by omega), hE1.get y (by omega)]; exact j2 y hy hyr
      · first | trivial | exact put_at | (rw [put_ne (by omega), put_at]) | (rw [X_old (by omega), put_ne (by omega), put_at])
    · rw [if_neg hk]
      simp (maxSteps := 2000000) (disch := omega) only [BS, BC, e_seq, ↓reduceIte, Nat.reduceEqDiff, BM, BD, Nat.reduceAdd, Nat.reduceLeDiff, Nat.reduceLT, Ed.V, hlp]
      refine ⟨trivial, ?_⟩
      simp (maxSteps := 2000000) (disch := omega) only [BS, BC, cond_if, ↓reduceIte, BM, BD, put_ne, k3, k4, cmpeq, decide_eq_false hk]
      refine ⟨trivial, put_at, Cl.X, by simp only [rf]; omega, fun y hy hyr => ?_, ?_⟩
      · rw [X_old (by omega), put_ne (by omega), put_ne (by omega), hE1.get y (by omega)]; exact j2 y hy hyr
      · first | trivial | (simp only [Nat.add_zero]) | (rw [X_old (by omega), put_ne (by omega), put_ne (by omega)]; exact k4)
  · rintro W1 ⟨j0, j1, j2, j3⟩ hlp
    rw [List.take_length] at j3
    have k4 : (W1.put W0.nx (.loop .exhausted none)).get (rf W.nx 1) = some (.row [.int .i64 (countK P k : Nat)]) := by rw [put_ne (by omega)]; exact j3
    simp (maxSteps := 200000) (disch := omega) only [BS, BC, e_seq, ↓reduceIte, Nat.reduceEqDiff, BM, BD, Nat.reduceLeDiff, k4, put_at]
    refine ⟨_, rfl, _, W, .weak (weak_back hok rfl fun y hy => ?_), Nat.le_refl _, rfl, rfl⟩
    have hy' : y < W.nx := hy
    rw [put_ne (by omega), put_ne (by omega), j2 y (by omega) (by omega)]
    exact hE0.get y hy'
end Go.AL.S
set_option maxRecDepth 100000
set_option maxHeartbeats 2000000
namespace Go.AL.S
open Go Go.AL Go.Proofs
def c_few_1 : AC := (AC.seq (AC.seq (AC.reg [⟨some 31, .mov, [.t 4], none⟩,⟨some 32, .mov, [.t 0], none⟩,⟨some 33, .mov, [.t 3], none⟩,⟨some 34, .idxp 5, [.t 32, .t 33], none⟩,⟨some 35, .fld 4, [.t 34], none⟩,⟨some 36, .load false 1, [.t 35], none⟩,⟨some 37, .len 1 0, [.t 36], none⟩,⟨some 38, .bin .lss, [.t 31, .t 37], none⟩]) (AC.cond (.t 38) AC.skip (AC.exit 2))) (AC.seq (AC.block 3 (AC.seq (AC.reg [⟨some 41, .mov, [.t 0], none⟩,⟨some 42, .mov, [.t 3], none⟩,⟨some 43, .idxp 5, [.t 41, .t 42], none⟩,⟨some 44, .fld 4, [.t 43], none⟩,⟨some 45, .load false 1, [.t 44], none⟩,⟨some 46, .mov, [.t 4], none⟩,⟨some 47, .idxp 1, [.t 45, .t 46], none⟩,⟨some 48, .load false 1, [.t 47], none⟩,⟨some 49, .len 1 0, [.t 48], none⟩,⟨some 50, .bin .gtr, [.t 49, .c (.int .i64 40)], none⟩]) (AC.cond (.t 50) (AC.seq (AC.reg [⟨some 2, .mov, [.c (.bool false)], none⟩]) AC.ret) AC.skip))) (AC.reg [⟨some 39, .mov, [.t 4], none⟩,⟨some 40, .bin .add, [.t 39, .c (.int .i64 1)], none⟩,⟨some 4, .mov, [.t 40], none⟩])))
def c_few_0 : AC := (AC.seq (AC.seq (AC.reg [⟨some 5, .mov, [.t 3], none⟩,⟨some 6, .mov, [.t 0], none⟩,⟨some 7, .len 1 0, [.t 6], none⟩,⟨some 8, .bin .lss, [.t 5, .t 7], none⟩,⟨some 9, .mov, [.t 8], none⟩,⟨some 10, .mov, [.t 3], (some (9, true))⟩,⟨some 11, .bin .lss, [.t 10, .c (.int .i64 70)], (some (9, true))⟩,⟨some 12, .pick, [.t 9, .t 11, .c (.bool false)], none⟩]) (AC.cond (.t 12) AC.skip (AC.exit 0))) (AC.seq (AC.block 1 (AC.seq (AC.seq (AC.reg [⟨some 15, .mov, [.t 0], none⟩,⟨some 16, .mov, [.t 3], none⟩,⟨some 17, .idxp 5, [.t 15, .t 16], none⟩,⟨some 18, .fld 3, [.t 17], none⟩,⟨some 19, .load false 1, [.t 18], none⟩,⟨some 20, .len 1 0, [.t 19], none⟩,⟨some 21, .bin .gtr, [.t 20, .c (.int .i64 20)], none⟩,⟨some 22, .mov, [.t 21], none⟩,⟨some 23, .mov, [.t 0], (some (22, false))⟩,⟨some 24, .mov, [.t 3], (some (22, false))⟩,⟨some 25, .idxp 5, [.t 23, .t 24], (some (22, false))⟩,⟨some 26, .fld 4, [.t 25], (some (22, false))⟩,⟨some 27, .load false 1, [.t 26], (some (22, false))⟩,⟨some 28, .len 1 0, [.t 27], (some (22, false))⟩,⟨some 29, .bin .gtr, [.t 28, .c (.int .i64 20)], (some (22, false))⟩,⟨some 30, .pick, [.t 22, .c (.bool true), .t 29], none⟩]) (AC.cond (.t 30) (AC.seq (AC.reg [⟨some 2, .mov, [.c (.bool false)], none⟩]) AC.ret) AC.skip)) (AC.seq (AC.reg [⟨some 4, .mov, [.c (.int .i64 0)], none⟩]) (AC.block 2 (AC.loop c_few_1))))) (AC.reg [⟨some 13, .mov, [.t 3], none⟩,⟨some 14, .bin .add, [.t 13, .c (.int .i64 1)], none⟩,⟨some 3, .mov, [.t 14], none⟩])))
/- umpire/umpirelaw27.few -/
def c_few : AC := (AC.seq (AC.reg [⟨some 2, .mov, [.c (.bool false)], none⟩]) (AC.seq (AC.seq (AC.reg [⟨some 3, .mov, [.c (.int .i64 0)], none⟩]) (AC.block 0 (AC.loop c_few_0))) (AC.seq (AC.reg [⟨some 51, .mov, [.t 0], none⟩,⟨some 52, .len 1 0, [.t 51], none⟩,⟨some 53, .bin .leq, [.t 52, .c (.int .i64 60)], none⟩,⟨some 2, .mov, [.t 53], none⟩]) AC.ret)))
def r_few : AC × List RT × Nat := (c_few, [.tmp 2], 54)
theorem ok_fewe : compF Tryz.prog Tryz.f9 ⟨false, false, []⟩ = some r_few := by kernel_rfl
/- umpire/umpirelaw27.fresh -/
def c_fresh : AC := (AC.seq (AC.reg [⟨some 0, .alloc [.nilptr, .nilptr], [], none⟩,⟨some 1, .mov, [.c (.bool false)], none⟩]) (AC.seq (AC.reg [⟨some 3, .call 33, [], none⟩,⟨some 4, .call 34, [], none⟩,⟨some 5, .build [.nilptr, .nilptr] [(0, 1), (1, 1)], [.t 3, .t 4], none⟩,⟨some 2, .alloc [.nilptr, .nilptr], [], none⟩,⟨none, .store 2, [.t 2, .t 5], none⟩]) (AC.seq (AC.par (PT.step 1 ⟨some 7, .fld 0, [.t 2], none⟩ (PT.step 0 ⟨some 6, .load true 2, [.t 2], none⟩ (PT.step 2 ⟨some 8, .load false 1, [.t 7], none⟩ (PT.step 3 ⟨some 9, .eqn true 0, [.t 8, .c (.nilptr)], none⟩ (PT.step 4 ⟨some 10, .mov, [.t 9], none⟩ (PT.step 5 ⟨some 11, .fld 1, [.t 2], (some (10, true))⟩ (PT.alt (PT.step 6 ⟨some 12, .load false 1, [.t 11], (some (10, true))⟩ (PT.step 7 ⟨some 13, .eqn true 0, [.t 12, .c (.nilptr)], (some (10, true))⟩ (PT.step 8 ⟨some 14, .pick, [.t 10, .t 13, .c (.bool false)], none⟩ (PT.step 9 ⟨none, .store 2, [.t 0, .t 6], none⟩ (PT.step 10 ⟨some 1, .mov, [.t 14], none⟩ PT.done))))) (PT.step 9 ⟨none, .store 2, [.t 0, .t 6], none⟩ (PT.step 6 ⟨some 12, .load false 1, [.t 11], (some (10, true))⟩ (PT.step 7 ⟨some 13, .eqn true 0, [.t 12, .c (.nilptr)], (some (10, true))⟩ (PT.step 8 ⟨some 14, .pick, [.t 10, .t 13, .c (.bool false)], none⟩ (PT.step 10 ⟨some 1, .mov, [.t 14], none⟩ PT.done))))))))))))) AC.ret)))
def r_fresh : AC × List RT × Nat := (c_fresh, [.cell 0 true 2, .tmp 1], 15)
theorem ok_freshe : compF Tryz.prog Tryz.f8 ⟨false, false, []⟩ = some r_fresh := by kernel_rfl
variable {E : Env}
theorem few_in (W : AW) {v : V} {l : List Ac} (hv : isS 5 v (l.map Ac.V)) {i : Nat} (hi : i < l.length) (ha : l[i].ok) (h20 : l[i].rdl.length ≤ 20) {A : AFr} {Q : Exit → AFr → AW → Prop}
    (a0 : A 0 = some v) (a3 : A 3 = some (.int .i64 i)) (a4 : A 4 = some (.int .i64 0))
    (hret : ∀ A', A' 2 = some (.bool false) → Q .ret A' W)
    (hex : ∀ A', A' 0 = some v → A' 3 = some (.int .i64 i) → (∀ o ∈ l[i].rdl, (nums o).length ≤ 40) → Q (.exit 2) A' W) : ALoop (awp E c_few_1) Q A W := by
  obtain ⟨xs, i1, i2, i3⟩ := ha.rdS
  have hat : (l.map Ac.V)[i]? = some l[i].V := by simp [hi]
  refine ALoop.go (B := awp E _) (fun h => awp_mono _ h) (fun (k : Nat) A1 W1 => A1 0 = some v ∧ A1 3 = some (.int .i64 i) ∧ A1 4 = some (.int .i64 k) ∧ k ≤ xs.length ∧ W1 = W ∧ ∀ j (hj : j < l[i].rdl.length), j < k → (nums l[i].rdl[j]).length ≤ 40) (fun k => xs.length - k) 0
    ⟨a0, a3, a4, Nat.zero_le _, rfl, fun _ _ h => by omega⟩ ?_
  rintro k A1 W1 ⟨g0, g3, g4, gk, rfl, ge⟩ _
  by_cases hk1 : k < xs.length
  · have e1 : xs[k]? = some xs[k] := List.getElem?_eq_getElem _
    have t := i3 k hk1 (by omega)
    have h40 : decide (((nums l[i].rdl[k]).length : Int) > 40) = decide ((nums l[i].rdl[k]).length > 40) := by simp; omega
    by_cases hb : (nums l[i].rdl[k]).length > 40
    · simp (maxSteps := 2000000) (disch := omega) only [c_few_1, BS, e_seq, cond_if, ↓reduceIte, Nat.reduceEqDiff, reduceCtorEq, BM, g0, g3, g4, hv.idx hat, ac_load2, i1.len, clt, hk1, decide_true, i1.idx e1, t.isS.loadf, t.isS.len, ints_len, h40, decide_eq_true hb]
      exact hret _ rfl
    · simp (maxSteps := 2000000) (disch := omega) only [c_few_1, BS, BC, e_seq, cond_if, ↓reduceIte, Nat.reduceEqDiff, reduceCtorEq, BM, g0, g3, g4, hv.idx hat, ac_load2, i1.len, clt, hk1, decide_true, i1.idx e1, t.isS.loadf, t.isS.len, ints_len, h40, decide_eq_false hb, wadd1]
      refine ⟨k + 1, ⟨(by first | trivial | rfl | omega), (by first | trivial | rfl | omega), (by first | trivial | rfl | omega), (by first | trivial | rfl | omega), (by first | trivial | rfl | omega), fun j hj hjk => ?_⟩, by omega, Nat.le_refl _⟩
      by_cases e : j = k
      · subst e; omega
      · exact ge j hj (by omega)
  · simp (maxSteps := 2000000) (disch := omega) only [c_few_1, BS, BC, e_seq, cond_if, ↓reduceIte, Nat.reduceEqDiff, reduceCtorEq, BM, g0, g3, g4, hv.idx hat, ac_load2, i1.len, clt, hk1, decide_false]
    refine hex _ g0 g3 fun o ho => ?_
    obtain ⟨j, hj, rfl⟩ := List.mem_iff_getElem.1 ho
    exact ge j hj (by omega)
theorem few_c (hP : E.P = Tryz.prog) (W : AW) {v : V} {l : List Ac} (hv : isS 5 v (l.map Ac.V)) (ha : ∀ a ∈ l, a.ok) (hl : l.length < 2 ^ 48) :
    ACalls E 9 [v] W fun Y W' => W' = W ∧ ∃ b, Y = .bool b ∧ (b = true → l.length ≤ 60 ∧ ∀ a ∈ l, a.small) := by
  refine ACalls.of hP Tryz.func9 ok_fewe (by simp) fun _ hok => ?_
  simp only [c_few, BS, e_seq]
  rw [e_loop]
  refine ALoop.go (B := awp E _) (fun h => awp_mono _ h) (fun (k : Nat) A1 W1 => A1 0 = some v ∧ A1 3 = some (.int .i64 k) ∧ k ≤ l.length ∧ k ≤ 70 ∧ W1 = W ∧ ∀ j (hj : j < l.length), j < k → l[j].small) (fun k => l.length - k) 0
    ⟨rfl, rfl, Nat.zero_le _, by omega, rfl, fun _ _ h => by omega⟩ ?_
  rintro k A1 W1 ⟨g0, g3, gk, gk9, rfl, ge⟩ _
  have h60 : decide ((l.length : Int) ≤ 60) = decide (l.length ≤ 60) := by simp; omega
  have h70 : decide ((k : Int) < 70) = decide (k < 70) := by simp; omega
  by_cases hk1 : k < l.length
  · by_cases hk2 : k < 70
    · have hat : (l.map Ac.V)[k]? = some l[k].V := by simp [hk1]
      have hak := ha l[k] (List.getElem_mem hk1)
      obtain ⟨xs, i1, i2, i3⟩ := hak.rdS
      have h20 : decide ((l[k].txl.length : Int) > 20) = decide (l[k].txl.length > 20) := by simp; omega
      have h20' : decide ((l[k].rdl.length : Int) > 20) = decide (l[k].rdl.length > 20) := by simp; omega
      by_cases hb : l[k].txl.length > 20
      · simp (maxSteps := 2000000) (disch := omega) only [c_few_0, BS, BC, e_seq, cond_if, guard_if, ↓reduceIte, Nat.reduceEqDiff, reduceCtorEq, BM, g0, g3, hv.len, List.length_map, clt, hk1, h70, hk2, decide_true, hv.idx hat, ac_load1, hak.tx.len, h20, decide_eq_true hb]
        exact ⟨_, rfl, _, _, .weak weak_id, Nat.le_refl _, rfl, _, rfl, by simp⟩
      · by_cases hb' : l[k].rdl.length > 20
        · simp (maxSteps := 2000000) (disch := omega) only [c_few_0, BS, BC, e_seq, cond_if, guard_if, ↓reduceIte, Nat.reduceEqDiff, reduceCtorEq, BM, g0, g3, hv.len, List.length_map, clt, hk1, h70, hk2, decide_true, hv.idx hat, ac_load1, ac_load2, hak.tx.len, h20, decide_eq_false hb, i1.len, i2, h20', decide_eq_true hb']
          exact ⟨_, rfl, _, _, .weak weak_id, Nat.le_refl _, rfl, _, rfl, by simp⟩
        · simp (maxSteps := 2000000) (disch := omega) only [c_few_0, BS, BC, e_seq, cond_if, guard_if, ↓reduceIte, Nat.reduceEqDiff, reduceCtorEq, BM, g0, g3, hv.len, List.length_map, clt, hk1, h70, hk2, decide_true, hv.idx hat, ac_load1, ac_load2, hak.tx.len, h20, decide_eq_false hb, i1.len, i2, h20', decide_eq_false hb', e_loop]
          refine few_in W1 hv hk1 hak (by omega) g0 g3 rfl ?_ ?_
          · intro A' h2
            simp only [BS, BC, h2]
            exact ⟨_, rfl, _, _, .weak weak_id, Nat.le_refl _, rfl, _, rfl, by simp⟩
          · intro A' h0 h3 hall
            simp (maxSteps := 2000000) (disch := omega) only [BS, ↓reduceIte, reduceCtorEq, h0, h3, wadd1]
            refine ⟨k + 1, ⟨(by first | trivial | rfl | omega), (by first | trivial | rfl | omega), (by first | trivial | rfl | omega), (by first | trivial | rfl | omega), (by first | trivial | rfl | omega), fun j hj hjk => ?_⟩, by omega, Nat.le_refl _⟩
            by_cases e : j = k
            · subst e; exact ⟨by omega, by omega, hall⟩
            · exact ge j hj (by omega)
    · simp (maxSteps := 2000000) (disch := omega) only [c_few_0, BS, BC, e_seq, cond_if, guard_if, ↓reduceIte, Nat.reduceEqDiff, reduceCtorEq, g0, g3, hv.len, List.length_map, clt, hk1, h70, hk2, decide_true, decide_false, h60]
      exact ⟨_, rfl, _, _, .weak weak_id, Nat.le_refl _, rfl, _, rfl, fun h => by simp at h; omega⟩
  · simp (maxSteps := 2000000) (disch := omega) only [c_few_0, BS, BC, e_seq, cond_if, guard_if, ↓reduceIte, Nat.reduceEqDiff, reduceCtorEq, BM, g0, g3, hv.len, List.length_map, clt, hk1, decide_false, h60]
    refine ⟨_, rfl, _, _, .weak weak_id, Nat.le_refl _, rfl, _, rfl, fun h => ⟨by simpa using h, fun a ha => ?_⟩⟩
    obtain ⟨j, hj, rfl⟩ := List.mem_iff_getElem.1 ha
    exact ge j hj (by omega)
theorem new_n (hP : E.P = Tryz.prog) (W : AW) : ACalls E 33 [] W fun Y W' => ∃ p ra rw, Y = .ptr p 0 ∧ Nw W W' p ra rw [] := by
  refine ACalls.of hP Tryz.func33 ok7e (by simp) fun _ hok => ?_
  refine awp_start hok ?_
  simp only [c7, BS, BC, e_seq, ↓reduceIte, Nat.reduceEqDiff, BM, BD, Nat.reduceAdd, Nat.reduceLeDiff]
  refine ⟨_, rfl, _, _, .weak weak_id, ?_, rf W.nx 2, rf W.nx 0, rf W.nx 1, rfl, ⟨?_, ?_, ⟨[], 0, ?_, ⟨(fun _ h => by cases h), fun _ _ => rfl⟩⟩, ?_, ?_, ?_, ?_, ⟨by simp, List.Pairwise.nil⟩⟩, Ex.x0, ?_, ?_, ?_⟩
  · simp [X_nx, rf]
  · simp only [BC, BM]; rfl
  · simp only [BC, BM, BD]; rfl
  · simp only [BC, BM]
  all_goals simp [rf, X_nx]
/-- A store and its orders, made since. -/
structure Sx (W W' : AW) (p ra rw q : Nat) (s : Str) (os : Ods) : Prop where
  nw : Nw W W' p ra rw s
  od : Od W' q os
  hq : W.nx ≤ q
  ne : q ≠ p ∧ q ≠ ra ∧ q ≠ rw
def os0 : Ods := [[], [], [], [], [], [], [], []]
theorem fresh_c (hP : E.P = Tryz.prog) (W : AW) : ACalls E 8 [] W fun Y W' => ∃ p ra rw q, Y = .tuple [.agg [.ptr p 0, .ptr q 0], .bool true] ∧ Sx W W' p ra rw q [] os0 := by
  refine ACalls.of hP Tryz.func8 ok_freshe (by simp) fun _ hok => ?_
  refine awp_start hok ?_
  simp only [c_fresh, BS, BC, e_seq, BM, BD]
  refine (new_n hP _).mono ?_
  rintro _ W1 ⟨p, ra, rw, rfl, h⟩
  simp only [BS, BC]
  refine (newO_c hP _).mono ?_
  rintro _ W2 ⟨q, rfl, hO, hE, hq⟩
  have hn0 : (X W W.nx [.row [.nilptr, .nilptr]]).nx = W.nx + 1 := rfl
  have h2 := h.exx hE
  have hlp := h.st.lp
  have hla := h.st.la
  have hlw := h.st.lw
  have r0 : rf W.nx 0 = W.nx := rfl
  have g0 : W2.get (rf W.nx 0) = some (.row [.nilptr, .nilptr]) := by rw [h2.ex.get _ (by rw [hn0]; omega), X_get]; rfl
  have hn2 := h2.ex.nx
  rw [hn0] at hn2
  have hp := h.hp
  have ha := h.ha
  have hw := h.hw
  rw [hn0] at hp ha hw
  have hE2 : Ex W W2 := Ex.x0.trans h2.ex
  rw [h2.ex.cl.start]
  have hlq := hO.lq
  have hS : ∀ o, Sx W (X (W2.put (rf W.nx 0) o) W2.nx [.row [.ptr p 0, .ptr q 0]]) p ra rw q [] os0 := fun o => by
    have hgg : ∀ x, x < W2.nx → x ≠ rf W.nx 0 → (X (W2.put (rf W.nx 0) o) W2.nx [.row [.ptr p 0, .ptr q 0]]).get x = W2.get x := fun x h1 h2 => by rw [X_old h1, put_ne h2]
    have hnx : W2.nx ≤ (X (W2.put (rf W.nx 0) o) W2.nx [.row [.ptr p 0, .ptr q 0]]).nx := by simp only [X_nx, rf]; omega
    have l1 := h2.st.lp
    have l2 := h2.st.la
    have l3 := h2.st.lw
    exact ⟨⟨h2.st.by hnx (hgg _ l1 (by omega)) (hgg _ l2 (by omega)) (hgg _ l3 (by omega)), ⟨Cl.X, by omega, fun x hx => by rw [hgg x (by omega) (by omega)]; exact hE2.get x hx⟩, by omega, by omega, by omega⟩, hO.by hnx (hgg _ hlq (by omega)), by omega, by omega, by omega, by omega⟩
  simp (maxSteps := 200000) (disch := omega) only [BS, BC, e_seq, ↓reduceIte, Nat.reduceEqDiff, BM, BD, Nat.reduceAdd, Nat.reduceLeDiff, Nat.reduceLT]
  (rw [guard_if]; simp (maxSteps := 200000) (disch := omega) only [BS, ↓reduceIte, Nat.reduceEqDiff, reduceCtorEq, BM, BD, Nat.reduceAdd, Nat.reduceLeDiff, g0])
  constructor
  · (rw [guard_if]; simp (maxSteps := 200000) (disch := omega) only [BS, BC, ↓reduceIte, Nat.reduceEqDiff, BM])
    (rw [guard_if]; simp (maxSteps := 200000) (disch := omega) only [BS, BC, ↓reduceIte, Nat.reduceEqDiff, reduceCtorEq, BM, BD, Nat.reduceAdd, Nat.reduceLeDiff, g0, put_at])
    exact ⟨_, rfl, _, _, .weak weak_id, by simp only [X_nx, rf]; omega, p, ra, rw, q, rfl, hS _⟩
  · (rw [guard_if]; simp (maxSteps := 200000) (disch := omega) only [BS, BC, ↓reduceIte, Nat.reduceEqDiff, BM])
    (rw [guard_if]; simp (maxSteps := 200000) (disch := omega) only [BS, BC, ↓reduceIte, Nat.reduceEqDiff, reduceCtorEq, BM, BD, Nat.reduceAdd, Nat.reduceLeDiff, put_at])
    exact ⟨_, rfl, _, _, .weak weak_id, by simp only [X_nx, rf]; omega, p, ra, rw, q, rfl, hS _⟩
end Go.AL.S
set_option maxRecDepth 100000
set_option maxHeartbeats 2000000
namespace Go.AL.S
open Go Go.AL Go.Proofs
def c_act_0 : AC := (AC.seq (AC.seq (AC.reg [⟨some 40, .mov, [.t 11], none⟩,⟨some 41, .mov, [.t 9], none⟩,⟨some 42, .len 1 0, [.t 41], none⟩,⟨some 43, .bin .lss, [.t 40, .t 42], none⟩]) (AC.cond (.t 43) AC.skip (AC.exit 1))) (AC.seq (AC.block 2 (AC.seq (AC.par (PT.step 0 ⟨some 47, .fld 1, [.t 2], none⟩ (PT.step 2 ⟨some 49, .mov, [.t 9], none⟩ (PT.step 3 ⟨some 50, .mov, [.t 11], none⟩ (PT.step 7 ⟨some 54, .mov, [.t 9], none⟩ (PT.step 8 ⟨some 55, .mov, [.t 11], none⟩ (PT.step 1 ⟨some 48, .load false 1, [.t 47], none⟩ (PT.step 4 ⟨some 51, .idxp 2, [.t 49, .t 50], none⟩ (PT.step 5 ⟨some 52, .fld 0, [.t 51], none⟩ (PT.step 6 ⟨some 53, .load false 1, [.t 52], none⟩ (PT.step 9 ⟨some 56, .idxp 2, [.t 54, .t 55], none⟩ (PT.step 10 ⟨some 57, .fld 1, [.t 56], none⟩ (PT.step 11 ⟨some 58, .load false 1, [.t 57], none⟩ (PT.step 12 ⟨some 59, .call 37, [.t 48, .t 53, .t 58], none⟩ (PT.step 13 ⟨some 46, .mov, [.t 59], none⟩ (PT.step 14 ⟨some 60, .ext 0, [.t 46], none⟩ (PT.step 15 ⟨some 61, .ext 1, [.t 46], none⟩ (PT.step 16 ⟨some 12, .mov, [.t 60], none⟩ (PT.step 17 ⟨some 13, .mov, [.t 61], none⟩ PT.done))))))))))))))))))) (AC.reg [⟨some 62, .mov, [.t 10], none⟩,⟨some 63, .mov, [.t 62], none⟩,⟨some 64, .mov, [.t 12], (some (63, true))⟩,⟨some 65, .pick, [.t 63, .t 64, .c (.bool false)], none⟩,⟨some 66, .mov, [.t 65], none⟩,⟨some 67, .mov, [.t 13], (some (66, true))⟩,⟨some 68, .bin .eql, [.t 67, .c (.int .i64 0)], (some (66, true))⟩,⟨some 69, .pick, [.t 66, .t 68, .c (.bool false)], none⟩,⟨some 10, .mov, [.t 69], none⟩]))) (AC.reg [⟨some 44, .mov, [.t 11], none⟩,⟨some 45, .bin .add, [.t 44, .c (.int .i64 1)], none⟩,⟨some 11, .mov, [.t 45], none⟩])))
/- (umpire/umpirelaw27.state).act -/
def c_act : AC := (AC.seq (AC.reg [⟨some 2, .box, [.t 0], none⟩,⟨some 3, .box, [.t 1], none⟩,⟨some 4, .mov, [.c (.int .i64 0)], none⟩,⟨some 5, .mov, [.c (.bool false)], none⟩]) (AC.seq (AC.seq (AC.reg [⟨some 14, .fld 0, [.t 3], none⟩,⟨some 15, .load false 1, [.t 14], none⟩,⟨some 16, .bin .rem, [.t 15, .c (.int .u8 6)], none⟩]) (AC.block 0 (AC.seq (AC.seq (AC.reg [⟨some 18, .bin .eql, [.t 16, .c (.int .u8 2)], none⟩,⟨some 17, .mov, [.t 18], none⟩]) (AC.cond (.t 17) AC.skip (AC.reg [⟨some 19, .bin .eql, [.t 16, .c (.int .u8 3)], none⟩,⟨some 17, .mov, [.t 19], none⟩]))) (AC.cond (.t 17) (AC.seq (AC.reg [⟨some 20, .fld 0, [.t 2], none⟩,⟨some 21, .load false 1, [.t 20], none⟩,⟨some 22, .fld 2, [.t 3], none⟩,⟨some 23, .load false 1, [.t 22], none⟩,⟨some 24, .fld 4, [.t 3], none⟩,⟨some 25, .load false 1, [.t 24], none⟩,⟨some 26, .call 35, [.t 21, .t 23, .t 25], none⟩,⟨some 6, .mov, [.t 26], none⟩]) (AC.seq (AC.seq (AC.reg [⟨some 27, .mov, [.t 6], none⟩,⟨some 28, .bin .neq, [.t 27, .c (.int .i64 0)], none⟩]) (AC.cond (.t 28) (AC.seq (AC.reg [⟨some 29, .mov, [.t 6], none⟩,⟨some 4, .mov, [.t 29], none⟩,⟨some 5, .mov, [.c (.bool true)], none⟩]) AC.ret) AC.skip)) (AC.seq (AC.reg [⟨some 31, .fld 0, [.t 2], none⟩,⟨some 32, .load false 1, [.t 31], none⟩,⟨some 33, .fld 2, [.t 3], none⟩,⟨some 34, .load false 1, [.t 33], none⟩,⟨some 35, .call 18, [.t 32, .t 34], none⟩,⟨some 30, .mov, [.t 35], none⟩,⟨some 36, .ext 0, [.t 30], none⟩,⟨some 37, .ext 1, [.t 30], none⟩,⟨some 7, .alloc [.int .u16 0, .int .u8 0, .nilsl, .nilsl, .int .u8 0], [], none⟩,⟨none, .store 5, [.t 7, .t 36], none⟩,⟨some 8, .mov, [.t 37], none⟩]) (AC.seq (AC.reg [⟨some 38, .load true 5, [.t 7], none⟩,⟨some 39, .call 36, [.t 38], none⟩,⟨some 9, .mov, [.t 39], none⟩]) (AC.seq (AC.reg [⟨some 10, .mov, [.c (.bool true)], none⟩]) (AC.seq (AC.seq (AC.reg [⟨some 11, .mov, [.c (.int .i64 0)], none⟩]) (AC.block 1 (AC.loop c_act_0))) (AC.seq (AC.reg [⟨some 70, .mov, [.t 10], none⟩,⟨some 4, .mov, [.c (.int .i64 0)], none⟩,⟨some 5, .mov, [.t 70], none⟩]) AC.ret))))))) (AC.seq (AC.reg [⟨some 72, .bin .eql, [.t 16, .c (.int .u8 4)], none⟩,⟨some 71, .mov, [.t 72], none⟩]) (AC.cond (.t 71) (AC.seq (AC.reg [⟨some 73, .fld 0, [.t 2], none⟩,⟨some 74, .load false 1, [.t 73], none⟩,⟨some 75, .fld 2, [.t 3], none⟩,⟨some 76, .load false 1, [.t 75], none⟩,⟨some 77, .call 32, [.t 74, .t 76], none⟩,⟨some 4, .mov, [.t 77], none⟩,⟨some 5, .mov, [.c (.bool true)], none⟩]) AC.ret) (AC.seq (AC.reg [⟨some 79, .bin .eql, [.t 16, .c (.int .u8 5)], none⟩,⟨some 78, .mov, [.t 79], none⟩]) (AC.cond (.t 78) (AC.seq (AC.reg [⟨some 80, .fld 0, [.t 2], none⟩,⟨some 81, .load false 1, [.t 80], none⟩,⟨some 82, .fld 2, [.t 3], none⟩,⟨some 83, .load false 1, [.t 82], none⟩,⟨some 84, .call 38, [.t 81, .t 83], none⟩,⟨some 4, .mov, [.t 84], none⟩,⟨some 5, .mov, [.c (.bool true)], none⟩]) AC.ret) AC.skip)))))))) (AC.seq (AC.reg [⟨some 85, .fld 0, [.t 2], none⟩,⟨some 86, .load false 1, [.t 85], none⟩,⟨some 87, .fld 1, [.t 3], none⟩,⟨some 88, .load false 1, [.t 87], none⟩,⟨some 89, .fld 2, [.t 3], none⟩,⟨some 90, .load false 1, [.t 89], none⟩,⟨some 91, .fld 3, [.t 3], none⟩,⟨some 92, .load false 1, [.t 91], none⟩,⟨some 93, .call 39, [.t 86, .t 88, .t 90, .t 92], none⟩,⟨some 4, .mov, [.t 93], none⟩,⟨some 5, .mov, [.c (.bool true)], none⟩]) AC.ret)))
def r_act : AC × List RT × Nat := (c_act, [.tmp 4, .tmp 5], 94)
theorem ok_acte : compF Tryz.prog Tryz.f11 ⟨false, false, []⟩ = some r_act := by kernel_rfl
variable {E : Env}
theorem m_rem6 {W : AW} {K : V → AW → Prop} {k : IntKind} {a : Int} : sem E (.bin .rem) [.int k a, .int k 6] W K = K (.int k (a.tmod 6)) W := by
  simp [sem, rsem, tsem, binI]
/-- How an act may change a world. -/
structure Fa (W W' : AW) (p ra rw q : Nat) : Prop where
  cl : Cl W'
  nx : W.nx ≤ W'.nx
  get : ∀ x, x < W.nx → x ≠ p → x ≠ ra → x ≠ rw → x ≠ q → W'.get x = W.get x
theorem Fa.of {W W1 W2 : AW} {p ra rw q : Nat} (h : Fr W1 W2 p ra rw) (hE : Ex W W1) (hp : p < W1.nx) (ha : ra < W1.nx) (hw : rw < W1.nx) : Fa W W2 p ra rw q :=
  ⟨h.cl hE.cl hp ha hw, by rw [h.nx]; exact hE.nx, fun x hx a b c _ => by rw [h.get x a b c]; exact hE.get x hx⟩
theorem takes_snoc (o : Ods) {l : List Rd} {k : Nat} (hk : k < l.length) : takesR o (l.take (k + 1)) = ((takeR (takesR o (l.take k)).1 (l[k]).1 (nums (l[k]).2)).1, (takesR o (l.take k)).2 && ((takeR (takesR o (l.take k)).1 (l[k]).1 (nums (l[k]).2)).2.1 && decide ((takeR (takesR o (l.take k)).1 (l[k]).1 (nums (l[k]).2)).2.2 = 0))) := by
  rw [List.take_add_one, List.getElem?_eq_getElem hk, Option.toList_some, takesR_app]
  simp only [takesR, Bool.and_true]
/-- A commit's reads are told to the orders. -/
theorem takes_go (hP : E.P = Tryz.prog) {W : AW} (_ : Cl W) {q b2 : Nat} {os : Ods} (hO : Od W q os) {c2 : V} {l : List Rd} (hl : l.length ≤ 8) (hk : ∀ r ∈ l, 0 ≤ r.1 ∧ r.1 < 256) (hn : ∀ r ∈ l, (nums r.2).length ≤ 32 ∧ ∀ n ∈ nums r.2, 0 ≤ n ∧ n < 65536) {A : AFr} {Q : Exit → AFr → AW → Prop}
    (a2 : A 2 = some (.ptr b2 0)) (a9 : A 9 = some (nowGS 2 (l.map rdV))) (a10 : A 10 = some (.bool true)) (a11 : A 11 = some (.int .i64 0)) (g2 : W.get b2 = some (.row [c2, .ptr q 0])) (n2 : b2 ≠ q)
    (hQ : ∀ A' W', A' 10 = some (.bool (takesR os l).2) → Od W' q (takesR os l).1 → W'.nx = W.nx → (∀ x, x ≠ q → W'.get x = W.get x) → Q (.exit 1) A' W') : ALoop (awp E c_act_0) Q A W := by
  have hs := nowGS_S 2 (l.map rdV)
  refine ALoop.go (B := awp E _) (fun h => awp_mono _ h) (fun (k : Nat) A1 W1 => A1 2 = some (.ptr b2 0) ∧ A1 9 = some (nowGS 2 (l.map rdV)) ∧ A1 10 = some (.bool (takesR os (l.take k)).2) ∧ A1 11 = some (.int .i64 k) ∧ k ≤ l.length ∧ Od W1 q (takesR os (l.take k)).1 ∧ W1.nx = W.nx ∧ ∀ x, x ≠ q → W1.get x = W.get x) (fun k => l.length - k) 0
    ⟨a2, a9, a10, a11, Nat.zero_le _, hO, rfl, fun _ _ => rfl⟩ ?_
  rintro k A1 W1 ⟨q2, q9, q10, q11, qk, jO, jn, jg⟩ _
  by_cases hk1 : k < l.length
  · have hkr := hk _ (List.getElem_mem hk1)
    have hnr := hn _ (List.getElem_mem hk1)
    have hst := takes_snoc os hk1
    have hat := rdV_at hk1
    generalize l[k] = r at hkr hnr hst hat
    have k2 := (jg _ n2).trans g2
    have hre := (elV_isEl r.2).isS
    obtain ⟨b, hb⟩ : ∃ b, b = (takesR os (l.take k)).2 := ⟨_, rfl⟩
    rw [← hb] at q10 hst
    simp (maxSteps := 200000) (disch := omega) only [BS, BC, e_seq, cond_if, ↓reduceIte, Nat.reduceEqDiff, BM, BD, Nat.reduceAdd, Nat.reduceLeDiff, c_act_0, q2, q9, q11, hs.len, List.length_map, clt, hk1, decide_true, hs.idx hat, rdV_cells, k2, hre.frz]
    refine (take_c hP _ jO r.1 hkr.1 hkr.2 hre (by have := hnr.1; omega) hnr.2).mono ?_
    rintro _ W3 ⟨rfl, hO3, hn3, hg3⟩
    obtain ⟨T, hT⟩ : ∃ T, T = takeR (takesR os (l.take k)).1 r.1 (nums r.2) := ⟨_, rfl⟩
    rw [← hT] at hO3 hst ⊢
    have fin : ∀ (b' : Bool), b' = (b && (T.2.1 && decide (T.2.2 = 0))) → ∃ s', (True ∧ True ∧ some (V.bool b') = some (.bool (takesR os (l.take s')).2) ∧ some (V.int .i64 (k + 1 : Nat)) = some (.int .i64 s') ∧ s' ≤ l.length ∧ Od W3 q (takesR os (l.take s')).1 ∧ W3.nx = W.nx ∧ ∀ x, x ≠ q → W3.get x = W.get x) ∧ l.length - s' < l.length - k ∧ W.nx ≤ W3.nx := by
      intro b' e
      exact ⟨k + 1, ⟨trivial, trivial, by rw [hst, e], rfl, by omega, by rw [hst]; exact hO3, hn3.trans jn, fun x hx => (hg3 x hx).trans (jg x hx)⟩, by omega, by omega⟩
    clear hT
    obtain ⟨To, Tb, Te⟩ := T
    simp only at fin ⊢
    by_cases he : Te = 0
    · have he' : (Te == 0) = true := by simp [he]
      rw [decide_eq_true he] at fin
      cases b <;> cases Tb <;> (simp (maxSteps := 200000) (disch := omega) only [BS, ↓reduceIte, Nat.reduceEqDiff, q10]; (rw [guard_if]; simp (maxSteps := 200000) (disch := omega) only [BS, BC, ↓reduceIte, Nat.reduceEqDiff, BM]); (rw [guard_if]; simp (maxSteps := 200000) (disch := omega) only [BS, BC, ↓reduceIte, Nat.reduceEqDiff, BM]); (rw [guard_if]; simp (maxSteps := 200000) (disch := omega) only [BS, BC, ↓reduceIte, Nat.reduceEqDiff, BM, q2, q9, q11, he', wadd1]); exact fin _ rfl)
    · have he' : (Te == 0) = false := by simp [he]
      rw [decide_eq_false he] at fin
      cases b <;> cases Tb <;> (simp (maxSteps := 200000) (disch := omega) only [BS, ↓reduceIte, Nat.reduceEqDiff, q10]; (rw [guard_if]; simp (maxSteps := 200000) (disch := omega) only [BS, BC, ↓reduceIte, Nat.reduceEqDiff, BM]); (rw [guard_if]; simp (maxSteps := 200000) (disch := omega) only [BS, BC, ↓reduceIte, Nat.reduceEqDiff, BM]); (rw [guard_if]; simp (maxSteps := 200000) (disch := omega) only [BS, BC, ↓reduceIte, Nat.reduceEqDiff, BM, q2, q9, q11, he', wadd1]); exact fin _ rfl)
  · obtain rfl : k = l.length := by omega
    rw [List.take_length] at q10 jO
    simp (maxSteps := 2000000) (disch := omega) only [c_act_0, BS, BC, e_seq, cond_if, ↓reduceIte, Nat.reduceEqDiff, q9, q11, hs.len, List.length_map, clt, hk1, decide_false]
    exact hQ _ _ q10 jO jn jg
theorem Fa.x {W W1 W2 : AW} {p ra rw q : Nat} (h : Fa W W1 p ra rw q) (h2 : Ex W1 W2) : Fa W W2 p ra rw q :=
  ⟨h2.cl, Nat.le_trans h.nx h2.nx, fun x hx a b c d => by rw [h2.get x (by have := h.nx; omega)]; exact h.get x hx a b c d⟩
theorem act_c (hP : E.P = Tryz.prog) (W : AW) {p ra rw q : Nat} {s : Str} {os : Ods} (hS : St W p ra rw s) (hO : Od W q os) (ne : q ≠ p ∧ q ≠ ra ∧ q ≠ rw) {a : Ac} (ha : a.ok) (hsm : a.small) :
    ACalls E 11 [.agg [.ptr p 0, .ptr q 0], a.V] W fun Y W' => Y = .tuple [.int .i64 (actG s os a).2.2.1, .bool (actG s os a).2.2.2] ∧ St W' p ra rw (actG s os a).1 ∧ Od W' q (actG s os a).2.1 ∧ Fa W W' p ra rw q := by
  refine ACalls.of hP Tryz.func11 ok_acte (by simp [Ac.V]) fun _ hok => ?_
  refine awp_start hok ?_
  obtain ⟨xs, i1, i2, i3⟩ := ha.rdS
  obtain ⟨z1, z2, z3⟩ := hsm
  have hlp := hS.lp
  have hla := hS.la
  have hlw := hS.lw
  have hlq := hO.lq
  obtain ⟨Wb, hWb⟩ : ∃ Wb, Wb = X W W.nx [.row [.ptr p 0, .ptr q 0], .row [.int .u8 a.what, .int .u8 a.client, .int .u16 a.id, a.tx, a.rd]] := ⟨_, rfl⟩
  have hEb : Ex W Wb := by rw [hWb]; exact .x0
  have gb2 : Wb.get (rf W.nx 0) = some (.row [.ptr p 0, .ptr q 0]) := by rw [hWb, X_get]; rfl
  have gb3 : Wb.get (rf W.nx 1) = some (.row [.int .u8 a.what, .int .u8 a.client, .int .u16 a.id, a.tx, a.rd]) := by rw [hWb, X_get]; rfl
  have hnb : Wb.nx = W.nx + 2 := by rw [hWb]; rfl
  have r0 : rf W.nx 0 = W.nx := rfl
  have hSb := hS.ex hEb
  have hOb := hO.ex hEb
  simp (maxSteps := 200000) (disch := omega) only [BS, BC, e_seq, cond_if, ↓reduceIte, Nat.reduceEqDiff, BM, BD, c_act, Ac.V, m_rem6]
  rw [← hWb]
  clear hWb
  have hfr : ∀ {s' : Str} {W1 : AW}, St W1 p ra rw s' → Fr Wb W1 p ra rw → Od W1 q os ∧ Fa W W1 p ra rw q := fun hS1 hf => by
    have a1 := hSb.lp
    have a2 := hSb.la
    have a3 := hSb.lw
    exact ⟨hOb.by (by rw [hf.nx]; exact Nat.le_refl _) (hf.get q ne.1 ne.2.1 ne.2.2), Fa.of hf hEb a1 a2 a3⟩
  by_cases h23 : w6 a = 2 ∨ w6 a = 3
  · have e : actG s os a = (if (commitR s a.id a.rdl).2 = 0 then ((commitR s a.id a.rdl).1, (takesR os (readsR ((find (commitR s a.id a.rdl).1 a.id).getD Tx.zero))).1, 0, (takesR os (readsR ((find (commitR s a.id a.rdl).1 a.id).getD Tx.zero))).2) else ((commitR s a.id a.rdl).1, os, (commitR s a.id a.rdl).2, true)) := by
      simp only [actG, if_pos h23]
    rw [e]
    have hcc := commit_c hP _ hSb a.id ha.id.1 ha.id.2 ha.rd ha.bel (by omega) fun o ho => ⟨by have := z3 o ho; omega, ha.ns o ho⟩
    rcases h23 with h2 | h3
    · have b2 : (a.what.tmod 6 == 2) = true := by simp [w6] at h2; simp [h2]
      simp (maxSteps := 2000000) (disch := omega) only [↓reduceIte, b2, i1.frz]
      refine hcc.mono ?_
      rintro _ W1 ⟨rfl, g1, g2⟩
      obtain ⟨f1, f2⟩ := hfr g1 g2
      by_cases hc : (commitR s a.id a.rdl).2 = 0
      · rw [if_pos hc, hc]
        obtain ⟨t, c1, c2, c3, c4⟩ := commitR_ok.1 hc
        obtain ⟨t', ht'⟩ : ∃ t', find (commitR s a.id a.rdl).1 a.id = some t' := by
          rw [commitR_map hS.ok.lt, find_mapId (comT_id _), c1]; exact ⟨_, rfl⟩
        have hto := (find_ok g1.ok ht').2.2
        simp (maxSteps := 2000000) (disch := omega) only [BS, BC, e_seq, cond_if, ↓reduceIte, Nat.reduceEqDiff, BM, BD, show ((0 : Int) != 0) = false by decide]
        have k2 : W1.get (rf W.nx 0) = some (.row [.ptr p 0, .ptr q 0]) := by rw [g2.get _ (by omega) (by omega) (by omega)]; exact gb2
        have k3 : W1.get (rf W.nx 1) = some (.row [.int .u8 a.what, .int .u8 a.client, .int .u16 a.id, a.tx, a.rd]) := by rw [g2.get _ (by simp only [rf]; omega) (by simp only [rf]; omega) (by simp only [rf]; omega)]; exact gb3
        have n1 : W1.nx = W.nx + 2 := by rw [g2.nx]; exact hnb
        simp (maxSteps := 2000000) (disch := omega) only [BS, BC, BM, k2, k3]
        refine pc (find_c hP _ g1 a.id ha.id.1 ha.id.2) ?_
        rw [ht', Option.getD_some, f2.cl.start]
        simp (maxSteps := 2000000) (disch := omega) only [BS, BC, e_seq, ↓reduceIte, Nat.reduceEqDiff, BM, BD, Nat.reduceAdd, Nat.reduceLeDiff, Nat.reduceLT, msV_one, lsV_one, Tx.V, Option.isSome_some]
        refine pc (reads_c hP _ hto) ?_
        simp (maxSteps := 2000000) (disch := omega) only [BS, e_seq, ↓reduceIte]
        rw [e_loop]
        have r1 : rf W.nx 1 = W.nx + 1 := rfl
        refine takes_go hP (q := q) (b2 := rf W.nx 0) Cl.X (f1.ex .x0) (readsR_len hto) (readsR_key hto.ms) (readsR_nums hto) rfl rfl rfl rfl (by rw [X_old (by omega)]; exact k2) (by omega) ?_
        intro A' W2 e10 hO2 hn2 hg2
        simp (maxSteps := 2000000) (disch := omega) only [BS, e_seq, ↓reduceIte, Nat.reduceEqDiff, e10]
        have hn3 : W1.nx + 1 = W2.nx := by rw [hn2]; rfl
        have l1 := g1.lp
        have l2 := g1.la
        have l3 := g1.lw
        have hgx : ∀ x, x < W1.nx → x ≠ q → W2.get x = W1.get x := fun x hx hq => by rw [hg2 x hq, X_old hx]
        refine ⟨_, rfl, _, _, .weak weak_id, by omega, rfl, g1.by (by omega) (hgx _ l1 ne.1.symm) (hgx _ l2 ne.2.1.symm) (hgx _ l3 ne.2.2.symm), hO2, ?_, by omega, fun x hx a b c d => by rw [hgx x (by omega) d]; exact f2.get x hx a b c d⟩
        intro x hx
        rw [hg2 x (by omega)]
        exact Cl.X x (by rw [← hn2]; exact hx)
      · rw [if_neg hc]
        simp (maxSteps := 2000000) (disch := omega) only [BS, e_seq, cond_if, ↓reduceIte, Nat.reduceEqDiff, show ((commitR s a.id a.rdl).2 != 0) = true by simp [hc]]
        exact ⟨_, rfl, _, _, .weak weak_id, f2.nx, rfl, g1, f1, f2⟩
    · have b2 : (a.what.tmod 6 == 2) = false := by simp [w6] at h3; simp [h3]
      have b3 : (a.what.tmod 6 == 3) = true := by simp [w6] at h3; simp [h3]
      simp (maxSteps := 2000000) (disch := omega) only [BC, ↓reduceIte, b2, b3, i1.frz]
      refine hcc.mono ?_
      rintro _ W1 ⟨rfl, g1, g2⟩
      obtain ⟨f1, f2⟩ := hfr g1 g2
      by_cases hc : (commitR s a.id a.rdl).2 = 0
      · rw [if_pos hc, hc]
        obtain ⟨t, c1, c2, c3, c4⟩ := commitR_ok.1 hc
        obtain ⟨t', ht'⟩ : ∃ t', find (commitR s a.id a.rdl).1 a.id = some t' := by
          rw [commitR_map hS.ok.lt, find_mapId (comT_id _), c1]; exact ⟨_, rfl⟩
        have hto := (find_ok g1.ok ht').2.2
        simp (maxSteps := 2000000) (disch := omega) only [BS, BC, e_seq, cond_if, ↓reduceIte, Nat.reduceEqDiff, BM, BD, show ((0 : Int) != 0) = false by decide]
        have k2 : W1.get (rf W.nx 0) = some (.row [.ptr p 0, .ptr q 0]) := by rw [g2.get _ (by omega) (by omega) (by omega)]; exact gb2
        have k3 : W1.get (rf W.nx 1) = some (.row [.int .u8 a.what, .int .u8 a.client, .int .u16 a.id, a.tx, a.rd]) := by rw [g2.get _ (by simp only [rf]; omega) (by simp only [rf]; omega) (by simp only [rf]; omega)]; exact gb3
        have n1 : W1.nx = W.nx + 2 := by rw [g2.nx]; exact hnb
        simp (maxSteps := 2000000) (disch := omega) only [BS, BC, BM, k2, k3]
        refine pc (find_c hP _ g1 a.id ha.id.1 ha.id.2) ?_
        rw [ht', Option.getD_some, f2.cl.start]
        simp (maxSteps := 2000000) (disch := omega) only [BS, BC, e_seq, ↓reduceIte, Nat.reduceEqDiff, BM, BD, Nat.reduceAdd, Nat.reduceLeDiff, Nat.reduceLT, msV_one, lsV_one, Tx.V, Option.isSome_some]
        refine pc (reads_c hP _ hto) ?_
        simp (maxSteps := 2000000) (disch := omega) only [BS, e_seq, ↓reduceIte]
        rw [e_loop]
        have r1 : rf W.nx 1 = W.nx + 1 := rfl
        refine takes_go hP (q := q) (b2 := rf W.nx 0) Cl.X (f1.ex .x0) (readsR_len hto) (readsR_key hto.ms) (readsR_nums hto) rfl rfl rfl rfl (by rw [X_old (by omega)]; exact k2) (by omega) ?_
        intro A' W2 e10 hO2 hn2 hg2
        simp (maxSteps := 2000000) (disch := omega) only [BS, e_seq, ↓reduceIte, Nat.reduceEqDiff, e10]
        have hn3 : W1.nx + 1 = W2.nx := by rw [hn2]; rfl
        have l1 := g1.lp
        have l2 := g1.la
        have l3 := g1.lw
        have hgx : ∀ x, x < W1.nx → x ≠ q → W2.get x = W1.get x := fun x hx hq => by rw [hg2 x hq, X_old hx]
        refine ⟨_, rfl, _, _, .weak weak_id, by omega, rfl, g1.by (by omega) (hgx _ l1 ne.1.symm) (hgx _ l2 ne.2.1.symm) (hgx _ l3 ne.2.2.symm), hO2, ?_, by omega, fun x hx a b c d => by rw [hgx x (by omega) d]; exact f2.get x hx a b c d⟩
        intro x hx
        rw [hg2 x (by omega)]
        exact Cl.X x (by rw [← hn2]; exact hx)
      · rw [if_neg hc]
        simp (maxSteps := 2000000) (disch := omega) only [BS, e_seq, cond_if, ↓reduceIte, Nat.reduceEqDiff, show ((commitR s a.id a.rdl).2 != 0) = true by simp [hc]]
        exact ⟨_, rfl, _, _, .weak weak_id, f2.nx, rfl, g1, f1, f2⟩
  have e23 : ¬ w6 a = 2 ∧ ¬ w6 a = 3 := by omega
  have b2 : (a.what.tmod 6 == 2) = false := by simp [w6] at e23; simp [e23.1]
  have b3 : (a.what.tmod 6 == 3) = false := by simp [w6] at e23; simp [e23.2]
  by_cases h4 : w6 a = 4
  · have e : actG s os a = ((endR s a.id 2).1, os, (endR s a.id 2).2, true) := by simp only [actG, if_neg h23, if_pos h4]
    rw [e]
    have b4 : (a.what.tmod 6 == 4) = true := by simp [w6] at h4; simp [h4]
    simp (maxSteps := 2000000) (disch := omega) only [BC, ↓reduceIte, b2, b3, b4]
    refine (abort_c hP _ hSb a.id ha.id.1 ha.id.2).mono ?_
    rintro _ W1 ⟨rfl, g1, g2⟩
    simp (maxSteps := 2000000) (disch := omega) only [BS, ↓reduceIte, Nat.reduceEqDiff]
    obtain ⟨f1, f2⟩ := hfr g1 g2
    exact ⟨_, rfl, _, _, .weak weak_id, f2.nx, rfl, g1, f1, f2⟩
  have b4 : (a.what.tmod 6 == 4) = false := by simp [w6] at h4; simp [h4]
  by_cases h5 : w6 a = 5
  · have e : actG s os a = ((endR s a.id 3).1, os, (endR s a.id 3).2, true) := by simp only [actG, if_neg h23, if_neg h4, if_pos h5]
    rw [e]
    have b5 : (a.what.tmod 6 == 5) = true := by simp [w6] at h5; simp [h5]
    simp (maxSteps := 2000000) (disch := omega) only [BC, ↓reduceIte, b2, b3, b4, b5]
    refine (info_c hP _ hSb a.id ha.id.1 ha.id.2).mono ?_
    rintro _ W1 ⟨rfl, g1, g2⟩
    simp (maxSteps := 2000000) (disch := omega) only [BS, ↓reduceIte, Nat.reduceEqDiff]
    obtain ⟨f1, f2⟩ := hfr g1 g2
    exact ⟨_, rfl, _, _, .weak weak_id, f2.nx, rfl, g1, f1, f2⟩
  have b5 : (a.what.tmod 6 == 5) = false := by simp [w6] at h5; simp [h5]
  have e : actG s os a = ((beginR s a.client a.id a.txl).1, os, (beginR s a.client a.id a.txl).2, true) := by simp only [actG, if_neg h23, if_neg h4, if_neg h5]
  rw [e]
  simp (maxSteps := 2000000) (disch := omega) only [BC, ↓reduceIte, b2, b3, b4, b5, ha.tx.frz]
  refine (begin_c hP _ hSb a.client a.id ha.id.1 ha.id.2 ha.cl.1 ha.cl.2 ha.tx ha.ms (by omega)).mono ?_
  rintro _ W1 ⟨rfl, g1, g2⟩
  simp (maxSteps := 2000000) (disch := omega) only [BS, ↓reduceIte, Nat.reduceEqDiff]
  obtain ⟨f1, f2⟩ := hfr g1 g2
  exact ⟨_, rfl, _, _, .weak weak_id, f2.nx, rfl, g1, f1, f2⟩
end Go.AL.S
set_option maxRecDepth 100000
set_option maxHeartbeats 2000000
namespace Go.AL.S
open Go Go.AL Go.AL.SE Go.Proofs
/- umpire/umpirelaw27.listed -/
def c_listed : AC := (AC.seq (AC.reg [⟨some 2, .mov, [.c (.nilsl)], none⟩,⟨some 3, .mov, [.c (.bool false)], none⟩]) (AC.seq (AC.reg [⟨some 7, .mov, [.t 0], none⟩,⟨some 8, .call 43, [.t 7], none⟩,⟨some 4, .mov, [.t 8], none⟩]) (AC.seq (AC.seq (AC.reg [⟨some 9, .mov, [.t 4], none⟩,⟨some 10, .eqn false 3, [.t 9, .c (.nilfn)], none⟩]) (AC.cond (.t 10) (AC.seq (AC.reg [⟨some 2, .mov, [.c (.nilsl)], none⟩,⟨some 3, .mov, [.c (.bool false)], none⟩]) AC.ret) AC.skip)) (AC.seq (AC.reg [⟨some 5, .alloc [.nilsl], [], none⟩]) (AC.seq (AC.seq (AC.reg [⟨some 11, .mov, [.t 4], none⟩]) (AC.block 0 (AC.rangef (.t 11) [12] (AC.reg [⟨some 6, .alloc [.int .u16 0, .int .u16 0, .int .u8 0], [], none⟩,⟨none, .store 3, [.t 6, .t 12], none⟩]) (AC.block 1 (AC.reg [⟨some 13, .load false 1, [.t 5], none⟩,⟨some 14, .load true 3, [.t 6], none⟩,⟨some 15, .bslice 3 1 (.agg [.int .u16 0, .int .u16 0, .int .u8 0]) [0], [.t 14], none⟩,⟨some 16, .append 3 6, [.t 13, .t 15], none⟩,⟨none, .store 1, [.t 5, .t 16], none⟩]))))) (AC.seq (AC.reg [⟨some 17, .load false 1, [.t 5], none⟩,⟨some 2, .mov, [.t 17], none⟩,⟨some 3, .mov, [.c (.bool true)], none⟩]) AC.ret))))))
def r_listed : AC × List RT × Nat := (c_listed, [.tmp 2, .tmp 3], 18)
theorem ok_listede : compF Tryz.prog Tryz.f13 ⟨false, false, []⟩ = some r_listed := by kernel_rfl
def c_ledges_0 : AC := (AC.seq (AC.seq (AC.reg [⟨some 22, .mov, [.t 7], none⟩,⟨some 23, .mov, [.t 5], none⟩,⟨some 24, .len 1 0, [.t 23], none⟩,⟨some 25, .bin .lss, [.t 22, .t 24], none⟩]) (AC.cond (.t 25) AC.skip (AC.exit 0))) (AC.seq (AC.block 1 (AC.seq (AC.par (PT.step 0 ⟨some 28, .mov, [.t 5], none⟩ (PT.step 1 ⟨some 29, .mov, [.t 7], none⟩ (PT.step 4 ⟨some 32, .mov, [.t 1], none⟩ (PT.step 5 ⟨some 33, .mov, [.t 7], none⟩ (PT.step 2 ⟨some 30, .idxp 3, [.t 28, .t 29], none⟩ (PT.step 3 ⟨some 31, .load true 3, [.t 30], none⟩ (PT.step 6 ⟨some 34, .idxp 3, [.t 32, .t 33], none⟩ (PT.step 7 ⟨some 35, .load true 3, [.t 34], none⟩ (PT.step 8 ⟨some 36, .eqv true (true, [.i .u16, .i .u16, .i .u8]), [.t 31, .t 35], none⟩ PT.done)))))))))) (AC.cond (.t 36) (AC.seq (AC.reg [⟨some 4, .mov, [.c (.bool false)], none⟩]) AC.ret) AC.skip))) (AC.reg [⟨some 26, .mov, [.t 7], none⟩,⟨some 27, .bin .add, [.t 26, .c (.int .i64 1)], none⟩,⟨some 7, .mov, [.t 27], none⟩])))
/- umpire/umpirelaw27.edges -/
def c_ledges : AC := (AC.seq (AC.reg [⟨some 4, .mov, [.c (.bool false)], none⟩]) (AC.seq (AC.reg [⟨some 9, .mov, [.t 0], none⟩,⟨some 10, .call 13, [.t 9], none⟩,⟨some 8, .mov, [.t 10], none⟩,⟨some 11, .ext 0, [.t 8], none⟩,⟨some 12, .ext 1, [.t 8], none⟩,⟨some 5, .mov, [.t 11], none⟩,⟨some 6, .mov, [.t 12], none⟩]) (AC.seq (AC.seq (AC.reg [⟨some 13, .mov, [.t 6], none⟩,⟨some 14, .un .not, [.t 13], none⟩,⟨some 15, .mov, [.t 14], none⟩,⟨some 16, .mov, [.t 5], (some (15, false))⟩,⟨some 17, .len 1 0, [.t 16], (some (15, false))⟩,⟨some 18, .mov, [.t 1], (some (15, false))⟩,⟨some 19, .len 1 0, [.t 18], (some (15, false))⟩,⟨some 20, .bin .neq, [.t 17, .t 19], (some (15, false))⟩,⟨some 21, .pick, [.t 15, .c (.bool true), .t 20], none⟩]) (AC.cond (.t 21) (AC.seq (AC.reg [⟨some 4, .mov, [.c (.bool false)], none⟩]) AC.ret) AC.skip)) (AC.seq (AC.seq (AC.reg [⟨some 7, .mov, [.c (.int .i64 0)], none⟩]) (AC.block 0 (AC.loop c_ledges_0))) (AC.seq (AC.reg [⟨some 4, .mov, [.c (.bool true)], none⟩]) AC.ret)))))
def r_ledges : AC × List RT × Nat := (c_ledges, [.tmp 4], 37)
theorem ok_ledgese : compF Tryz.prog Tryz.f14 ⟨false, false, []⟩ = some r_ledges := by kernel_rfl
variable {E : Env}
theorem bsE {W : AW} {K : V → AW → Prop} {a b c : Int} : sem E (.bslice 3 1 (.agg [.int .u16 0, .int .u16 0, .int .u8 0]) [0]) [.agg [.int .u16 a, .int .u16 b, .int .u8 c]] W K = K (.sl 3 true [(Ed.mk a b c).V]) W := by
  simp [sem, rsem, tsem, fillE, V.cells, Ed.V]
theorem bsE' {W : AW} {K : V → AW → Prop} {e : Ed} : sem E (.bslice 3 1 (.agg [.int .u16 0, .int .u16 0, .int .u8 0]) [0]) [.agg [.int .u16 e.fr, .int .u16 e.to, .int .u8 e.kd]] W K = K (.sl 3 true [e.V]) W := bsE
theorem eds_now (l : List Ed) : nowGS 3 (l.map Ed.V) = edsV l := by
  cases l <;> rfl
theorem eds_bel (l : List Ed) (n : Nat) : V.belL n (l.map Ed.V) = true := bel_edV n l
theorem listed_c (hP : E.P = Tryz.prog) (W : AW) {g m lo : Nat} {h : V} {P : List Ek} {N : List Int} (hG : Gr W g m h P N lo) : ACalls E 13 [.ptr g 0] W fun Y W' => Y = .tuple [edsV (edL P), .bool true] ∧ W' = W := by
  refine ACalls.of hP Tryz.func13 ok_listede (by simp) fun _ hok => ?_
  have hlm := hG.lm
  have hlg := hG.lg
  simp (maxSteps := 2000000) (disch := omega) only [c_listed, BS, BC, e_seq, ↓reduceIte, reduceCtorEq]
  refine (edges_c hP _ g).mono ?_
  rintro _ W1 ⟨q, rfl, hq, hqn, hE1⟩
  rw [hE1.cl.start]
  simp (maxSteps := 2000000) (disch := omega) only [BS, BC, e_seq, cond_if, ↓reduceIte, Nat.reduceEqDiff, BM, BD]
  obtain ⟨W0, hW0⟩ : ∃ W0, W0 = X W1 W1.nx [.row [.nilsl]] := ⟨_, rfl⟩
  rw [← hW0]
  have hE10 : Ex W1 W0 := by rw [hW0]; exact .x0
  have hn0 : W0.nx = W1.nx + 1 := by rw [hW0]; rfl
  have r0 : rf W1.nx 0 = W1.nx := rfl
  have hc5 : W0.get (rf W1.nx 0) = some (.row [.nilsl]) := by rw [hW0, X_get]; rfl
  clear hW0
  have hE0 := hE1.trans hE10
  have hn1 := hE1.nx
  have hG0 := hG.ex hE0
  have hl := edL_lt hG
  refine range_edges hP (q := q) (lo := lo) (P := P) (N := N) rfl ((hE10.get _ hqn).trans hq) (by omega) hE0.cl hG0 (fun i W2 => Cl W2 ∧ W0.nx < W2.nx ∧ (∀ x, x < W0.nx → x ≠ rf W1.nx 0 → W2.get x = W0.get x) ∧ ∃ h, W2.get (rf W1.nx 0) = some (.row [h]) ∧ nowG W2 h (((edL P).take i).map Ed.V) 3 W0.nx) ?_ ?_ ?_ ?_
  · intro W2 hE hn
    exact ⟨hE.cl, hn, fun x hx _ => hE.get x hx, .nilsl, by rw [hE.get _ (by omega)]; exact hc5, .inl ⟨rfl, rfl⟩⟩
  · exact fun i W2 h => ⟨h.1, h.2.1⟩
  · rintro i hi W2 W2' ⟨j0, j1, j2, h5, j3, j4⟩ hE2 hlp
    have htk : ((edL P).take (i + 1)).map Ed.V = ((edL P).take i).map Ed.V ++ [((edL P)[i]).V] := by
      rw [List.take_add_one, List.getElem?_eq_getElem hi, List.map_append]; rfl
    have hlk : (((edL P).take i).map Ed.V).length = i := by simp; omega
    generalize (edL P)[i] = e at htk
    have hn2 := hE2.nx
    have k5 := (hE2.get _ (show rf W1.nx 0 < W2.nx by omega)).trans j3
    have j4' := j4.to hE2.nx fun r _ hr _ => hE2.get r hr
    refine awp_startC hE2.cl ?_
    simp (maxSteps := 2000000) (disch := omega) only [BS, BC, ↓reduceIte, Nat.reduceEqDiff, BM, BD, Nat.reduceAdd, Nat.reduceLeDiff, Nat.reduceLT, Ed.V, hlp]
    refine ⟨trivial, ?_⟩
    have k5' : (X (W2'.put W0.nx (.loop .busy none)) W2'.nx [.row [.int .u16 e.fr, .int .u16 e.to, .int .u8 e.kd]]).get (rf W1.nx 0) = some (.row [h5]) := by rw [X_old (by omega), put_ne (by omega)]; exact k5
    simp (maxSteps := 2000000) (disch := omega) only [BS, BC, ↓reduceIte, Nat.reduceEqDiff, BM, put_ne, k5, bsE']
    refine app_now (lo := W0.nx) (j4'.to (by simp only [X_nx, rf]; omega) fun r h1 h2 ⟨ys, hy⟩ => by rw [X_old h2, put_ne (by rintro rfl; rw [hlp] at hy; cases hy)]) Cl.X (by simp only [X_nx, rf]; omega) (by decide) rfl (by rw [hlk]; omega) ?_
    intro h' W3 gN gC gn gg1 gg2
    simp only [X_nx, rf, List.length_cons, List.length_nil] at gn
    have k3 : W3.get (rf W1.nx 0) = some (.row [h5]) := by rw [gg2 _ (by omega)]; exact k5'
    have kl : W3.get W0.nx = some (.loop .busy none) := by
      rw [gg1 W0.nx (by simp only [X_nx, rf]; omega) (fun ys => by rw [X_old (by omega), put_at]; simp), X_old (by omega), put_at]
    simp (maxSteps := 2000000) (disch := omega) only [BS, ↓reduceIte, Nat.reduceEqDiff, BM, BD, Nat.reduceLeDiff, gN.cells1.1, gN.cells1.2, k3]
    refine ⟨trivial, by rw [put_ne (by omega)]; exact kl, (gC.put (by omega)).put (by rw [put_nx]; omega), by simp only [put_nx]; omega, fun x hx hx5 => ?_, h', ?_, ?_⟩
    · rw [put_ne (by omega), put_ne hx5, gg2 x hx, X_old (by omega), put_ne (by omega), hE2.get x (by omega)]
      exact j2 x hx hx5
    · first | (rw [put_at]; done) | (rw [put_ne (by omega), put_at])
    · rw [htk]
      refine gN.to (by simp only [put_nx]; exact Nat.le_refl _) fun r h1 h2 ⟨ys, hy⟩ => ?_
      rw [put_ne (by rintro rfl; rw [kl] at hy; cases hy), put_ne (by omega)]
  · rintro W2 ⟨j0, j1, j2, h5, j3, j4⟩ hlp
    rw [List.take_length] at j4
    have k5 : (W2.put W0.nx (.loop .exhausted none)).get (rf W1.nx 0) = some (.row [h5]) := by rw [put_ne (by omega)]; exact j3
    have j5 := j4.to (W' := W2.put W0.nx (.loop .exhausted none)) (by rw [put_nx]; exact Nat.le_refl _) fun r h1 h2 ⟨ys, hy⟩ => put_ne (by rintro rfl; rw [hlp] at hy; cases hy)
    simp (maxSteps := 2000000) (disch := omega) only [BS, BC, e_seq, ↓reduceIte, Nat.reduceEqDiff, BM, k5, j5.frz, eds_now]
    refine ⟨_, rfl, _, W, .weak (weak_back hok (by simp only [V.bel, V.belL, bel_eds, Bool.and_true]) fun x hx => ?_), Nat.le_refl _, rfl, rfl⟩
    have hx' : x < W.nx := hx
    rw [put_ne (by omega), j2 x (by omega) (by omega)]
    exact hE0.get x hx'
end Go.AL.S
set_option maxRecDepth 100000
set_option maxHeartbeats 2000000
namespace Go.AL.S
open Go Go.AL Go.AL.SE Go.Proofs
/- umpire/umpirelaw27.add -/
def c_addA : AC := (AC.seq (AC.reg [⟨some 4, .alloc [.int .u8 0, .int .u8 0, .int .u16 0, .nilsl, .nilsl], [], none⟩]) (AC.seq (AC.reg [⟨some 5, .mov, [.t 0], none⟩,⟨some 6, .mov, [.t 1], none⟩,⟨some 7, .build [.bool false, .int .u8 0, .int .u16 0] [(2, 1)], [.t 6], none⟩,⟨some 8, .bslice 3 1 (.agg [.bool false, .int .u8 0, .int .u16 0]) [0], [.t 7], none⟩,⟨some 9, .build [.int .u8 0, .int .u8 0, .int .u16 0, .nilsl, .nilsl] [(2, 1), (3, 1)], [.t 5, .t 8], none⟩,⟨none, .store 5, [.t 4, .t 9], none⟩]) AC.ret))
def r_addA : AC × List RT × Nat := (c_addA, [.cell 4 true 5], 10)
theorem ok_addAe : compF Tryz.prog Tryz.f65 ⟨false, false, []⟩ = some r_addA := by kernel_rfl
/- umpire/umpirelaw27.read -/
def c_readA : AC := (AC.seq (AC.reg [⟨some 2, .alloc [.int .u8 0, .int .u8 0, .int .u16 0, .nilsl, .nilsl], [], none⟩]) (AC.seq (AC.reg [⟨some 3, .mov, [.t 0], none⟩,⟨some 4, .build [.bool false, .int .u8 0, .int .u16 0] [(0, 1)], [.c (.bool true)], none⟩,⟨some 5, .bslice 3 1 (.agg [.bool false, .int .u8 0, .int .u16 0]) [0], [.t 4], none⟩,⟨some 6, .build [.int .u8 0, .int .u8 0, .int .u16 0, .nilsl, .nilsl] [(2, 1), (3, 1)], [.t 3, .t 5], none⟩,⟨none, .store 5, [.t 2, .t 6], none⟩]) AC.ret))
def r_readA : AC × List RT × Nat := (c_readA, [.cell 2 true 5], 7)
theorem ok_readAe : compF Tryz.prog Tryz.f66 ⟨false, false, []⟩ = some r_readA := by kernel_rfl
/- umpire/umpirelaw27.commit -/
def c_comA : AC := (AC.seq (AC.reg [⟨some 4, .alloc [.int .u8 0, .int .u8 0, .int .u16 0, .nilsl, .nilsl], [], none⟩]) (AC.seq (AC.reg [⟨some 5, .mov, [.t 0], none⟩,⟨some 6, .mov, [.t 1], none⟩,⟨some 7, .bslice 1 1 (.nilsl) [0], [.t 6], none⟩,⟨some 8, .build [.int .u8 0, .int .u8 0, .int .u16 0, .nilsl, .nilsl] [(0, 1), (2, 1), (4, 1)], [.c (.int .u8 2), .t 5, .t 7], none⟩,⟨none, .store 5, [.t 4, .t 8], none⟩]) AC.ret))
def r_comA : AC × List RT × Nat := (c_comA, [.cell 4 true 5], 9)
theorem ok_comAe : compF Tryz.prog Tryz.f67 ⟨false, false, []⟩ = some r_comA := by kernel_rfl
def c_lok_0 : AC := (AC.seq (AC.seq (AC.reg [⟨some 8, .mov, [.t 5], none⟩,⟨some 9, .mov, [.t 1], none⟩,⟨some 10, .len 1 0, [.t 9], none⟩,⟨some 11, .bin .lss, [.t 8, .t 10], none⟩]) (AC.cond (.t 11) AC.skip (AC.exit 0))) (AC.seq (AC.block 1 (AC.seq (AC.par (PT.step 1 ⟨some 16, .mov, [.t 1], none⟩ (PT.step 2 ⟨some 17, .mov, [.t 5], none⟩ (PT.step 0 ⟨some 15, .load true 2, [.t 2], none⟩ (PT.step 3 ⟨some 18, .idxp 5, [.t 16, .t 17], none⟩ (PT.step 4 ⟨some 19, .load true 5, [.t 18], none⟩ (PT.step 5 ⟨some 20, .call 11, [.t 15, .t 19], none⟩ (PT.step 6 ⟨some 14, .mov, [.t 20], none⟩ (PT.step 7 ⟨some 21, .ext 0, [.t 14], none⟩ (PT.step 8 ⟨some 22, .ext 1, [.t 14], none⟩ (PT.step 9 ⟨some 6, .mov, [.t 21], none⟩ (PT.step 10 ⟨some 7, .mov, [.t 22], none⟩ PT.done)))))))))))) (AC.seq (AC.reg [⟨some 23, .mov, [.t 6], none⟩,⟨some 24, .bin .neq, [.t 23, .c (.int .i64 0)], none⟩,⟨some 25, .mov, [.t 24], none⟩,⟨some 26, .mov, [.t 7], (some (25, false))⟩,⟨some 27, .un .not, [.t 26], (some (25, false))⟩,⟨some 28, .pick, [.t 25, .c (.bool true), .t 27], none⟩]) (AC.cond (.t 28) (AC.seq (AC.reg [⟨some 4, .mov, [.c (.bool false)], none⟩]) AC.ret) AC.skip)))) (AC.reg [⟨some 12, .mov, [.t 5], none⟩,⟨some 13, .bin .add, [.t 12, .c (.int .i64 1)], none⟩,⟨some 5, .mov, [.t 13], none⟩])))
/- (umpire/umpirelaw27.state).ok -/
def c_lok : AC := (AC.seq (AC.reg [⟨some 2, .box, [.t 0], none⟩,⟨some 4, .mov, [.c (.bool false)], none⟩]) (AC.seq (AC.seq (AC.reg [⟨some 5, .mov, [.c (.int .i64 0)], none⟩]) (AC.block 0 (AC.loop c_lok_0))) (AC.seq (AC.reg [⟨some 4, .mov, [.c (.bool true)], none⟩]) AC.ret)))
def r_lok : AC × List RT × Nat := (c_lok, [.tmp 4], 29)
theorem ok_loke : compF Tryz.prog Tryz.f64 ⟨false, false, []⟩ = some r_lok := by kernel_rfl
/- umpire/umpirelaw27.awake -/
def c_awake : AC := (AC.seq (AC.reg [⟨some 0, .mov, [.c (.bool false)], none⟩]) (AC.seq (AC.reg [⟨some 5, .call 30, [], none⟩,⟨some 4, .mov, [.t 5], none⟩,⟨some 6, .ext 0, [.t 4], none⟩,⟨some 7, .ext 1, [.t 4], none⟩,⟨some 1, .alloc [.nilptr, .nilptr], [], none⟩,⟨none, .store 2, [.t 1, .t 6], none⟩,⟨some 2, .mov, [.t 7], none⟩]) (AC.seq (AC.reg [⟨some 8, .fld 0, [.t 1], none⟩,⟨some 9, .load false 1, [.t 8], none⟩,⟨some 10, .fld 1, [.t 1], none⟩,⟨some 11, .load false 1, [.t 10], none⟩,⟨some 12, .call 12, [.t 9, .t 11], none⟩,⟨some 3, .mov, [.t 12], none⟩]) (AC.seq (AC.reg [⟨some 13, .mov, [.t 2], none⟩,⟨some 14, .mov, [.t 13], none⟩,⟨some 15, .mov, [.t 3], (some (14, true))⟩,⟨some 16, .call 15, [.t 15], (some (14, true))⟩,⟨some 17, .len 1 0, [.t 16], (some (14, true))⟩,⟨some 18, .bin .eql, [.t 17, .c (.int .i64 5)], (some (14, true))⟩,⟨some 19, .pick, [.t 14, .t 18, .c (.bool false)], none⟩,⟨some 20, .mov, [.t 19], none⟩,⟨some 21, .mov, [.t 3], (some (20, true))⟩,⟨some 22, .build [.int .u16 0, .int .u16 0, .int .u8 0] [(0, 1), (1, 1)], [.c (.int .u16 1), .c (.int .u16 2)], (some (20, true))⟩,⟨some 23, .build [.int .u16 0, .int .u16 0, .int .u8 0] [(0, 1), (1, 1), (2, 1)], [.c (.int .u16 1), .c (.int .u16 4), .c (.int .u8 1)], (some (20, true))⟩,⟨some 24, .build [.int .u16 0, .int .u16 0, .int .u8 0] [(0, 1), (1, 1), (2, 1)], [.c (.int .u16 2), .c (.int .u16 3), .c (.int .u8 1)], (some (20, true))⟩,⟨some 25, .build [.int .u16 0, .int .u16 0, .int .u8 0] [(0, 1), (1, 1), (2, 1)], [.c (.int .u16 4), .c (.int .u16 2), .c (.int .u8 2)], (some (20, true))⟩,⟨some 26, .build [.int .u16 0, .int .u16 0, .int .u8 0] [(0, 1), (1, 1), (2, 1)], [.c (.int .u16 5), .c (.int .u16 1), .c (.int .u8 2)], (some (20, true))⟩,⟨some 27, .bslice 3 5 (.agg [.int .u16 0, .int .u16 0, .int .u8 0]) [0, 1, 2, 3, 4], [.t 22, .t 23, .t 24, .t 25, .t 26], (some (20, true))⟩,⟨some 28, .call 14, [.t 21, .t 27], (some (20, true))⟩,⟨some 29, .pick, [.t 20, .t 28, .c (.bool false)], none⟩,⟨some 0, .mov, [.t 29], none⟩]) AC.ret))))
def r_awake : AC × List RT × Nat := (c_awake, [.tmp 0], 30)
theorem ok_awakee : compF Tryz.prog Tryz.f10 ⟨false, false, []⟩ = some r_awake := by kernel_rfl
/- umpire/umpirelaw27.given -/
def c_given : AC := (AC.seq (AC.reg [⟨some 0, .alloc [.nilptr, .nilptr], [], none⟩,⟨some 1, .mov, [.c (.bool false)], none⟩]) (AC.seq (AC.reg [⟨some 6, .call 8, [], none⟩,⟨some 5, .mov, [.t 6], none⟩,⟨some 7, .ext 0, [.t 5], none⟩,⟨some 8, .ext 1, [.t 5], none⟩,⟨some 2, .alloc [.nilptr, .nilptr], [], none⟩,⟨none, .store 2, [.t 2, .t 7], none⟩,⟨some 3, .mov, [.t 8], none⟩]) (AC.seq (AC.reg [⟨some 9, .build [.int .u8 0, .int .u8 0, .int .u16 0, .nilsl, .nilsl] [(0, 1), (2, 1)], [.c (.int .u8 2), .c (.int .u16 1)], none⟩,⟨some 4, .alloc [.int .u8 0, .int .u8 0, .int .u16 0, .nilsl, .nilsl], [], none⟩,⟨none, .store 5, [.t 4, .t 9], none⟩]) (AC.seq (AC.par (PT.step 1 ⟨some 11, .mov, [.t 3], none⟩ (PT.step 2 ⟨some 12, .mov, [.t 11], none⟩ (PT.step 10 ⟨some 20, .bslice 1 2 (.int .u16 0) [0, 1], [.c (.int .u16 1), .c (.int .u16 2)], (some (12, true))⟩ (PT.step 12 ⟨some 22, .bslice 1 1 (.int .u16 0) [0], [.c (.int .u16 1)], (some (12, true))⟩ (PT.step 3 ⟨some 13, .load true 2, [.t 2], (some (12, true))⟩ (PT.step 4 ⟨some 14, .pcall 65, [.c (.int .u16 1), .c (.int .u16 1)], (some (12, true))⟩ (PT.step 5 ⟨some 15, .pcall 65, [.c (.int .u16 2), .c (.int .u16 2)], (some (12, true))⟩ (PT.step 6 ⟨some 16, .pcall 66, [.c (.int .u16 3)], (some (12, true))⟩ (PT.step 7 ⟨some 17, .pcall 66, [.c (.int .u16 4)], (some (12, true))⟩ (PT.step 8 ⟨some 18, .pcall 66, [.c (.int .u16 5)], (some (12, true))⟩ (PT.step 9 ⟨some 19, .load true 5, [.t 4], (some (12, true))⟩ (PT.step 11 ⟨some 21, .pcall 67, [.c (.int .u16 3), .t 20], (some (12, true))⟩ (PT.step 13 ⟨some 23, .pcall 67, [.c (.int .u16 4), .t 22], (some (12, true))⟩ (PT.step 14 ⟨some 24, .pcall 67, [.c (.int .u16 5), .c (.nilsl)], (some (12, true))⟩ (PT.step 15 ⟨some 25, .bslice 5 9 (.agg [.int .u8 0, .int .u8 0, .int .u16 0, .nilsl, .nilsl]) [0, 1, 2, 3, 4, 5, 6, 7, 8], [.t 14, .t 15, .t 16, .t 17, .t 18, .t 19, .t 21, .t 23, .t 24], (some (12, true))⟩ (PT.alt (PT.step 0 ⟨some 10, .load true 2, [.t 2], none⟩ (PT.step 16 ⟨some 26, .call 64, [.t 13, .t 25], (some (12, true))⟩ (PT.step 17 ⟨some 27, .pick, [.t 12, .t 26, .c (.bool false)], none⟩ (PT.step 18 ⟨none, .store 2, [.t 0, .t 10], none⟩ (PT.step 19 ⟨some 1, .mov, [.t 27], none⟩ PT.done))))) (PT.step 16 ⟨some 26, .call 64, [.t 13, .t 25], (some (12, true))⟩ (PT.step 17 ⟨some 27, .pick, [.t 12, .t 26, .c (.bool false)], none⟩ (PT.step 0 ⟨some 10, .load true 2, [.t 2], none⟩ (PT.step 18 ⟨none, .store 2, [.t 0, .t 10], none⟩ (PT.step 19 ⟨some 1, .mov, [.t 27], none⟩ PT.done)))))))))))))))))))))) AC.ret))))
def r_given : AC × List RT × Nat := (c_given, [.cell 0 true 2, .tmp 1], 28)
theorem ok_givene : compF Tryz.prog Tryz.f30 ⟨false, true, [65, 66, 67]⟩ = some r_given := by kernel_rfl
variable {E : Env}
theorem ed_has {e : Ed} (h : ekOk (ofEd e)) : e.V.has shE = true := ekV_has h
theorem ed_keq {a b : Ed} : a.V.keq b.V = decide (a = b) := by
  have := ekV_keq (ofEd a) (ofEd b)
  have h2 : decide (ofEd b = ofEd a) = decide (a = b) := decide_eq_decide.2 ⟨fun h => (congrArg toEd h).symm, fun h => by rw [h]⟩
  exact this.trans h2
theorem ed_eqv {W : AW} {K : V → AW → Prop} {a b : Ed} (h : ekOk (ofEd a)) (h' : ekOk (ofEd b)) {neg : Bool} : sem E (.eqv neg (true, [.i .u16, .i .u16, .i .u8])) [a.V, b.V] W K = K (.bool (if neg = true then !decide (a = b) else decide (a = b))) W := by
  have h1 := ed_has h
  have h2 := ed_has h'
  simp only [shE] at h1 h2
  simp [sem, rsem, tsem, h1, h2, ed_keq]
theorem ed_load {W : AW} {K : V → AW → Prop} {e : Ed} : sem E (.load true 3) [.cptr e.V.cells] W K = K e.V W := rfl
theorem edL_ok {W : AW} {g m lo : Nat} {h : V} {P : List Ek} {N : List Int} (hG : Gr W g m h P N lo) : ∀ e ∈ edL P, ekOk (ofEd e) := fun _ he => hG.pk _ (edL_mem.1 he)
theorem ledges_c (hP : E.P = Tryz.prog) (W : AW) {g m lo : Nat} {h : V} {P : List Ek} {N : List Int} (hG : Gr W g m h P N lo) {v : V} {l : List Ed} (hv : isS 3 v (l.map Ed.V)) (hl : ∀ e ∈ l, ekOk (ofEd e)) (_ : l.length < 2 ^ 40) :
    ACalls E 14 [.ptr g 0, v] W fun Y W' => Y = .bool (decide (edL P = l)) ∧ W' = W := by
  refine ACalls.of hP Tryz.func14 ok_ledgese (by simp) fun _ hok => ?_
  have hs := edsV_S (edL P)
  have hlt := edL_lt hG
  have hne : (((edL P).length : Int) != (l.length : Int)) = decide ((edL P).length ≠ l.length) := by rw [cmpne]; exact decide_eq_decide.2 (by omega)
  simp (maxSteps := 200000) (disch := omega) only [BS, BC, e_seq, ↓reduceIte, reduceCtorEq, c_ledges]
  refine pc (listed_c hP _ hG) ?_
  simp (maxSteps := 200000) (disch := omega) only [BS, e_seq, ↓reduceIte, Nat.reduceEqDiff, BD]
  (rw [guard_if]; simp (maxSteps := 200000) (disch := omega) only [BS, ↓reduceIte, Nat.reduceEqDiff, ])
  (rw [guard_if]; simp (maxSteps := 200000) (disch := omega) only [BS, ↓reduceIte, Nat.reduceEqDiff, hs.len, List.length_map])
  (rw [guard_if]; simp (maxSteps := 200000) (disch := omega) only [BS, BC, ↓reduceIte, Nat.reduceEqDiff, ])
  (rw [guard_if]; simp (maxSteps := 200000) (disch := omega) only [BS, ↓reduceIte, Nat.reduceEqDiff, hv.len, List.length_map])
  (rw [guard_if]; simp (maxSteps := 200000) (disch := omega) only [BS, BC, e_seq, cond_if, ↓reduceIte, Nat.reduceEqDiff, hne])
  by_cases hn : (edL P).length = l.length
  · simp (maxSteps := 200000) (disch := omega) only [BC, ↓reduceIte, show decide ((edL P).length ≠ l.length) = false by simp [hn]]
    rw [e_loop]
    refine ALoop.go (B := awp E _) (fun h => awp_mono _ h) (fun (k : Nat) A1 W1 => A1 1 = some v ∧ A1 5 = some (edsV (edL P)) ∧ A1 7 = some (.int .i64 k) ∧ k ≤ l.length ∧ W1 = W ∧ (edL P).take k = l.take k) (fun k => l.length - k) 0
      ⟨rfl, rfl, rfl, Nat.zero_le _, rfl, rfl⟩ ?_
    rintro k A1 W1 ⟨g1, g5, g7, gk, rfl, ge⟩ _
    by_cases hk1 : k < l.length
    · have hk2 : k < (edL P).length := by omega
      have o1 := edL_ok hG _ (List.getElem_mem hk2)
      have o2 := hl _ (List.getElem_mem hk1)
      by_cases he : (edL P)[k] = l[k]
      · simp (maxSteps := 2000000) (disch := omega) only [c_ledges_0, BS, BC, e_seq, cond_if, ↓reduceIte, Nat.reduceEqDiff, BD, g1, g5, g7, hs.len, List.length_map, clt, hk2, decide_true, hs.idx (ed_at hk2), hv.idx (ed_at hk1), ed_load, ed_eqv o1 o2, decide_eq_true he, wadd1]
        exact ⟨k + 1, ⟨(by first | trivial | rfl | omega), (by first | trivial | rfl | omega), (by first | trivial | rfl | omega), by omega, (by first | trivial | rfl | omega), take_ext ge hk2 hk1 he⟩, by omega, Nat.le_refl _⟩
      · simp (maxSteps := 2000000) (disch := omega) only [c_ledges_0, BS, BC, e_seq, cond_if, ↓reduceIte, Nat.reduceEqDiff, BD, g1, g5, g7, hs.len, List.length_map, clt, hk2, decide_true, hs.idx (ed_at hk2), hv.idx (ed_at hk1), ed_load, ed_eqv o1 o2, decide_eq_false he]
        exact ⟨_, rfl, _, _, .weak weak_id, Nat.le_refl _, by rw [decide_eq_false (ne_at hk2 hk1 he)], rfl⟩
    · have hk2 : ¬ k < (edL P).length := by omega
      obtain rfl : k = l.length := by omega
      simp (maxSteps := 2000000) (disch := omega) only [c_ledges_0, BS, BC, e_seq, cond_if, ↓reduceIte, Nat.reduceEqDiff, g5, g7, hs.len, List.length_map, clt, hk2, decide_false]
      rw [List.take_of_length_le (by omega), List.take_length] at ge
      exact ⟨_, rfl, _, _, .weak weak_id, Nat.le_refl _, by rw [decide_eq_true ge], rfl⟩
  · simp (maxSteps := 200000) (disch := omega) only [↓reduceIte, show decide ((edL P).length ≠ l.length) = true by simp [hn]]
    exact ⟨_, rfl, _, _, .weak weak_id, Nat.le_refl _, by rw [decide_eq_false]; intro e; exact hn (by rw [e]), rfl⟩
/-! the chapter's transactions -/
theorem bsM {W : AW} {K : V → AW → Prop} {m : Mi} : sem E (.bslice 3 1 (.agg [.bool false, .int .u8 0, .int .u16 0]) [0]) [.agg [.bool m.read, .int .u8 m.key, .int .u16 m.v]] W K = K (.sl 3 true [m.V]) W := by
  simp [sem, rsem, tsem, fillE, V.cells, Mi.V]
def acAdd (i v : Int) : Ac := ⟨0, 0, i, .sl 3 true [(Mi.mk false 0 v).V], [⟨false, 0, v⟩], .nilsl, []⟩
def acRead (i : Int) : Ac := ⟨0, 0, i, .sl 3 true [(Mi.mk true 0 0).V], [⟨true, 0, 0⟩], .nilsl, []⟩
def acCom (i : Int) (v : V) (o : Option (List Int)) : Ac := ⟨2, 0, i, .nilsl, [], .sl 1 true [v], [o]⟩
theorem addA_c (hP : E.P = Tryz.prog) (W : AW) (i v : Int) : ACalls E 65 [.int .u16 i, .int .u16 v] W fun Y W' => Y = (acAdd i v).V ∧ W' = W := by
  refine ACalls.of hP Tryz.func65 ok_addAe (by simp) fun _ hok => ?_
  refine awp_start hok ?_
  simp (maxSteps := 2000000) (disch := omega) only [c_addA, BS, BC, e_seq, ↓reduceIte, Nat.reduceEqDiff, reduceCtorEq, BM, BD, Nat.reduceAdd, Nat.reduceLeDiff, Nat.reduceLT, bsM (m := ⟨false, 0, v⟩)]
  exact ⟨_, rfl, _, W, backX hok rfl, Nat.le_refl _, rfl, rfl⟩
theorem readA_c (hP : E.P = Tryz.prog) (W : AW) (i : Int) : ACalls E 66 [.int .u16 i] W fun Y W' => Y = (acRead i).V ∧ W' = W := by
  refine ACalls.of hP Tryz.func66 ok_readAe (by simp) fun _ hok => ?_
  refine awp_start hok ?_
  simp (maxSteps := 2000000) (disch := omega) only [c_readA, BS, BC, e_seq, ↓reduceIte, Nat.reduceEqDiff, reduceCtorEq, BM, BD, Nat.reduceAdd, Nat.reduceLeDiff, Nat.reduceLT, bsM (m := ⟨true, 0, 0⟩)]
  exact ⟨_, rfl, _, W, backX hok rfl, Nat.le_refl _, rfl, rfl⟩
theorem comA_c (hP : E.P = Tryz.prog) (W : AW) (i : Int) {v : V} {o : Option (List Int)} (h : isEl v o) : ACalls E 67 [.int .u16 i, v] W fun Y W' => Y = (acCom i v o).V ∧ W' = W := by
  refine ACalls.of hP Tryz.func67 ok_comAe (by simp) fun _ hok => ?_
  refine awp_start hok ?_
  have hb : ∀ (W : AW) K, sem E (.bslice 1 1 .nilsl [0]) [v] W K = K (.sl 1 true [v]) W := fun W K => by
    have := h.isS.cells
    simp [sem, rsem, tsem, fillE, this, cells_nilsl]
  simp (maxSteps := 2000000) (disch := omega) only [c_comA, BS, BC, e_seq, ↓reduceIte, Nat.reduceEqDiff, reduceCtorEq, BM, BD, Nat.reduceAdd, Nat.reduceLeDiff, Nat.reduceLT, hb]
  refine ⟨_, rfl, _, W, backX hok ?_, Nat.le_refl _, rfl, rfl⟩
  have : v.bel W.nx = true := h.isS.lens (belL_ints _ _)
  simp only [V.bel, V.belL, this, Bool.and_self]
/-- Acts one behind the other, as long as all goes well. -/
def okRun (s : Str) (o : Ods) : List Ac → Str × Ods × Bool
  | [] => (s, o, true)
  | a :: l => if (actG s o a).2.2.1 = 0 ∧ (actG s o a).2.2.2 = true then okRun (actG s o a).1 (actG s o a).2.1 l else ((actG s o a).1, (actG s o a).2.1, false)
theorem Fa.trans {W W1 W2 : AW} {p ra rw q : Nat} (h : Fa W W1 p ra rw q) (h2 : Fa W1 W2 p ra rw q) : Fa W W2 p ra rw q :=
  ⟨h2.cl, Nat.le_trans h.nx h2.nx, fun x hx a b c d => by rw [h2.get x (by have := h.nx; omega) a b c d]; exact h.get x hx a b c d⟩
theorem ac_load {W : AW} {K : V → AW → Prop} {a : Ac} : sem E (.load true 5) [.cptr a.V.cells] W K = K a.V W := rfl
theorem ac_frz {W : AW} {a : Ac} : W.frz a.V = a.V := rfl
theorem lok_c (hP : E.P = Tryz.prog) (W : AW) {p ra rw q : Nat} {s : Str} {os : Ods} (hS : St W p ra rw s) (hO : Od W q os) (ne : q ≠ p ∧ q ≠ ra ∧ q ≠ rw) {v : V} {l : List Ac} (hv : isS 5 v (l.map Ac.V)) (ha : ∀ a ∈ l, a.ok ∧ a.small) (hl : l.length < 2 ^ 40) :
    ACalls E 64 [.agg [.ptr p 0, .ptr q 0], v] W fun Y W' => Y = .bool (okRun s os l).2.2 ∧ St W' p ra rw (okRun s os l).1 ∧ Od W' q (okRun s os l).2.1 ∧ Fa W W' p ra rw q := by
  refine ACalls.of hP Tryz.func64 ok_loke (by simp) fun _ hok => ?_
  refine awp_start hok ?_
  have hlp := hS.lp
  have hla := hS.la
  have hlw := hS.lw
  have hlq := hO.lq
  simp (maxSteps := 2000000) (disch := omega) only [c_lok, BS, BC, e_seq, BM, BD]
  rw [e_loop]
  refine ALoop.go (B := awp E _) (fun h => awp_mono _ h) (fun (σ : Nat × Str × Ods) A1 W1 => A1 1 = some v ∧ A1 2 = some (.ptr (rf W.nx 0) 0) ∧ A1 5 = some (.int .i64 σ.1) ∧ σ.1 ≤ l.length ∧ W1.get (rf W.nx 0) = some (.row [.ptr p 0, .ptr q 0]) ∧ W.nx < W1.nx ∧ St W1 p ra rw σ.2.1 ∧ Od W1 q σ.2.2 ∧ Fa W W1 p ra rw q ∧ okRun s os l = okRun σ.2.1 σ.2.2 (l.drop σ.1)) (fun σ => l.length - σ.1) (0, s, os)
    ⟨rfl, rfl, rfl, Nat.zero_le _, by rw [X_get]; rfl, by simp [X], hS.ex .x0, hO.ex .x0, ⟨Cl.X, by simp [X], fun x hx _ _ _ _ => X_old hx⟩, by simp⟩ ?_
  rintro ⟨k, s1, o1⟩ A1 W1 ⟨g1, g2, g5, gk, gr, gn, gS, gO, gF, ge⟩ _
  simp only at g5 gk gS gO ge
  have r0 : rf W.nx 0 = W.nx := rfl
  by_cases hk1 : k < l.length
  · have hat : (l.map Ac.V)[k]? = some l[k].V := by simp [hk1]
    obtain ⟨hak, hks⟩ := ha _ (List.getElem_mem hk1)
    have hdr : l.drop k = l[k] :: l.drop (k + 1) := List.drop_eq_getElem_cons hk1
    generalize l[k] = a at hat hak hks hdr
    rw [hdr] at ge
    simp (maxSteps := 2000000) (disch := omega) only [c_lok_0, BS, BC, e_seq, cond_if, ↓reduceIte, Nat.reduceEqDiff, BM, BD, Nat.reduceAdd, Nat.reduceLeDiff, g1, g2, g5, hv.len, List.length_map, clt, hk1, decide_true, hv.idx hat, gr, ac_load, ac_frz]
    refine (act_c hP _ gS gO ne hak hks).mono ?_
    rintro _ W2 ⟨rfl, hS2, hO2, hF2⟩
    have hgr : W2.get (rf W.nx 0) = some (.row [.ptr p 0, .ptr q 0]) := by rw [hF2.get _ (by omega) (by omega) (by omega) (by omega) (by omega)]; exact gr
    simp only [okRun] at ge
    by_cases h1 : (actG s1 o1 a).2.2.1 = 0
    · have h1' : ((actG s1 o1 a).2.2.1 != 0) = false := by simp [h1]
      cases h2 : (actG s1 o1 a).2.2.2 with
      | true =>
        rw [if_pos ⟨h1, h2⟩] at ge
        simp (maxSteps := 200000) (disch := omega) only [BS, e_seq, ↓reduceIte, Nat.reduceEqDiff, h1']
        (rw [guard_if]; simp (maxSteps := 200000) (disch := omega) only [BS, ↓reduceIte, Nat.reduceEqDiff])
        (rw [guard_if]; simp (maxSteps := 200000) (disch := omega) only [BS, BC, cond_if, ↓reduceIte, Nat.reduceEqDiff, BD, g1, g2, g5, wadd1])
        have := hF2.nx
        refine ⟨(k + 1, (actG s1 o1 a).1, (actG s1 o1 a).2.1), ⟨(by first | trivial | rfl | omega), (by first | trivial | rfl | omega), (by first | trivial | rfl | omega), ?_, hgr, by omega, hS2, hO2, gF.trans hF2, ge⟩, ?_, ?_⟩
        · show k + 1 ≤ l.length; omega
        · show l.length - (k + 1) < l.length - k; omega
        · simp only [rf]; omega
      | false =>
        rw [if_neg (by rw [h2]; simp)] at ge
        simp (maxSteps := 200000) (disch := omega) only [BS, e_seq, ↓reduceIte, Nat.reduceEqDiff, h1']
        (rw [guard_if]; simp (maxSteps := 200000) (disch := omega) only [BS, ↓reduceIte, Nat.reduceEqDiff])
        (rw [guard_if]; simp (maxSteps := 200000) (disch := omega) only [BS, BC, e_seq, cond_if, ↓reduceIte, Nat.reduceEqDiff, BD])
        refine ⟨_, rfl, _, _, .weak weak_id, (gF.trans hF2).nx, ?_, ?_, ?_, gF.trans hF2⟩
        · rw [ge]
        · rw [ge]; exact hS2
        · rw [ge]; exact hO2
    · have h1' : ((actG s1 o1 a).2.2.1 != 0) = true := by simp [h1]
      rw [if_neg (fun h => h1 h.1)] at ge
      simp (maxSteps := 200000) (disch := omega) only [BS, e_seq, ↓reduceIte, Nat.reduceEqDiff, h1']
      (rw [guard_if]; simp (maxSteps := 200000) (disch := omega) only [BS, BC, ↓reduceIte, BM])
      (rw [guard_if]; simp (maxSteps := 200000) (disch := omega) only [BS, BC, e_seq, cond_if, ↓reduceIte, Nat.reduceEqDiff, BM])
      refine ⟨_, rfl, _, _, .weak weak_id, (gF.trans hF2).nx, ?_, ?_, ?_, gF.trans hF2⟩
      · rw [ge]
      · rw [ge]; exact hS2
      · rw [ge]; exact hO2
  · obtain rfl : k = l.length := by omega
    rw [List.drop_length] at ge
    simp (maxSteps := 2000000) (disch := omega) only [c_lok_0, BS, BC, e_seq, cond_if, ↓reduceIte, Nat.reduceEqDiff, BM, BD, g1, g5, hv.len, List.length_map, clt, hk1, decide_false]
    refine ⟨_, rfl, _, _, .weak weak_id, gF.nx, ?_, ?_, ?_, gF⟩
    · rw [ge]; rfl
    · rw [ge]; exact gS
    · rw [ge]; exact gO
end Go.AL.S
set_option maxRecDepth 100000
set_option maxHeartbeats 2000000
namespace Go.AL.S
open Go Go.AL Go.AL.SE Go.Proofs
variable {E : Env}
def gL : List Ac := [acAdd 1 1, acAdd 2 2, acRead 3, acRead 4, acRead 5, ⟨2, 0, 1, .nilsl, [], .nilsl, []⟩, acCom 3 (.sl 1 true (intsV [1, 2])) (some [1, 2]), acCom 4 (.sl 1 true (intsV [1])) (some [1]), acCom 5 .nilsl none]
theorem isMs_one (m : Mi) : isMs (.sl 3 true [m.V]) [m] := .mk
theorem acAdd_ok {i v : Int} (hi : 0 ≤ i ∧ i < 65536) (hv : 0 ≤ v ∧ v < 65536) : (acAdd i v).ok where
  wh := by simp [acAdd]
  cl := by simp [acAdd]
  id := hi
  tx := isMs_one ⟨false, 0, v⟩
  rd := ⟨[], .nil, rfl, fun k h => by simp at h⟩
  ms := by simp [acAdd, Mi.ok]; exact hv
  ns := by simp [acAdd]
  bel := rfl
theorem acRead_ok {i : Int} (hi : 0 ≤ i ∧ i < 65536) : (acRead i).ok where
  wh := by simp [acRead]
  cl := by simp [acRead]
  id := hi
  tx := isMs_one ⟨true, 0, 0⟩
  rd := ⟨[], .nil, rfl, fun k h => by simp at h⟩
  ms := by simp [acRead, Mi.ok]
  ns := by simp [acRead]
  bel := rfl
theorem acCom_ok {i : Int} (hi : 0 ≤ i ∧ i < 65536) {v : V} {o : Option (List Int)} (h : isEl v o) (hn : ∀ n ∈ nums o, 0 ≤ n ∧ n < 65536) : (acCom i v o).ok where
  wh := by simp [acCom]
  cl := by simp [acCom]
  id := hi
  tx := .inl ⟨rfl, rfl⟩
  rd := ⟨[v], .mk, rfl, fun k h1 h2 => by
    have : k = 0 := by simp at h1; omega
    subst this; exact h⟩
  ms := by simp [acCom]
  ns := by simpa [acCom] using hn
  bel := by
    have : v.bel 0 = true := h.isS.lens (belL_ints _ _)
    simp only [acCom, V.bel, V.belL, this, Bool.and_self]
theorem gL_ok : ∀ a ∈ gL, a.ok ∧ a.small := by
  have hd : Ac.ok ⟨2, 0, 1, .nilsl, [], .nilsl, []⟩ := ⟨by simp, by simp, by simp, .inl ⟨rfl, rfl⟩, ⟨[], .nil, rfl, fun k h => by simp at h⟩, by simp, by simp, rfl⟩
  intro a ha
  simp only [gL, List.mem_cons, List.not_mem_nil, or_false] at ha
  rcases ha with rfl | rfl | rfl | rfl | rfl | rfl | rfl | rfl | rfl
  · exact ⟨acAdd_ok (by decide) (by decide), by simp [Ac.small, acAdd]⟩
  · exact ⟨acAdd_ok (by decide) (by decide), by simp [Ac.small, acAdd]⟩
  · exact ⟨acRead_ok (by decide), by simp [Ac.small, acRead]⟩
  · exact ⟨acRead_ok (by decide), by simp [Ac.small, acRead]⟩
  · exact ⟨acRead_ok (by decide), by simp [Ac.small, acRead]⟩
  · exact ⟨hd, by simp [Ac.small]⟩
  · exact ⟨acCom_ok (by decide) (.inr (.inr ⟨_, _, rfl, rfl⟩)) (by simp [nums]), by simp [Ac.small, acCom, nums]⟩
  · exact ⟨acCom_ok (by decide) (.inr (.inr ⟨_, _, rfl, rfl⟩)) (by simp [nums]), by simp [Ac.small, acCom, nums]⟩
  · exact ⟨acCom_ok (by decide) (.inl ⟨rfl, rfl⟩) (by simp [nums]), by simp [Ac.small, acCom, nums]⟩
def sG : Str := [⟨1, 0, [⟨false, 0, 1⟩], [], 1⟩, ⟨2, 0, [⟨false, 0, 2⟩], [], 0⟩, ⟨3, 0, [⟨true, 0, 0⟩], [some [1, 2]], 1⟩, ⟨4, 0, [⟨true, 0, 0⟩], [some [1]], 1⟩, ⟨5, 0, [⟨true, 0, 0⟩], [none], 1⟩]
def oG : Ods := [[1, 2], [], [], [], [], [], [], []]
theorem run_g : okRun [] os0 gL = (sG, oG, true) := by decide +kernel
def wantG : List Ed := [⟨1, 2, 0⟩, ⟨1, 4, 1⟩, ⟨2, 3, 1⟩, ⟨4, 2, 2⟩, ⟨5, 1, 2⟩]
theorem edL_of {P : List Ek} {l : List Ed} (h : ((keysE (tally P)).map toEd).Perm l) (hl : l.Pairwise fun a b => ltE b a = false) : edL P = l := sortL_unique h hl
theorem edL_g : edL (buildP sG oG) = wantG := edL_of (by decide +kernel) (by decide +kernel)
theorem nodes_g : nodesR sG = [1, 2, 3, 4, 5] := by decide +kernel
theorem bs12 {W : AW} {K : V → AW → Prop} : sem E (.bslice 1 2 (.int .u16 0) [0, 1]) [.int .u16 1, .int .u16 2] W K = K (.sl 1 true (intsV [1, 2])) W := by
  simp [sem, rsem, tsem, fillE, V.cells, intsV]
theorem bs11 {W : AW} {K : V → AW → Prop} : sem E (.bslice 1 1 (.int .u16 0) [0]) [.int .u16 1] W K = K (.sl 1 true (intsV [1])) W := by
  simp [sem, rsem, tsem, fillE, V.cells, intsV]
theorem bs59 {W : AW} {K : V → AW → Prop} {a b c d e f g h i : Ac} : sem E (.bslice 5 9 (.agg [.int .u8 0, .int .u8 0, .int .u16 0, .nilsl, .nilsl]) [0, 1, 2, 3, 4, 5, 6, 7, 8]) [a.V, b.V, c.V, d.V, e.V, f.V, g.V, h.V, i.V] W K = K (.sl 5 true ([a, b, c, d, e, f, g, h, i].map Ac.V)) W := by
  simp [sem, rsem, tsem, fillE, V.cells, Ac.V]
theorem Fr.fa {W W' : AW} {p ra rw q : Nat} (h : Fa W W' p ra rw q) : Fa W W' p ra rw q := h
theorem Sx.fa {W W1 W2 : AW} {p ra rw q : Nat} {s s' : Str} {os os' : Ods} (h : Sx W W1 p ra rw q s os) (hS : St W2 p ra rw s') (hO : Od W2 q os') (hF : Fa W1 W2 p ra rw q) : Sx W W2 p ra rw q s' os' := by
  have a := h.nw.hp
  have b := h.nw.ha
  have c := h.nw.hw
  have d := h.hq
  have hn := h.nw.ex.nx
  exact ⟨⟨hS, ⟨hF.cl, Nat.le_trans hn hF.nx, fun x hx => by rw [hF.get x (by omega) (by omega) (by omega) (by omega) (by omega)]; exact h.nw.ex.get x hx⟩, a, b, c⟩, hO, d, h.ne⟩
theorem Sx.exx {W W1 W2 : AW} {p ra rw q : Nat} {s : Str} {os : Ods} (h : Sx W W1 p ra rw q s os) (hE : Ex W1 W2) : Sx W W2 p ra rw q s os := ⟨h.nw.exx hE, h.od.ex hE, h.hq, h.ne⟩
theorem Sx.base {W W1 : AW} {p ra rw q : Nat} {s : Str} {os : Ods} {l : List AObj} (h : Sx (X W W.nx l) W1 p ra rw q s os) : Sx W W1 p ra rw q s os := by
  have a := h.nw.hp
  have b := h.nw.ha
  have c := h.nw.hw
  have d := h.hq
  simp only [X] at a b c d
  exact ⟨⟨h.nw.st, Ex.x0.trans h.nw.ex, by omega, by omega, by omega⟩, h.od, by omega, h.ne⟩
theorem Sx.put {W W1 : AW} {p ra rw q r : Nat} {s : Str} {os : Ods} {o : AObj} (h : Sx W W1 p ra rw q s os) (h1 : W.nx ≤ r) (h2 : r < W1.nx) (hr : r ≠ p ∧ r ≠ ra ∧ r ≠ rw ∧ r ≠ q) : Sx W (W1.put r o) p ra rw q s os :=
  ⟨⟨h.nw.st.by (by rw [put_nx]; exact Nat.le_refl _) (put_ne hr.1.symm) (put_ne hr.2.1.symm) (put_ne hr.2.2.1.symm), ⟨h.nw.ex.cl.put h2, h.nw.ex.nx, fun x hx => by rw [put_ne (by omega)]; exact h.nw.ex.get x hx⟩, h.nw.hp, h.nw.ha, h.nw.hw⟩, h.od.by (by rw [put_nx]; exact Nat.le_refl _) (put_ne hr.2.2.2.symm), h.hq, h.ne⟩
theorem given_c (hP : E.P = Tryz.prog) (W : AW) : ACalls E 30 [] W fun Y W' => ∃ p ra rw q, Y = .tuple [.agg [.ptr p 0, .ptr q 0], .bool true] ∧ Sx W W' p ra rw q sG oG := by
  refine ACalls.of hP Tryz.func30 ok_givene (by simp) fun _ hok => ?_
  refine awp_start hok ?_
  simp (maxSteps := 200000) (disch := omega) only [BS, BC, e_seq, BM, BD, c_given]
  refine (fresh_c hP _).mono ?_
  rintro _ W1 ⟨p, ra, rw, q, rfl, h⟩
  have hn0 : (X W W.nx [.row [.nilptr, .nilptr]]).nx = W.nx + 1 := rfl
  have r0 : rf W.nx 0 = W.nx := rfl
  have g0 : W1.get (rf W.nx 0) = some (.row [.nilptr, .nilptr]) := by rw [h.nw.ex.get _ (by rw [hn0]; omega), X_get]; rfl
  have hn1 := h.nw.ex.nx
  rw [hn0] at hn1
  rw [h.nw.ex.cl.start]
  simp (maxSteps := 200000) (disch := omega) only [BS, BC, e_seq, ↓reduceIte, Nat.reduceEqDiff, BM, BD, Nat.reduceAdd, Nat.reduceLeDiff, Nat.reduceLT]
  (rw [guard_if]; simp (maxSteps := 200000) (disch := omega) only [BS, ↓reduceIte, bs12])
  (rw [guard_if]; simp (maxSteps := 200000) (disch := omega) only [BS, ↓reduceIte, Nat.reduceEqDiff, bs11])
  (rw [guard_if]; simp (maxSteps := 200000) (disch := omega) only [BS, BC, ↓reduceIte, Nat.reduceEqDiff, BM, BD, Nat.reduceAdd, Nat.reduceLeDiff, ])
  (rw [guard_if]; simp (maxSteps := 200000) (disch := omega) only [BS, ↓reduceIte, Nat.reduceEqDiff, ])
  refine pcall_go (v := (acAdd 1 1).V) rfl (addA_c hP _ 1 1) ?_
  simp (maxSteps := 200000) (disch := omega) only [BS, ]
  (rw [guard_if]; simp (maxSteps := 200000) (disch := omega) only [BS, ↓reduceIte, Nat.reduceEqDiff, ])
  refine pcall_go (v := (acAdd 2 2).V) rfl (addA_c hP _ 2 2) ?_
  simp (maxSteps := 200000) (disch := omega) only [BS, ]
  (rw [guard_if]; simp (maxSteps := 200000) (disch := omega) only [BS, ↓reduceIte, Nat.reduceEqDiff, ])
  refine pcall_go (v := (acRead 3).V) rfl (readA_c hP _ 3) ?_
  simp (maxSteps := 200000) (disch := omega) only [BS, ]
  (rw [guard_if]; simp (maxSteps := 200000) (disch := omega) only [BS, ↓reduceIte, Nat.reduceEqDiff, ])
  refine pcall_go (v := (acRead 4).V) rfl (readA_c hP _ 4) ?_
  simp (maxSteps := 200000) (disch := omega) only [BS, ]
  (rw [guard_if]; simp (maxSteps := 200000) (disch := omega) only [BS, ↓reduceIte, Nat.reduceEqDiff, ])
  refine pcall_go (v := (acRead 5).V) rfl (readA_c hP _ 5) ?_
  simp (maxSteps := 200000) (disch := omega) only [BS, ]
  (rw [guard_if]; simp (maxSteps := 200000) (disch := omega) only [BS, BC, ↓reduceIte, Nat.reduceEqDiff, BM, BD, Nat.reduceAdd, Nat.reduceLeDiff, ])
  (rw [guard_if]; simp (maxSteps := 200000) (disch := omega) only [BS, ↓reduceIte, Nat.reduceEqDiff, ])
  refine pcall_go (v := (acCom 3 (.sl 1 true (intsV [1, 2])) (some [1, 2])).V) rfl (comA_c hP _ 3 (.inr (.inr ⟨_, _, rfl, rfl⟩))) ?_
  simp (maxSteps := 200000) (disch := omega) only [BS, ]
  (rw [guard_if]; simp (maxSteps := 200000) (disch := omega) only [BS, ↓reduceIte, Nat.reduceEqDiff, ])
  refine pcall_go (v := (acCom 4 (.sl 1 true (intsV [1])) (some [1])).V) rfl (comA_c hP _ 4 (.inr (.inr ⟨_, _, rfl, rfl⟩))) ?_
  simp (maxSteps := 200000) (disch := omega) only [BS, ]
  (rw [guard_if]; simp (maxSteps := 200000) (disch := omega) only [BS, ↓reduceIte, Nat.reduceEqDiff, ])
  refine pcall_go (v := (acCom 5 .nilsl none).V) rfl (comA_c hP _ 5 (.inl ⟨rfl, rfl⟩)) ?_
  simp (maxSteps := 200000) (disch := omega) only [BS, ]
  (rw [guard_if]; simp (maxSteps := 200000) (disch := omega) only [BS, BC, ↓reduceIte, Nat.reduceEqDiff, BM, BD, Nat.reduceAdd, Nat.reduceLeDiff, show V.agg [.int .u8 2, .int .u8 0, .int .u16 1, .nilsl, .nilsl] = (Ac.mk 2 0 1 .nilsl [] .nilsl []).V from rfl, bs59])
  have hp := h.nw.hp
  have ha := h.nw.ha
  have hw := h.nw.hw
  have hq := h.hq
  rw [hn0] at hp ha hw hq
  have hx0 : Sx W (X W1 W1.nx [.row [.ptr p 0, .ptr q 0], .row [.int .u8 2, .int .u8 0, .int .u16 1, .nilsl, .nilsl]]) p ra rw q [] os0 := (h.exx (Ex.refl h.nw.ex.cl).X).base
  have hlp := h.nw.st.lp
  have hla := h.nw.st.la
  have hlw := h.nw.st.lw
  have hlq := h.od.lq
  have r1 : rf W1.nx 0 = W1.nx := rfl
  have hrun := lok_c hP _ hx0.nw.st hx0.od h.ne (v := .sl 5 true (gL.map Ac.V)) (l := gL) .mk gL_ok (by decide)
  rw [run_g] at hrun
  simp only at hrun
  constructor
  · (rw [guard_if]; simp (maxSteps := 200000) (disch := omega) only [BS, BC, ↓reduceIte, Nat.reduceEqDiff, ])
    refine hrun.mono ?_
    rintro _ W2 ⟨rfl, hS2, hO2, hF2⟩
    have k0 : W2.get (rf W.nx 0) = some (.row [.nilptr, .nilptr]) := by rw [hF2.get _ (by simp only [X_nx, rf]; omega) (by omega) (by omega) (by omega) (by omega), X_old (by omega)]; exact g0
    have hn2 := hF2.nx
    simp only [X_nx, rf, List.length_cons, List.length_nil] at hn2
    simp (maxSteps := 200000) (disch := omega) only [BS, BC, ↓reduceIte, Nat.reduceEqDiff, reduceCtorEq, BM, BD, Nat.reduceAdd, Nat.reduceLeDiff, k0, put_at]
    exact ⟨_, rfl, _, _, .weak weak_id, by rw [put_nx]; omega, p, ra, rw, q, rfl, (hx0.fa hS2 hO2 hF2).put (by omega) (by omega) (by omega)⟩
  · (rw [guard_if]; simp (maxSteps := 200000) (disch := omega) only [BS, BC, ↓reduceIte, Nat.reduceEqDiff, ])
    refine hrun.mono ?_
    rintro _ W2 ⟨rfl, hS2, hO2, hF2⟩
    have k0 : W2.get (rf W.nx 0) = some (.row [.nilptr, .nilptr]) := by rw [hF2.get _ (by simp only [X_nx, rf]; omega) (by omega) (by omega) (by omega) (by omega), X_old (by omega)]; exact g0
    have k1 : W2.get (rf W1.nx 0) = some (.row [.ptr p 0, .ptr q 0]) := by rw [hF2.get _ (by simp only [X_nx, rf, List.length_cons, List.length_nil]; omega) (by omega) (by omega) (by omega) (by omega), X_get]; rfl
    have hn2 := hF2.nx
    simp only [X_nx, rf, List.length_cons, List.length_nil] at hn2
    simp (maxSteps := 200000) (disch := omega) only [BS, BC, ↓reduceIte, Nat.reduceEqDiff, reduceCtorEq, BM, BD, Nat.reduceAdd, Nat.reduceLeDiff, k0, k1, put_at]
    exact ⟨_, rfl, _, _, .weak weak_id, by rw [put_nx]; omega, p, ra, rw, q, rfl, (hx0.fa hS2 hO2 hF2).put (by omega) (by omega) (by omega)⟩
end Go.AL.S
set_option maxRecDepth 100000
set_option maxHeartbeats 2000000
namespace Go.AL.S
open Go Go.AL Go.AL.SE Go.Proofs
variable {E : Env}
theorem bs35 {W : AW} {K : V → AW → Prop} {a1 a2 a3 b1 b2 b3 c1 c2 c3 d1 d2 d3 e1 e2 e3 : Int} : sem E (.bslice 3 5 (.agg [.int .u16 0, .int .u16 0, .int .u8 0]) [0, 1, 2, 3, 4]) [.agg [.int .u16 a1, .int .u16 a2, .int .u8 a3], .agg [.int .u16 b1, .int .u16 b2, .int .u8 b3], .agg [.int .u16 c1, .int .u16 c2, .int .u8 c3], .agg [.int .u16 d1, .int .u16 d2, .int .u8 d3], .agg [.int .u16 e1, .int .u16 e2, .int .u8 e3]] W K = K (.sl 3 true (([⟨a1, a2, a3⟩, ⟨b1, b2, b3⟩, ⟨c1, c2, c3⟩, ⟨d1, d2, d3⟩, ⟨e1, e2, e3⟩] : List Ed).map Ed.V)) W := by
  simp [sem, rsem, tsem, fillE, V.cells, Ed.V]
theorem wantG_ok : ∀ e ∈ wantG, ekOk (ofEd e) := by
  intro e he
  simp only [wantG, List.mem_cons, List.not_mem_nil, or_false] at he
  rcases he with rfl | rfl | rfl | rfl | rfl <;> exact ⟨by simp [ofEd], by simp [ofEd], by simp [ofEd]⟩
theorem awake_c (hP : E.P = Tryz.prog) (W : AW) : ACalls E 10 [] W fun Y W' => Y = .bool true ∧ W' = W := by
  refine ACalls.of hP Tryz.func10 ok_awakee (by simp) fun _ hok => ?_
  simp (maxSteps := 200000) (disch := omega) only [BS, BC, e_seq, c_awake]
  refine (given_c hP _).mono ?_
  rintro _ W1 ⟨p, ra, rw, q, rfl, h⟩
  have h1 := h.exx (Ex.refl h.nw.ex.cl).X (W2 := X W1 W1.nx [.row [.ptr p 0, .ptr q 0]])
  rw [h.nw.ex.cl.start]
  simp (maxSteps := 200000) (disch := omega) only [BS, BC, e_seq, ↓reduceIte, Nat.reduceEqDiff, BM, BD, Nat.reduceAdd, Nat.reduceLeDiff, Nat.reduceLT, e_seq]
  refine (build_c hP _ h1.nw.st h1.od).mono ?_
  rintro _ W2 ⟨g, m, hn, rfl, hG, hE⟩
  have hs := nowGS_S 1 (intsV (nodesR sG))
  have h5 : (nodesR sG).length = 5 := by rw [nodes_g]; rfl
  simp (maxSteps := 200000) (disch := omega) only [BS, e_seq, ↓reduceIte, Nat.reduceEqDiff, e_seq]
  (rw [guard_if]; simp (maxSteps := 200000) (disch := omega) only [BS, ↓reduceIte, Nat.reduceEqDiff, ])
  (rw [guard_if]; simp (maxSteps := 200000) (disch := omega) only [BS, BC, ↓reduceIte, Nat.reduceEqDiff, ])
  refine pc (nodes_c hP _ hG) ?_
  simp (maxSteps := 200000) (disch := omega) only [BS]
  (rw [guard_if]; simp (maxSteps := 200000) (disch := omega) only [BS, ↓reduceIte, Nat.reduceEqDiff, hs.len, ints_len, h5])
  (rw [guard_if]; simp (maxSteps := 200000) (disch := omega) only [BS, ↓reduceIte, Nat.reduceEqDiff, show (((5 : Nat) : Int) == 5) = true by decide])
  (rw [guard_if]; simp (maxSteps := 200000) (disch := omega) only [BS, ↓reduceIte, Nat.reduceEqDiff, ])
  (rw [guard_if]; simp (maxSteps := 200000) (disch := omega) only [BS, ↓reduceIte, Nat.reduceEqDiff, BM, BD, Nat.reduceAdd, Nat.reduceLeDiff, ])
  (rw [guard_if]; simp (maxSteps := 200000) (disch := omega) only [BS, ↓reduceIte, Nat.reduceEqDiff, BM, BD, Nat.reduceAdd, Nat.reduceLeDiff, ])
  (rw [guard_if]; simp (maxSteps := 200000) (disch := omega) only [BS, ↓reduceIte, Nat.reduceEqDiff, BM, BD, Nat.reduceAdd, Nat.reduceLeDiff, ])
  (rw [guard_if]; simp (maxSteps := 200000) (disch := omega) only [BS, ↓reduceIte, Nat.reduceEqDiff, BM, BD, Nat.reduceAdd, Nat.reduceLeDiff, ])
  (rw [guard_if]; simp (maxSteps := 200000) (disch := omega) only [BS, ↓reduceIte, Nat.reduceEqDiff, BM, BD, Nat.reduceAdd, Nat.reduceLeDiff, ])
  (rw [guard_if]; simp (maxSteps := 200000) (disch := omega) only [BS, BC, ↓reduceIte, Nat.reduceEqDiff, bs35])
  (rw [guard_if]; simp (maxSteps := 200000) (disch := omega) only [BS, BC, ↓reduceIte, Nat.reduceEqDiff, ])
  refine pc (ledges_c hP _ hG (l := wantG) .mk wantG_ok (by decide)) ?_
  rw [edL_g]
  simp (maxSteps := 200000) (disch := omega) only [BS, BC, ↓reduceIte, Nat.reduceEqDiff, decide_true]
  exact ⟨_, rfl, _, W, (h1.nw.ex.trans hE).back hok rfl, Nat.le_refl _, rfl, rfl⟩
end Go.AL.S
set_option maxRecDepth 100000
set_option maxHeartbeats 2000000
namespace Go.AL.S
open Go Go.AL Go.AL.SE Go.Proofs
variable {E : Env}
/-! graphs that are none, and the empty one -/
theorem nodes_nil (hP : E.P = Tryz.prog) (W : AW) : ACalls E 15 [.nilptr] W fun Y W' => Y = .nilsl ∧ W' = W := by
  refine ACalls.of hP Tryz.func15 ok_nodese (by simp) fun _ hok => ?_
  simp (maxSteps := 200000) (disch := omega) only [BS, BC, e_seq, cond_if, ↓reduceIte, reduceCtorEq, BM, c_nodes]
  exact ⟨_, rfl, _, _, .weak weak_id, Nat.le_refl _, rfl, rfl⟩
theorem sorted_nil (hP : E.P = Tryz.prog) (W : AW) : ACalls E 87 [.nilptr] W fun Y W' => Y = .nilsl ∧ W' = W := by
  refine ACalls.of hP Tryz.func87 ok_sortede (by simp) fun _ hok => ?_
  simp (maxSteps := 200000) (disch := omega) only [BS, BC, e_seq, cond_if, ↓reduceIte, reduceCtorEq, BM, c_sorted]
  exact ⟨_, rfl, _, _, .weak weak_id, Nat.le_refl _, rfl, rfl⟩
theorem edges_c' (hP : E.P = Tryz.prog) (W : AW) {gp : V} (h1 : gp.cells = [gp]) (_ : gp.one = true) : ACalls E 43 [gp] W fun Y W' => ∃ q, Y = .fn (.func 86) [] [.ptr q 0] ∧ W'.get q = some (.row [gp]) ∧ q < W'.nx ∧ Ex W W' := by
  refine ACalls.of hP Tryz.func43 ok_edgese (by simp) fun _ hok => ?_
  refine awp_start hok ?_
  simp only [c_edges, BS, BC, e_seq, ↓reduceIte, Nat.reduceEqDiff, BM, BD, h1]
  exact ⟨_, rfl, _, _, .weak weak_id, by simp [X], rf W.nx 0, rfl, by rw [X_get]; rfl, by simp [X, rf], .x0⟩
/-- A round over no edges. -/
theorem range_none (hP : E.P = Tryz.prog) {W0 : AW} {A : AFr} {q pv : Nat} {gp : V} {gx : AX} {asg body : AC} {Q : Exit → AFr → AW → Prop} (hg : gx.ev E A = some (.fn (.func 86) [] [.ptr q 0])) (hq : W0.get q = some (.row [gp])) (hqn : q < W0.nx) (hC : Cl W0) (hfr : ∀ W : AW, W.frz gp = gp)
    (hs : ∀ (E' : Env), E'.P = Tryz.prog → ∀ W1, Ex W0 W1 → ACalls E' 87 [gp] W1 fun Y W' => Y = .nilsl ∧ W' = W1)
    (hQ : ∀ W1, Ex W0 W1 → W0.nx < W1.nx → W1.get W0.nx = some (.loop .ready none) → Q .normal A (W1.put W0.nx (.loop .exhausted none))) : awp E (.rangef gx [pv] asg body) Q A W0 := by
  rw [awp_rangef', hg]
  intro E' eP eG ey _
  have hP' : E'.P = Tryz.prog := eP.trans hP
  have hE : Ex W0 (W0.alloc (.loop .ready none)) := ⟨fun r hr => by rw [alloc_nx] at hr; rw [al_gets, if_neg (by omega)]; exact hC r (by omega), by rw [alloc_nx]; omega, fun x hx => alloc_lt hx⟩
  have hq' : (W0.alloc (.loop .ready none)).get q = some (.row [gp]) := by rw [alloc_lt hqn]; exact hq
  simp only [List.map_cons, List.map_nil, frz_ptr]
  refine ACalls.mono (Q := fun Y W' => Y = .tuple [] ∧ W' = W0.alloc (.loop .ready none)) ?_ ?_
  · refine ACalls.of hP' Tryz.func86 ok_edges1e (by simp) fun _ hok => ?_
    simp (maxSteps := 200000) (disch := omega) only [BS, BC, e_seq, ↓reduceIte, BM, c_edges1, hq', hfr]
    refine pc (hs E' hP' _ hE) ?_
    simp (maxSteps := 200000) (disch := omega) only [BS, ↓reduceIte]
    rw [e_loop]
    refine ALoop.go (B := awp E' _) (fun h => awp_mono _ h) (fun (i : Unit) A1 W1 => A1 7 = some (.int .i64 0) ∧ A1 8 = some (.int .i64 0) ∧ W1 = W0.alloc (.loop .ready none)) (fun _ => 0) ()
      ⟨rfl, rfl, rfl⟩ ?_
    rintro _ A1 W1 ⟨g7, g8, rfl⟩ _
    simp (maxSteps := 200000) (disch := omega) only [BS, BC, e_seq, cond_if, ↓reduceIte, Nat.reduceLT, c_edges1_0, g7, g8, show decide ((0 : Int) < 0) = false by decide]
    exact ⟨_, rfl, _, _, .weak weak_id, Nat.le_refl _, rfl, rfl⟩
  · rintro Y W1 ⟨_, rfl⟩
    simp only [doneQ, alloc_at]
    exact hQ _ hE (by rw [alloc_nx]; omega) alloc_at
theorem count_none (hP : E.P = Tryz.prog) (W : AW) {gp : V} (h1 : gp.cells = [gp]) (h2 : gp.one = true) (hfr : ∀ W : AW, W.frz gp = gp) (hs : ∀ (E' : Env), E'.P = Tryz.prog → ∀ W1, Ex W W1 → ACalls E' 87 [gp] W1 fun Y W' => Y = .nilsl ∧ W' = W1) (k : Int) : ACalls E 27 [gp, .int .u8 k] W fun Y W' => Y = .int .i64 0 ∧ W' = W := by
  refine ACalls.of hP Tryz.func27 ok_countGe (by simp) fun _ hok => ?_
  refine awp_start hok ?_
  simp (maxSteps := 200000) (disch := omega) only [BS, BC, e_seq, ↓reduceIte, reduceCtorEq, BM, BD, c_countG, hfr]
  refine (edges_c' hP _ h1 h2).mono ?_
  rintro _ W0 ⟨q, rfl, hq, hqn, hE⟩
  have hE0 : Ex W W0 := Ex.x0.trans hE
  have hn0 := hE.nx
  simp only [X_nx, rf, List.length_cons, List.length_nil] at hn0
  have r1 : rf W.nx 1 = W.nx + 1 := rfl
  have w4 : W0.get (rf W.nx 1) = some (.row [.int .i64 0]) := by rw [hE.get _ (by simp [X_nx, rf]), X_get]; rfl
  simp (maxSteps := 200000) (disch := omega) only [BS]
  refine range_none hP (q := q) (gp := gp) (by simp only [ev_t]; exact if_pos rfl) hq hqn hE0.cl hfr (fun E' hE' W1 h => hs E' hE' W1 (hE0.trans h)) ?_
  intro W1 hE1 hn1 hlp
  have k4 : (W1.put W0.nx (.loop .exhausted none)).get (rf W.nx 1) = some (.row [.int .i64 0]) := by rw [put_ne (by omega), hE1.get _ (by omega)]; exact w4
  simp (maxSteps := 200000) (disch := omega) only [BS, BC, e_seq, ↓reduceIte, Nat.reduceEqDiff, BM, BD, Nat.reduceLeDiff, k4, put_at]
  refine ⟨_, rfl, _, W, .weak (weak_back hok rfl fun y hy => ?_), Nat.le_refl _, rfl, rfl⟩
  have hy' : y < W.nx := hy
  rw [put_ne (by omega), put_ne (by omega), hE1.get _ (by omega)]
  exact hE0.get y hy'
theorem listed_none (hP : E.P = Tryz.prog) (W : AW) {gp : V} (h1 : gp.cells = [gp]) (h2 : gp.one = true) (hfr : ∀ W : AW, W.frz gp = gp) (hs : ∀ (E' : Env), E'.P = Tryz.prog → ∀ W1, Ex W W1 → ACalls E' 87 [gp] W1 fun Y W' => Y = .nilsl ∧ W' = W1) : ACalls E 13 [gp] W fun Y W' => Y = .tuple [.nilsl, .bool true] ∧ W' = W := by
  refine ACalls.of hP Tryz.func13 ok_listede (by simp) fun _ hok => ?_
  simp (maxSteps := 200000) (disch := omega) only [BS, BC, e_seq, ↓reduceIte, reduceCtorEq, c_listed, hfr]
  refine (edges_c' hP _ h1 h2).mono ?_
  rintro _ W1 ⟨q, rfl, hq, hqn, hE1⟩
  rw [hE1.cl.start]
  simp (maxSteps := 200000) (disch := omega) only [BS, BC, e_seq, cond_if, ↓reduceIte, Nat.reduceEqDiff, BM, BD]
  obtain ⟨W0, hW0⟩ : ∃ W0, W0 = X W1 W1.nx [.row [.nilsl]] := ⟨_, rfl⟩
  rw [← hW0]
  have hE10 : Ex W1 W0 := by rw [hW0]; exact .x0
  have hn0 : W0.nx = W1.nx + 1 := by rw [hW0]; rfl
  have r0 : rf W1.nx 0 = W1.nx := rfl
  have hc5 : W0.get (rf W1.nx 0) = some (.row [.nilsl]) := by rw [hW0, X_get]; rfl
  clear hW0
  have hE0 := hE1.trans hE10
  have hn1 := hE1.nx
  refine range_none hP (q := q) (gp := gp) rfl ((hE10.get _ hqn).trans hq) (by omega) hE0.cl hfr (fun E' hE' W1 h => hs E' hE' W1 (hE0.trans h)) ?_
  intro W2 hE2 hn2 hlp
  have k5 : (W2.put W0.nx (.loop .exhausted none)).get (rf W1.nx 0) = some (.row [.nilsl]) := by rw [put_ne (by omega), hE2.get _ (by omega)]; exact hc5
  simp (maxSteps := 200000) (disch := omega) only [BS, BC, e_seq, ↓reduceIte, Nat.reduceEqDiff, BM, k5]
  refine ⟨_, rfl, _, W, .weak (weak_back hok rfl fun y hy => ?_), Nat.le_refl _, rfl, rfl⟩
  have hy' : y < W.nx := hy
  rw [put_ne (by omega), hE2.get _ (by omega)]
  exact hE0.get y hy'
theorem ledges_none (hP : E.P = Tryz.prog) (W : AW) {gp : V} (h1 : gp.cells = [gp]) (h2 : gp.one = true) (hfr : ∀ W : AW, W.frz gp = gp) (hs : ∀ (E' : Env), E'.P = Tryz.prog → ∀ W1, Ex W W1 → ACalls E' 87 [gp] W1 fun Y W' => Y = .nilsl ∧ W' = W1) : ACalls E 14 [gp, .nilsl] W fun Y W' => Y = .bool true ∧ W' = W := by
  refine ACalls.of hP Tryz.func14 ok_ledgese (by simp) fun _ hok => ?_
  simp (maxSteps := 200000) (disch := omega) only [BS, BC, e_seq, ↓reduceIte, reduceCtorEq, c_ledges, hfr]
  refine pc (listed_none hP _ h1 h2 hfr hs) ?_
  simp (maxSteps := 200000) (disch := omega) only [BS, e_seq, ↓reduceIte, Nat.reduceEqDiff, BD]
  repeat (rw [guard_if]; simp (maxSteps := 200000) (disch := omega) only [BS, BC, e_seq, cond_if, ↓reduceIte, Nat.reduceEqDiff, show ((0 : Int) != 0) = false by decide])
  rw [e_loop]
  refine ALoop.go (B := awp E _) (fun h => awp_mono _ h) (fun (i : Unit) A1 W1 => A1 5 = some .nilsl ∧ A1 7 = some (.int .i64 0) ∧ W1 = W) (fun _ => 0) ()
    ⟨rfl, rfl, rfl⟩ ?_
  rintro _ A1 W1 ⟨g5, g7, rfl⟩ _
  simp (maxSteps := 200000) (disch := omega) only [BS, BC, e_seq, cond_if, ↓reduceIte, Nat.reduceEqDiff, Nat.reduceLT, c_ledges_0, g5, g7, show decide ((0 : Int) < 0) = false by decide]
  exact ⟨_, rfl, _, _, .weak weak_id, Nat.le_refl _, rfl, rfl⟩
theorem counts_nil (hP : E.P = Tryz.prog) (W : AW) {q : Nat} {r : Rd} : ACalls E 28 [.nilptr, .ptr q 0, rdV r] W fun Y W' => Y = .bool false ∧ W' = W := by
  refine ACalls.of hP Tryz.func28 ok_countse (by simp) fun _ hok => ?_
  refine awp_start hok ?_
  have hs := (elV_isEl r.2).isS
  simp (maxSteps := 200000) (disch := omega) only [BS, BC, e_seq, ↓reduceIte, reduceCtorEq, BM, BD, c_counts, rdV]
  repeat (rw [guard_if]; simp (maxSteps := 200000) (disch := omega) only [BS, BC, e_seq, cond_if, ↓reduceIte, Nat.reduceEqDiff, BM])
  exact ⟨_, rfl, _, W, backX hok rfl, Nat.le_refl _, rfl, rfl⟩
theorem build_nil1 (hP : E.P = Tryz.prog) (W : AW) {q : Nat} : ACalls E 12 [.nilptr, .ptr q 0] W fun Y W' => Y = .nilptr ∧ W' = W := by
  refine ACalls.of hP Tryz.func12 ok_builde (by simp) fun _ hok => ?_
  refine awp_start hok ?_
  have c1 : (V.nilptr).cells = [.nilptr] := rfl
  have c2 : (V.nilptr).one = true := rfl
  simp (maxSteps := 200000) (disch := omega) only [BS, BC, e_seq, ↓reduceIte, Nat.reduceEqDiff, BM, BD, c_build, c1]
  repeat (rw [guard_if]; simp (maxSteps := 200000) (disch := omega) only [BS, BC, e_seq, cond_if, ↓reduceIte, Nat.reduceEqDiff, BM])
  exact ⟨_, rfl, _, W, backX hok rfl, Nat.le_refl _, rfl, rfl⟩
theorem build_nil2 (hP : E.P = Tryz.prog) (W : AW) {p : Nat} : ACalls E 12 [.ptr p 0, .nilptr] W fun Y W' => Y = .nilptr ∧ W' = W := by
  refine ACalls.of hP Tryz.func12 ok_builde (by simp) fun _ hok => ?_
  refine awp_start hok ?_
  have c1 : (V.nilptr).cells = [.nilptr] := rfl
  have c2 : (V.nilptr).one = true := rfl
  simp (maxSteps := 200000) (disch := omega) only [BS, BC, e_seq, ↓reduceIte, Nat.reduceEqDiff, BM, BD, c_build, c1]
  repeat (rw [guard_if]; simp (maxSteps := 200000) (disch := omega) only [BS, BC, e_seq, cond_if, ↓reduceIte, Nat.reduceEqDiff, BM, BD, Nat.reduceAdd, Nat.reduceLeDiff, Nat.reduceLT])
  exact ⟨_, rfl, _, W, backX hok rfl, Nat.le_refl _, rfl, rfl⟩
end Go.AL.S
set_option maxRecDepth 100000
set_option maxHeartbeats 2000000
namespace Go.AL.S
open Go Go.AL Go.AL.SE Go.Proofs
variable {E : Env}
/-! the empty graph -/
theorem cells_nilmap : (V.nilmap).cells = [.nilmap] := id rfl
theorem one_nilmap : (V.nilmap).one = true := id rfl
theorem frz_nilmap {W : AW} : W.frz .nilmap = .nilmap := id rfl
theorem m_rangem0 {W : AW} {K : V → AW → Prop} : sem E .rangem [.nilmap] W K = K (.ptr W.nx 0) (W.alloc (.iter none 0 [] 0)) := id rfl
theorem m_nextm0 {W : AW} {K : V → AW → Prop} {i a c : Nat} {b : List Nat} (h : W.get i = some (.iter none a b c)) : sem E .nextm [.ptr i 0] W K = K (.tuple [.bool false]) W := by
  simp only [sem, h]
theorem e46_zero (hP : E.P = Tryz.prog) (W : AW) {y pb : Nat} (hb : W.get pb = some (.row [.nilmap])) (hpb : pb < W.nx) : ACalls E 125 [.yld y, .ptr pb 0] W fun Y W' => Y = .tuple [] ∧ W' = W := by
  refine ACalls.of hP Tryz.func125 ok_e46e (by simp) fun _ hok => ?_
  refine awp_start hok ?_
  simp (maxSteps := 200000) (disch := omega) only [BS, BC, e_seq, ↓reduceIte, BM, BD, c_e46, hb, m_rangem0]
  rw [e_loop]
  refine ALoop.go (B := awp E _) (fun h => awp_mono _ h) (fun (i : Unit) A1 W1 => A1 5 = some (.ptr (rf W.nx 0) 0) ∧ W1 = X W W.nx [.iter none 0 [] 0]) (fun _ => 0) ()
    ⟨rfl, rfl⟩ ?_
  rintro _ A1 W1 ⟨g5, rfl⟩ _
  have hg : (X W W.nx [.iter none 0 [] 0]).get (rf W.nx 0) = some (.iter none 0 [] 0) := by rw [X_get]; rfl
  simp (maxSteps := 200000) (disch := omega) only [BS, BC, e_seq, cond_if, ↓reduceIte, BM, BD, Nat.reduceLT, g5, m_nextm0 hg]
  exact ⟨_, rfl, _, W, backX hok rfl, Nat.le_refl _, rfl, rfl⟩
theorem e53_zero (hP : E.P = Tryz.prog) (W : AW) {pb : Nat} (hb : W.get pb = some (.row [.nilmap])) (hpb : pb < W.nx) : ACalls E 163 [.nilsl, .fn (.func 125) [] [.ptr pb 0]] W fun Y W' => Y = .nilsl ∧ W' = W := by
  refine ACalls.of hP Tryz.func163 ok_e53e (by simp) fun _ hok => ?_
  refine awp_start hok ?_
  simp only [c_e53, BS, BC, e_seq, ↓reduceIte, Nat.reduceEqDiff, BM, BD, awp_rangef']
  intro E' eP eG ey _
  have hP' : E'.P = Tryz.prog := eP.trans hP
  have r1 : rf W.nx 1 = W.nx + 1 := rfl
  have hbb : ∀ l, (X W W.nx l).get pb = some (.row [.nilmap]) := fun l => by rw [X_old hpb]; exact hb
  refine pc (e46_zero hP' _ (hbb _) (by simp only [X_nx, rf]; omega)) ?_
  have hlp : (X W W.nx [.row [.nilsl], .loop .ready none]).get (rf W.nx 1) = some (.loop .ready none) := by rw [X_get]; rfl
  simp only [doneQ, hlp, BS, BC, e_seq, ↓reduceIte, Nat.reduceEqDiff, BM, BD, Nat.reduceAdd, Nat.reduceLT]
  exact ⟨_, rfl, _, W, backX hok rfl, Nat.le_refl _, rfl, rfl⟩
theorem e34_zero (hP : E.P = Tryz.prog) (W : AW) {pb : Nat} (hb : W.get pb = some (.row [.nilmap])) (hpb : pb < W.nx) : ACalls E 107 [.fn (.func 125) [] [.ptr pb 0], (.fn (.func 109) [] [])] W fun Y W' => Y = .nilsl ∧ W' = W := by
  refine ACalls.of hP Tryz.func107 ok_e34e (by simp) fun _ hok => ?_
  simp (maxSteps := 200000) (disch := omega) only [BS, BC, e_seq, ↓reduceIte, reduceCtorEq, c_e34]
  refine pc (v := .nilsl) ?_ ?_
  · refine ACalls.of hP Tryz.func123 ok_e44e (by simp) fun _ hok' => ?_
    simp (maxSteps := 200000) (disch := omega) only [BS, BC, e_seq, ↓reduceIte, reduceCtorEq, c_e44]
    refine pc (e53_zero hP _ hb hpb) ?_
    simp (maxSteps := 200000) (disch := omega) only [BS, BC, ↓reduceIte]
    exact ⟨_, rfl, _, _, .weak weak_id, Nat.le_refl _, rfl, rfl⟩
  simp (maxSteps := 200000) (disch := omega) only [BS, BC, e_seq, ↓reduceIte, Nat.reduceEqDiff]
  refine pc (Go.AL.SE.sort_nil hP _) ?_
  simp (maxSteps := 200000) (disch := omega) only [BS, BC, e_seq, ↓reduceIte, Nat.reduceEqDiff, e_seq]
  exact ⟨_, rfl, _, _, .weak weak_id, Nat.le_refl _, rfl, rfl⟩
theorem sorted_zero (hP : E.P = Tryz.prog) (W : AW) {z : Nat} (hz : W.get z = some (.row [.nilsl, .nilmap])) : ACalls E 87 [.ptr z 0] W fun Y W' => Y = .nilsl ∧ W' = W := by
  refine ACalls.of hP Tryz.func87 ok_sortede (by simp) fun _ hok => ?_
  simp (maxSteps := 200000) (disch := omega) only [BS, BC, e_seq, cond_if, ↓reduceIte, reduceCtorEq, BM, BD, c_sorted, hz, frz_nilmap]
  refine ACalls.mono (Q := fun Y W' => Y = .fn (.func 125) [] [.ptr W.nx 0] ∧ W' = W.alloc (.row [.nilmap])) ?_ ?_
  · refine ACalls.of hP Tryz.func108 ok_e35e (by simp) fun _ hok => ?_
    simp only [c_e35, BS, BC, e_seq, ↓reduceIte, Nat.reduceEqDiff, BD, cells_nilmap]
    exact ⟨_, rfl, _, _, .weak weak_id, by rw [alloc_nx]; omega, rfl, rfl⟩
  rintro _ W1 ⟨rfl, rfl⟩
  simp (maxSteps := 200000) (disch := omega) only [BS, BC, ↓reduceIte]
  have hE : Ex W (W.alloc (.row [.nilmap])) := ⟨fun x hx => by rw [alloc_nx] at hx; rw [al_gets, if_neg (by omega)]; exact ok_Cl hok x (by omega), by rw [alloc_nx]; omega, fun x hx => alloc_lt hx⟩
  refine pc (e34_zero hP _ (pb := W.nx) alloc_at (by rw [alloc_nx]; omega)) ?_
  simp (maxSteps := 200000) (disch := omega) only [BS, BC, ↓reduceIte]
  exact ⟨_, rfl, _, W, hE.back hok rfl, Nat.le_refl _, rfl, rfl⟩
theorem has_zero (hP : E.P = Tryz.prog) (W : AW) {z : Nat} (hz : W.get z = some (.row [.nilsl, .nilmap])) (hzl : z < W.nx) (e : Ed) (he : ekOk (ofEd e)) : ACalls E 16 [.ptr z 0, e.V] W fun Y W' => Y = .bool false ∧ W' = W := by
  refine ACalls.of hP Tryz.func16 ok_hasGe (by simp) fun _ hok => ?_
  refine awp_start hok ?_
  have hh := ekV_has he
  have hlk : ∀ l K, sem E (.lookup shE (.int .i64 0) false) [.nilmap, .agg [.int .u16 e.fr, .int .u16 e.to, .int .u8 e.kd]] (X W W.nx l) K = K (.int .i64 0) (X W W.nx l) := fun l K => by
    rw [show V.agg [.int .u16 e.fr, .int .u16 e.to, .int .u8 e.kd] = ekV (ofEd e) from rfl]
    simp only [sem]
    exact propext ⟨fun h => h.2, fun h => ⟨hh, h⟩⟩
  simp (maxSteps := 200000) (disch := omega) only [BS, BC, e_seq, ↓reduceIte, reduceCtorEq, BM, BD, c_hasG, Ed.V]
  repeat (rw [guard_if]; simp (maxSteps := 200000) (disch := omega) only [BS, BC, ↓reduceIte, Nat.reduceEqDiff, reduceCtorEq, BM, BD, Nat.reduceAdd, Nat.reduceLeDiff, hz, hlk, show decide ((0 : Int) > 0) = false by decide])
  exact ⟨_, rfl, _, W, backX hok rfl, Nat.le_refl _, rfl, rfl⟩
theorem next_zero (hP : E.P = Tryz.prog) (W : AW) {z : Nat} {kv : V} {ks : List V} (hz : W.get z = some (.row [.nilsl, .nilmap])) (hzl : z < W.nx) (hkv : isS 1 kv ks) : ACalls E 31 [.ptr z 0, kv] W fun Y W' => ∃ r, Y = .slr r 0 0 1 ∧ Ex W W' := by
  refine ACalls.of hP Tryz.func31 ok_nexte (by simp) fun _ hok => ?_
  refine awp_start hok ?_
  have hmk : ∀ (W : AW) K, sem E (.makesl 1 24 [.nilsl]) [.int .i64 0, .int .i64 0] W K = K (.slr W.nx 0 0 1) (W.alloc (.vec 1 [])) := fun W K => mk24 (n := 0) (by decide)
  simp (maxSteps := 200000) (disch := omega) only [BS, BC, e_seq, cond_if, ↓reduceIte, Nat.reduceEqDiff, BM, BD, Nat.reduceAdd, Nat.reduceLeDiff, Nat.reduceLT, c_next, hkv.cells, hz, hmk]
  refine (edges_c hP _ z).mono ?_
  rintro _ W0 ⟨q, rfl, hq, hqn, hE⟩
  have hE0 : Ex W W0 := Ex.x0.trans hE
  have hn0 := hE.nx
  simp only [X_nx, rf, List.length_cons, List.length_nil] at hn0
  have r3 : rf W.nx 3 = W.nx + 3 := rfl
  have w5 : W0.get (rf W.nx 3) = some (.row [.slr (rf W.nx 2) 0 0 1]) := by rw [hE.get _ (by simp [X_nx, rf]), X_get]; rfl
  simp (maxSteps := 200000) (disch := omega) only [BS]
  refine range_none hP (q := q) (gp := .ptr z 0) (by simp only [ev_t]; exact if_pos rfl) hq hqn hE0.cl (fun _ => rfl) (fun E' hE' W1 h => sorted_zero hE' W1 (by rw [(hE0.trans h).get z hzl]; exact hz)) ?_
  intro W1 hE1 hn1 hlp
  have k5 : (W1.put W0.nx (.loop .exhausted none)).get (rf W.nx 3) = some (.row [.slr (rf W.nx 2) 0 0 1]) := by rw [put_ne (by omega), hE1.get _ (by omega)]; exact w5
  simp (maxSteps := 200000) (disch := omega) only [BS, BC, e_seq, ↓reduceIte, Nat.reduceEqDiff, BM, k5]
  refine ⟨_, rfl, _, _, .weak weak_id, by rw [put_nx]; omega, rf W.nx 2, rfl, hE1.cl.put (by omega), by rw [put_nx]; omega, fun y hy => ?_⟩
  rw [put_ne (by omega), hE1.get _ (by omega)]
  exact hE0.get y hy
end Go.AL.S
set_option maxRecDepth 100000
set_option maxHeartbeats 2000000
namespace Go.AL.S
open Go Go.AL Go.AL.SE Go.Proofs
/-! GraphKnown, in plain words -/
theorem known_sorted : (nodesR sG).Pairwise fun a b => a < b := by rw [nodes_g]; decide +kernel
theorem known_ends : ∀ x ∈ buildP sG oG, x.1 ∈ nodesR sG ∧ x.2.1 ∈ nodesR sG := by decide +kernel
theorem known_next1 : nextR (buildP sG oG) (nodesR sG) [0] = [[1], [], [], [], []] := by
  unfold nextR; rw [edL_g, nodes_g]; decide +kernel
theorem known_next2 : nextR (buildP sG oG) (nodesR sG) [1, 2] = [[3], [2], [], [1], [0]] := by
  unfold nextR; rw [edL_g, nodes_g]; decide +kernel
theorem known_count : countK (buildP sG oG) 2 = 2 := by
  unfold countK; rw [edL_g]; decide +kernel
theorem known_has1 : inP (buildP sG oG) ⟨1, 2, 0⟩ = true := by decide +kernel
theorem known_has2 : inP (buildP sG oG) ⟨2, 1, 0⟩ = false := by decide +kernel
theorem known_c1 : countsR sG oG (0, some [1]) = true := by decide +kernel
theorem known_c2 : countsR sG oG (0, some [2]) = false := by decide +kernel
theorem known_c3 : countsR sG oG (0, some [1, 2, 9]) = false := by decide +kernel
theorem known_c4 : countsR sG oG (5, none) = true := by decide +kernel
def sH : Str := (endR sG 2 2).1
theorem known_abort : endR sG 2 2 = (sH, 0) := by decide +kernel
theorem known_edges : edL (buildP sH oG) = [⟨1, 4, 1⟩, ⟨5, 1, 2⟩] := edL_of (by decide +kernel) (by decide +kernel)
theorem known_nodes : (nodesR sH).length = 4 := by decide +kernel
end Go.AL.S
set_option maxRecDepth 100000
set_option maxHeartbeats 2000000
namespace Go.AL.S
open Go Go.AL Go.AL.SE Go.Proofs
/- umpire/umpirelaw27.GraphKnown -/
def c_known : AC := (AC.seq (AC.reg [⟨some 0, .mov, [.c (.bool false)], none⟩]) (AC.seq (AC.reg [⟨some 10, .call 30, [], none⟩,⟨some 9, .mov, [.t 10], none⟩,⟨some 11, .ext 0, [.t 9], none⟩,⟨some 12, .ext 1, [.t 9], none⟩,⟨some 1, .alloc [.nilptr, .nilptr], [], none⟩,⟨none, .store 2, [.t 1, .t 11], none⟩,⟨some 2, .mov, [.t 12], none⟩]) (AC.seq (AC.reg [⟨some 13, .fld 0, [.t 1], none⟩,⟨some 14, .load false 1, [.t 13], none⟩,⟨some 15, .fld 1, [.t 1], none⟩,⟨some 16, .load false 1, [.t 15], none⟩,⟨some 17, .call 12, [.t 14, .t 16], none⟩,⟨some 3, .mov, [.t 17], none⟩]) (AC.seq (AC.reg [⟨some 18, .mov, [.t 3], none⟩,⟨some 19, .bslice 1 1 (.int .u8 0) [0], [.c (.int .u8 0)], none⟩,⟨some 20, .call 31, [.t 18, .t 19], none⟩,⟨some 21, .mov, [.t 3], none⟩,⟨some 22, .bslice 1 2 (.int .u8 0) [0, 1], [.c (.int .u8 1), .c (.int .u8 2)], none⟩,⟨some 23, .call 31, [.t 21, .t 22], none⟩,⟨some 4, .mov, [.t 20], none⟩,⟨some 5, .mov, [.t 23], none⟩]) (AC.seq (AC.seq (AC.reg [⟨some 24, .call 10, [], none⟩,⟨some 25, .un .not, [.t 24], none⟩,⟨some 26, .mov, [.t 25], none⟩,⟨some 27, .mov, [.t 2], (some (26, false))⟩,⟨some 28, .un .not, [.t 27], (some (26, false))⟩,⟨some 29, .pick, [.t 26, .c (.bool true), .t 28], none⟩,⟨some 30, .mov, [.t 29], none⟩,⟨some 31, .mov, [.t 4], (some (30, false))⟩,⟨some 32, .len 1 0, [.t 31], (some (30, false))⟩,⟨some 33, .bin .neq, [.t 32, .c (.int .i64 5)], (some (30, false))⟩,⟨some 34, .pick, [.t 30, .c (.bool true), .t 33], none⟩,⟨some 35, .mov, [.t 34], none⟩,⟨some 36, .mov, [.t 5], (some (35, false))⟩,⟨some 37, .len 1 0, [.t 36], (some (35, false))⟩,⟨some 38, .bin .neq, [.t 37, .c (.int .i64 5)], (some (35, false))⟩,⟨some 39, .pick, [.t 35, .c (.bool true), .t 38], none⟩,⟨some 40, .mov, [.t 39], none⟩,⟨some 41, .mov, [.t 4], (some (40, false))⟩,⟨some 42, .idxp 1, [.t 41, .c (.int .i64 0)], (some (40, false))⟩,⟨some 43, .load false 1, [.t 42], (some (40, false))⟩,⟨some 44, .bslice 1 1 (.int .i64 0) [0], [.c (.int .i64 1)], (some (40, false))⟩,⟨some 45, .call 26, [.t 43, .t 44], (some (40, false))⟩,⟨some 46, .un .not, [.t 45], (some (40, false))⟩,⟨some 47, .pick, [.t 40, .c (.bool true), .t 46], none⟩,⟨some 48, .mov, [.t 47], none⟩,⟨some 49, .mov, [.t 4], (some (48, false))⟩,⟨some 50, .idxp 1, [.t 49, .c (.int .i64 1)], (some (48, false))⟩,⟨some 51, .load false 1, [.t 50], (some (48, false))⟩,⟨some 52, .len 1 0, [.t 51], (some (48, false))⟩,⟨some 53, .bin .neq, [.t 52, .c (.int .i64 0)], (some (48, false))⟩,⟨some 54, .pick, [.t 48, .c (.bool true), .t 53], none⟩,⟨some 55, .mov, [.t 54], none⟩,⟨some 56, .mov, [.t 5], (some (55, false))⟩,⟨some 57, .idxp 1, [.t 56, .c (.int .i64 0)], (some (55, false))⟩,⟨some 58, .load false 1, [.t 57], (some (55, false))⟩,⟨some 59, .bslice 1 1 (.int .i64 0) [0], [.c (.int .i64 3)], (some (55, false))⟩,⟨some 60, .call 26, [.t 58, .t 59], (some (55, false))⟩,⟨some 61, .un .not, [.t 60], (some (55, false))⟩,⟨some 62, .pick, [.t 55, .c (.bool true), .t 61], none⟩,⟨some 63, .mov, [.t 62], none⟩,⟨some 64, .mov, [.t 5], (some (63, false))⟩,⟨some 65, .idxp 1, [.t 64, .c (.int .i64 1)], (some (63, false))⟩,⟨some 66, .load false 1, [.t 65], (some (63, false))⟩,⟨some 67, .bslice 1 1 (.int .i64 0) [0], [.c (.int .i64 2)], (some (63, false))⟩,⟨some 68, .call 26, [.t 66, .t 67], (some (63, false))⟩,⟨some 69, .un .not, [.t 68], (some (63, false))⟩,⟨some 70, .pick, [.t 63, .c (.bool true), .t 69], none⟩,⟨some 71, .mov, [.t 70], none⟩,⟨some 72, .mov, [.t 5], (some (71, false))⟩,⟨some 73, .idxp 1, [.t 72, .c (.int .i64 3)], (some (71, false))⟩,⟨some 74, .load false 1, [.t 73], (some (71, false))⟩,⟨some 75, .bslice 1 1 (.int .i64 0) [0], [.c (.int .i64 1)], (some (71, false))⟩,⟨some 76, .call 26, [.t 74, .t 75], (some (71, false))⟩,⟨some 77, .un .not, [.t 76], (some (71, false))⟩,⟨some 78, .pick, [.t 71, .c (.bool true), .t 77], none⟩,⟨some 79, .mov, [.t 78], none⟩,⟨some 80, .mov, [.t 5], (some (79, false))⟩,⟨some 81, .idxp 1, [.t 80, .c (.int .i64 4)], (some (79, false))⟩,⟨some 82, .load false 1, [.t 81], (some (79, false))⟩,⟨some 83, .bslice 1 1 (.int .i64 0) [0], [.c (.int .i64 0)], (some (79, false))⟩,⟨some 84, .call 26, [.t 82, .t 83], (some (79, false))⟩,⟨some 85, .un .not, [.t 84], (some (79, false))⟩,⟨some 86, .pick, [.t 79, .c (.bool true), .t 85], none⟩,⟨some 87, .mov, [.t 86], none⟩,⟨some 88, .mov, [.t 3], (some (87, false))⟩,⟨some 89, .build [.int .u16 0, .int .u16 0, .int .u8 0] [(0, 1), (1, 1)], [.c (.int .u16 1), .c (.int .u16 2)], (some (87, false))⟩,⟨some 90, .call 16, [.t 88, .t 89], (some (87, false))⟩,⟨some 91, .un .not, [.t 90], (some (87, false))⟩,⟨some 92, .pick, [.t 87, .c (.bool true), .t 91], none⟩,⟨some 93, .mov, [.t 92], none⟩,⟨some 94, .mov, [.t 3], (some (93, false))⟩,⟨some 95, .build [.int .u16 0, .int .u16 0, .int .u8 0] [(0, 1), (1, 1)], [.c (.int .u16 2), .c (.int .u16 1)], (some (93, false))⟩,⟨some 96, .call 16, [.t 94, .t 95], (some (93, false))⟩,⟨some 97, .pick, [.t 93, .c (.bool true), .t 96], none⟩,⟨some 98, .mov, [.t 97], none⟩,⟨some 99, .mov, [.t 3], (some (98, false))⟩,⟨some 100, .call 27, [.t 99, .c (.int .u8 2)], (some (98, false))⟩,⟨some 101, .bin .neq, [.t 100, .c (.int .i64 2)], (some (98, false))⟩,⟨some 102, .pick, [.t 98, .c (.bool true), .t 101], none⟩]) (AC.cond (.t 102) (AC.seq (AC.reg [⟨some 0, .mov, [.c (.bool false)], none⟩]) AC.ret) AC.skip)) (AC.seq (AC.seq (AC.reg [⟨some 103, .fld 0, [.t 1], none⟩,⟨some 104, .load false 1, [.t 103], none⟩,⟨some 105, .fld 1, [.t 1], none⟩,⟨some 106, .load false 1, [.t 105], none⟩,⟨some 107, .bslice 1 1 (.int .u16 0) [0], [.c (.int .u16 1)], none⟩,⟨some 108, .build [.int .u8 0, .nilsl] [(1, 1)], [.t 107], none⟩,⟨some 109, .call 28, [.t 104, .t 106, .t 108], none⟩,⟨some 110, .un .not, [.t 109], none⟩,⟨some 111, .mov, [.t 110], none⟩,⟨some 112, .fld 0, [.t 1], (some (111, false))⟩,⟨some 113, .load false 1, [.t 112], (some (111, false))⟩,⟨some 114, .fld 1, [.t 1], (some (111, false))⟩,⟨some 115, .load false 1, [.t 114], (some (111, false))⟩,⟨some 116, .bslice 1 1 (.int .u16 0) [0], [.c (.int .u16 2)], (some (111, false))⟩,⟨some 117, .build [.int .u8 0, .nilsl] [(1, 1)], [.t 116], (some (111, false))⟩,⟨some 118, .call 28, [.t 113, .t 115, .t 117], (some (111, false))⟩,⟨some 119, .pick, [.t 111, .c (.bool true), .t 118], none⟩,⟨some 120, .mov, [.t 119], none⟩,⟨some 121, .fld 0, [.t 1], (some (120, false))⟩,⟨some 122, .load false 1, [.t 121], (some (120, false))⟩,⟨some 123, .fld 1, [.t 1], (some (120, false))⟩,⟨some 124, .load false 1, [.t 123], (some (120, false))⟩,⟨some 125, .bslice 1 3 (.int .u16 0) [0, 1, 2], [.c (.int .u16 1), .c (.int .u16 2), .c (.int .u16 9)], (some (120, false))⟩,⟨some 126, .build [.int .u8 0, .nilsl] [(1, 1)], [.t 125], (some (120, false))⟩,⟨some 127, .call 28, [.t 122, .t 124, .t 126], (some (120, false))⟩,⟨some 128, .pick, [.t 120, .c (.bool true), .t 127], none⟩,⟨some 129, .mov, [.t 128], none⟩,⟨some 130, .fld 0, [.t 1], (some (129, false))⟩,⟨some 131, .load false 1, [.t 130], (some (129, false))⟩,⟨some 132, .fld 1, [.t 1], (some (129, false))⟩,⟨some 133, .load false 1, [.t 132], (some (129, false))⟩,⟨some 134, .build [.int .u8 0, .nilsl] [(0, 1)], [.c (.int .u8 5)], (some (129, false))⟩,⟨some 135, .call 28, [.t 131, .t 133, .t 134], (some (129, false))⟩,⟨some 136, .un .not, [.t 135], (some (129, false))⟩,⟨some 137, .pick, [.t 129, .c (.bool true), .t 136], none⟩]) (AC.cond (.t 137) (AC.seq (AC.reg [⟨some 0, .mov, [.c (.bool false)], none⟩]) AC.ret) AC.skip)) (AC.seq (AC.reg [⟨some 138, .fld 0, [.t 1], none⟩,⟨some 139, .load false 1, [.t 138], none⟩,⟨some 140, .call 32, [.t 139, .c (.int .u16 2)], none⟩]) (AC.seq (AC.reg [⟨some 141, .fld 0, [.t 1], none⟩,⟨some 142, .load false 1, [.t 141], none⟩,⟨some 143, .fld 1, [.t 1], none⟩,⟨some 144, .load false 1, [.t 143], none⟩,⟨some 145, .call 12, [.t 142, .t 144], none⟩,⟨some 6, .mov, [.t 145], none⟩]) (AC.seq (AC.reg [⟨some 7, .mov, [.c (.nilptr)], none⟩]) (AC.seq (AC.reg [⟨some 146, .build [.nilsl, .nilmap] [], [], none⟩,⟨some 147, .box, [.t 146], none⟩,⟨some 8, .mov, [.t 147], none⟩]) (AC.seq (AC.reg [⟨some 148, .mov, [.t 6], none⟩,⟨some 149, .call 15, [.t 148], none⟩,⟨some 150, .len 1 0, [.t 149], none⟩,⟨some 151, .bin .eql, [.t 150, .c (.int .i64 4)], none⟩,⟨some 152, .mov, [.t 151], none⟩,⟨some 153, .mov, [.t 6], (some (152, true))⟩,⟨some 154, .build [.int .u16 0, .int .u16 0, .int .u8 0] [(0, 1), (1, 1), (2, 1)], [.c (.int .u16 1), .c (.int .u16 4), .c (.int .u8 1)], (some (152, true))⟩,⟨some 155, .build [.int .u16 0, .int .u16 0, .int .u8 0] [(0, 1), (1, 1), (2, 1)], [.c (.int .u16 5), .c (.int .u16 1), .c (.int .u8 2)], (some (152, true))⟩,⟨some 156, .bslice 3 2 (.agg [.int .u16 0, .int .u16 0, .int .u8 0]) [0, 1], [.t 154, .t 155], (some (152, true))⟩,⟨some 157, .call 14, [.t 153, .t 156], (some (152, true))⟩,⟨some 158, .pick, [.t 152, .t 157, .c (.bool false)], none⟩,⟨some 159, .mov, [.t 158], none⟩,⟨some 160, .fld 1, [.t 1], (some (159, true))⟩,⟨some 161, .load false 1, [.t 160], (some (159, true))⟩,⟨some 162, .call 12, [.c (.nilptr), .t 161], (some (159, true))⟩,⟨some 163, .eqn false 0, [.t 162, .c (.nilptr)], (some (159, true))⟩,⟨some 164, .pick, [.t 159, .t 163, .c (.bool false)], none⟩,⟨some 165, .mov, [.t 164], none⟩,⟨some 166, .fld 0, [.t 1], (some (165, true))⟩,⟨some 167, .load false 1, [.t 166], (some (165, true))⟩,⟨some 168, .call 12, [.t 167, .c (.nilptr)], (some (165, true))⟩,⟨some 169, .eqn false 0, [.t 168, .c (.nilptr)], (some (165, true))⟩,⟨some 170, .pick, [.t 165, .t 169, .c (.bool false)], none⟩,⟨some 171, .mov, [.t 170], none⟩,⟨some 172, .mov, [.t 7], (some (171, true))⟩,⟨some 173, .call 15, [.t 172], (some (171, true))⟩,⟨some 174, .len 1 0, [.t 173], (some (171, true))⟩,⟨some 175, .bin .eql, [.t 174, .c (.int .i64 0)], (some (171, true))⟩,⟨some 176, .pick, [.t 171, .t 175, .c (.bool false)], none⟩,⟨some 177, .mov, [.t 176], none⟩,⟨some 178, .mov, [.t 8], (some (177, true))⟩,⟨some 179, .build [.int .u16 0, .int .u16 0, .int .u8 0] [], [], (some (177, true))⟩,⟨some 180, .call 16, [.t 178, .t 179], (some (177, true))⟩,⟨some 181, .un .not, [.t 180], (some (177, true))⟩,⟨some 182, .pick, [.t 177, .t 181, .c (.bool false)], none⟩,⟨some 183, .mov, [.t 182], none⟩,⟨some 184, .mov, [.t 7], (some (183, true))⟩,⟨some 185, .call 27, [.t 184, .c (.int .u8 0)], (some (183, true))⟩,⟨some 186, .bin .eql, [.t 185, .c (.int .i64 0)], (some (183, true))⟩,⟨some 187, .pick, [.t 183, .t 186, .c (.bool false)], none⟩,⟨some 188, .mov, [.t 187], none⟩,⟨some 189, .mov, [.t 8], (some (188, true))⟩,⟨some 190, .bslice 1 1 (.int .u8 0) [0], [.c (.int .u8 0)], (some (188, true))⟩,⟨some 191, .call 31, [.t 189, .t 190], (some (188, true))⟩,⟨some 192, .len 1 0, [.t 191], (some (188, true))⟩,⟨some 193, .bin .eql, [.t 192, .c (.int .i64 0)], (some (188, true))⟩,⟨some 194, .pick, [.t 188, .t 193, .c (.bool false)], none⟩,⟨some 195, .mov, [.t 194], none⟩,⟨some 196, .mov, [.t 7], (some (195, true))⟩,⟨some 197, .call 14, [.t 196, .c (.nilsl)], (some (195, true))⟩,⟨some 198, .pick, [.t 195, .t 197, .c (.bool false)], none⟩,⟨some 199, .mov, [.t 198], none⟩,⟨some 200, .mov, [.t 8], (some (199, true))⟩,⟨some 201, .call 14, [.t 200, .c (.nilsl)], (some (199, true))⟩,⟨some 202, .pick, [.t 199, .t 201, .c (.bool false)], none⟩,⟨some 203, .mov, [.t 202], none⟩,⟨some 204, .fld 1, [.t 1], (some (203, true))⟩,⟨some 205, .load false 1, [.t 204], (some (203, true))⟩,⟨some 206, .build [.int .u8 0, .nilsl] [], [], (some (203, true))⟩,⟨some 207, .call 28, [.c (.nilptr), .t 205, .t 206], (some (203, true))⟩,⟨some 208, .un .not, [.t 207], (some (203, true))⟩,⟨some 209, .pick, [.t 203, .t 208, .c (.bool false)], none⟩,⟨some 210, .mov, [.t 209], none⟩,⟨some 211, .call 10, [], (some (210, true))⟩,⟨some 212, .pick, [.t 210, .t 211, .c (.bool false)], none⟩,⟨some 0, .mov, [.t 212], none⟩]) AC.ret)))))))))))
def r_known : AC × List RT × Nat := (c_known, [.tmp 0], 213)
theorem ok_knowne : compF Tryz.prog Tryz.f7 ⟨false, false, []⟩ = some r_known := by kernel_rfl
variable {E : Env}
theorem bsk1 {W : AW} {K : V → AW → Prop} {a : Int} : sem E (.bslice 1 1 (.int .u8 0) [0]) [.int .u8 a] W K = K (.sl 1 true (u8s [a])) W := by
  simp [sem, rsem, tsem, fillE, V.cells, u8s]
theorem bsk2 {W : AW} {K : V → AW → Prop} {a b : Int} : sem E (.bslice 1 2 (.int .u8 0) [0, 1]) [.int .u8 a, .int .u8 b] W K = K (.sl 1 true (u8s [a, b])) W := by
  simp [sem, rsem, tsem, fillE, V.cells, u8s]
theorem bsi1 {W : AW} {K : V → AW → Prop} {a : Int} : sem E (.bslice 1 1 (.int .i64 0) [0]) [.int .i64 a] W K = K (.sl 1 true (i64s [a])) W := by
  simp [sem, rsem, tsem, fillE, V.cells, i64s]
theorem ll_len {W : AW} {K : V → AW → Prop} {n : Nat} {out : List (List Int)} : sem E (.len 1 n) [llV out] W K = K (.int .i64 out.length) W := by
  unfold llV; rw [sem_len_sl, List.length_map]
theorem ll_idx {W : AW} {K : V → AW → Prop} {out : List (List Int)} {i : Int} {l : List Int} (h0 : 0 ≤ i) (h : out[i.toNat]? = some l) : sem E (.idxp 1) [llV out, .int .i64 i] W K = K (.cptr (nowGS 1 (i64s l)).cells) W := by
  unfold llV
  exact sem_idxp_sl h0 (by rw [List.getElem?_map, h]; rfl)
theorem bsu1 {W : AW} {K : V → AW → Prop} {a : Int} : sem E (.bslice 1 1 (.int .u16 0) [0]) [.int .u16 a] W K = K (.sl 1 true (intsV [a])) W := by
  simp [sem, rsem, tsem, fillE, V.cells, intsV]
theorem bsu3 {W : AW} {K : V → AW → Prop} {a b c : Int} : sem E (.bslice 1 3 (.int .u16 0) [0, 1, 2]) [.int .u16 a, .int .u16 b, .int .u16 c] W K = K (.sl 1 true (intsV [a, b, c])) W := by
  simp [sem, rsem, tsem, fillE, V.cells, intsV]
theorem bsE2 {W : AW} {K : V → AW → Prop} {a1 a2 a3 b1 b2 b3 : Int} : sem E (.bslice 3 2 (.agg [.int .u16 0, .int .u16 0, .int .u8 0]) [0, 1]) [.agg [.int .u16 a1, .int .u16 a2, .int .u8 a3], .agg [.int .u16 b1, .int .u16 b2, .int .u8 b3]] W K = K (.sl 3 true (([⟨a1, a2, a3⟩, ⟨b1, b2, b3⟩] : List Ed).map Ed.V)) W := by
  simp [sem, rsem, tsem, fillE, V.cells, Ed.V]
theorem z00 : ((0 : Int) == 0) = true := by decide
theorem wantH_ok : ∀ e ∈ ([⟨1, 4, 1⟩, ⟨5, 1, 2⟩] : List Ed), ekOk (ofEd e) := by
  intro e he
  simp only [List.mem_cons, List.not_mem_nil, or_false] at he
  rcases he with rfl | rfl <;> exact ⟨by simp [ofEd], by simp [ofEd], by simp [ofEd]⟩
theorem rn1 : ∀ n ∈ nums (some [1]), (0 : Int) ≤ n ∧ n < 65536 := by decide
theorem rn2 : ∀ n ∈ nums (some [2]), (0 : Int) ≤ n ∧ n < 65536 := by decide
theorem rn3 : ∀ n ∈ nums (some [1, 2, 9]), (0 : Int) ≤ n ∧ n < 65536 := by decide
theorem rn4 : ∀ n ∈ nums none, (0 : Int) ≤ n ∧ n < 65536 := by decide
theorem known_c (hP : E.P = Tryz.prog) (W : AW) : ACalls E 7 [] W fun Y _ => Y = .bool true := by
  refine ACalls.of hP Tryz.func7 ok_knowne (by simp) fun _ hok => ?_
  simp (maxSteps := 200000) (disch := omega) only [BS, BC, e_seq, c_known]
  refine (given_c hP _).mono ?_
  rintro _ W1 ⟨p, ra, rw, q, rfl, h⟩
  have h1 := h.exx (Ex.refl h.nw.ex.cl).X (W2 := X W1 W1.nx [.row [.ptr p 0, .ptr q 0]])
  rw [h.nw.ex.cl.start]
  simp (maxSteps := 200000) (disch := omega) only [BS, BC, e_seq, ↓reduceIte, Nat.reduceEqDiff, BM, BD, Nat.reduceAdd, Nat.reduceLeDiff, Nat.reduceLT, e_seq]
  refine (build_c hP _ h1.nw.st h1.od).mono ?_
  rintro _ W2 ⟨g, m, hn, rfl, hG, hE⟩
  have h2 := h1.exx hE
  have k1 : W2.get (rf W1.nx 0) = some (.row [.ptr p 0, .ptr q 0]) := by rw [hE.get _ (by simp [X_nx, rf]), X_get]; rfl
  have hne : nodesR sG ≠ [] := by rw [nodes_g]; decide
  simp (maxSteps := 200000) (disch := omega) only [BS, BC, e_seq, ↓reduceIte, Nat.reduceEqDiff, bsk1]
  refine pc (nextG_c hP _ hG known_sorted known_ends (kinds := [0]) .mk (by decide) hne) ?_
  rw [known_next1]
  simp (maxSteps := 200000) (disch := omega) only [BS, BC, ↓reduceIte, Nat.reduceEqDiff, bsk2]
  refine pc (nextG_c hP _ hG known_sorted known_ends (kinds := [1, 2]) .mk (by decide) hne) ?_
  rw [known_next2]
  simp (maxSteps := 200000) (disch := omega) only [BS, BC, e_seq, ↓reduceIte, Nat.reduceEqDiff, e_seq]
  refine pc (awake_c hP _) ?_
  simp (maxSteps := 200000) (disch := omega) only [BS, ↓reduceIte, BD]
  have e1 : (((List.length [[(1 : Int)], [], [], [], []] : Nat) : Int) != 5) = false := by decide
  have e2 : (((List.length [[(3 : Int)], [2], [], [1], [0]] : Nat) : Int) != 5) = false := by decide
  have e3 : (((5 : Nat) : Int) != 5) = false := by decide
  have z0 : (((0 : Nat) : Int) != 0) = false := by decide
  have n0 : (((List.length ([] : List Int) : Nat) : Int) != 0) = false := by decide
  have nl : (((i64s []).length : Int) != 0) = false := by decide
  have dt : ∀ l : List Int, decide (l = l) = true := fun l => by simp
  have i0 : ∀ (W : AW) K, sem E (.idxp 1) [llV [[1], [], [], [], []], .int .i64 0] W K = K (.cptr (nowGS 1 (i64s [1])).cells) W := fun W K => ll_idx (by decide) rfl
  have i1 : ∀ (W : AW) K, sem E (.idxp 1) [llV [[1], [], [], [], []], .int .i64 1] W K = K (.cptr (nowGS 1 (i64s [])).cells) W := fun W K => ll_idx (by decide) rfl
  have j0 : ∀ (W : AW) K, sem E (.idxp 1) [llV [[3], [2], [], [1], [0]], .int .i64 0] W K = K (.cptr (nowGS 1 (i64s [3])).cells) W := fun W K => ll_idx (by decide) rfl
  have j1 : ∀ (W : AW) K, sem E (.idxp 1) [llV [[3], [2], [], [1], [0]], .int .i64 1] W K = K (.cptr (nowGS 1 (i64s [2])).cells) W := fun W K => ll_idx (by decide) rfl
  have j3 : ∀ (W : AW) K, sem E (.idxp 1) [llV [[3], [2], [], [1], [0]], .int .i64 3] W K = K (.cptr (nowGS 1 (i64s [1])).cells) W := fun W K => ll_idx (by decide) rfl
  have j4 : ∀ (W : AW) K, sem E (.idxp 1) [llV [[3], [2], [], [1], [0]], .int .i64 4] W K = K (.cptr (nowGS 1 (i64s [0])).cells) W := fun W K => ll_idx (by decide) rfl
  repeat (rw [guard_if]; simp (maxSteps := 200000) (disch := omega) only [BS, BC, ↓reduceIte, Nat.reduceEqDiff, BD, Nat.reduceAdd, ll_len, bsi1, e3, (nowGS_S 1 (i64s [1])).loadf, (nowGS_S 1 (i64s [1])).frz, i0])
  refine pc (lsame_c hP _ (nowGS_S 1 (i64s [1])) (l' := [1]) .mk (by decide) (by decide)) ?_
  simp (maxSteps := 200000) (disch := omega) only [BS, decide_true]
  repeat (rw [guard_if]; simp (maxSteps := 200000) (disch := omega) only [BS, BC, ↓reduceIte, Nat.reduceEqDiff, BD, bsi1, (nowGS_S 1 (i64s [3])).loadf, (nowGS_S 1 (i64s [3])).frz, (nowGS_S 1 (i64s [])).loadf, (nowGS_S 1 (i64s [])).len, i64s_len, z0, i1, j0])
  refine pc (lsame_c hP _ (nowGS_S 1 (i64s [3])) (l' := [3]) .mk (by decide) (by decide)) ?_
  simp (maxSteps := 200000) (disch := omega) only [BS, decide_true]
  repeat (rw [guard_if]; simp (maxSteps := 200000) (disch := omega) only [BS, BC, ↓reduceIte, Nat.reduceEqDiff, BD, bsi1, (nowGS_S 1 (i64s [2])).loadf, (nowGS_S 1 (i64s [2])).frz, j1])
  refine pc (lsame_c hP _ (nowGS_S 1 (i64s [2])) (l' := [2]) .mk (by decide) (by decide)) ?_
  simp (maxSteps := 200000) (disch := omega) only [BS, decide_true]
  repeat (rw [guard_if]; simp (maxSteps := 200000) (disch := omega) only [BS, BC, ↓reduceIte, Nat.reduceEqDiff, BD, bsi1, (nowGS_S 1 (i64s [1])).loadf, (nowGS_S 1 (i64s [1])).frz, j3])
  refine pc (lsame_c hP _ (nowGS_S 1 (i64s [1])) (l' := [1]) .mk (by decide) (by decide)) ?_
  simp (maxSteps := 200000) (disch := omega) only [BS, decide_true]
  repeat (rw [guard_if]; simp (maxSteps := 200000) (disch := omega) only [BS, BC, ↓reduceIte, Nat.reduceEqDiff, BD, bsi1, (nowGS_S 1 (i64s [0])).loadf, (nowGS_S 1 (i64s [0])).frz, j4])
  refine pc (lsame_c hP _ (nowGS_S 1 (i64s [0])) (l' := [0]) .mk (by decide) (by decide)) ?_
  simp (maxSteps := 200000) (disch := omega) only [BS, decide_true]
  repeat (rw [guard_if]; simp (maxSteps := 200000) (disch := omega) only [BS, BC, ↓reduceIte, Nat.reduceEqDiff, BM, BD, Nat.reduceAdd, Nat.reduceLeDiff])
  refine pc (hasG_c hP _ hG ⟨1, 2, 0⟩ ⟨by decide, by decide, by decide⟩) ?_
  rw [known_has1]
  simp (maxSteps := 200000) (disch := omega) only [BS]
  repeat (rw [guard_if]; simp (maxSteps := 200000) (disch := omega) only [BS, BC, ↓reduceIte, Nat.reduceEqDiff, BM, BD, Nat.reduceAdd, Nat.reduceLeDiff])
  refine pc (hasG_c hP _ hG ⟨2, 1, 0⟩ ⟨by decide, by decide, by decide⟩) ?_
  rw [known_has2]
  simp (maxSteps := 200000) (disch := omega) only [BS, BC, ↓reduceIte, Nat.reduceEqDiff]
  repeat (rw [guard_if]; simp (maxSteps := 200000) (disch := omega) only [BS, BC, ↓reduceIte, Nat.reduceEqDiff])
  refine pc (countG_c hP _ hG 2) ?_
  rw [known_count]
  simp (maxSteps := 200000) (disch := omega) only [BS]
  repeat (rw [guard_if]; simp (maxSteps := 200000) (disch := omega) only [BS, BC, e_seq, cond_if, ↓reduceIte, Nat.reduceEqDiff, BM, BD, show (((2 : Nat) : Int) != 2) = false by decide])
  simp (maxSteps := 200000) (disch := omega) only [BS, BC, ↓reduceIte, Nat.reduceEqDiff, BM, BD, Nat.reduceAdd, Nat.reduceLeDiff, k1, bsu1]
  refine pc (counts_g hP _ h2.nw.st h2.od (r := (0, some [1])) (.inr (.inr ⟨_, _, rfl, rfl⟩)) (by decide) (by decide) rn1) ?_
  rw [known_c1]
  simp (maxSteps := 200000) (disch := omega) only [BS, ↓reduceIte, BD]
  repeat (rw [guard_if]; simp (maxSteps := 200000) (disch := omega) only [BS, BC, ↓reduceIte, Nat.reduceEqDiff, BM, BD, Nat.reduceAdd, Nat.reduceLeDiff, k1, bsu1])
  refine pc (counts_g hP _ h2.nw.st h2.od (r := (0, some [2])) (.inr (.inr ⟨_, _, rfl, rfl⟩)) (by decide) (by decide) rn2) ?_
  rw [known_c2]
  simp (maxSteps := 200000) (disch := omega) only [BS, BC, ↓reduceIte, Nat.reduceEqDiff]
  repeat (rw [guard_if]; simp (maxSteps := 200000) (disch := omega) only [BS, BC, ↓reduceIte, Nat.reduceEqDiff, BM, BD, Nat.reduceAdd, Nat.reduceLeDiff, k1, bsu3])
  refine pc (counts_g hP _ h2.nw.st h2.od (r := (0, some [1, 2, 9])) (.inr (.inr ⟨_, _, rfl, rfl⟩)) (by decide) (by decide) rn3) ?_
  rw [known_c3]
  simp (maxSteps := 200000) (disch := omega) only [BS, BC, ↓reduceIte, Nat.reduceEqDiff]
  repeat (rw [guard_if]; simp (maxSteps := 200000) (disch := omega) only [BS, BC, ↓reduceIte, Nat.reduceEqDiff, BM, BD, Nat.reduceAdd, Nat.reduceLeDiff, k1])
  refine pc (counts_g hP _ h2.nw.st h2.od (r := (5, none)) (.inl ⟨rfl, rfl⟩) (by decide) (by decide) rn4) ?_
  rw [known_c4]
  simp (maxSteps := 200000) (disch := omega) only [BS]
  repeat (rw [guard_if]; simp (maxSteps := 200000) (disch := omega) only [BS, BC, e_seq, cond_if, ↓reduceIte, Nat.reduceEqDiff, BM, BD, k1])
  refine (abort_c hP _ h2.nw.st 2 (by decide) (by decide)).mono ?_
  rintro _ W3 ⟨rfl, hS3, hF3⟩
  rw [known_abort] at hS3
  have hpl := h2.nw.st.lp
  have hral := h2.nw.st.la
  have hrwl := h2.nw.st.lw
  have hql := h2.od.lq
  have bp := h.nw.st.lp
  have ba := h.nw.st.la
  have bw := h.nw.st.lw
  have bq := h.od.lq
  have r1 : rf W1.nx 0 = W1.nx := rfl
  have hO3 : Od W3 q oG := h2.od.by (by rw [hF3.nx]; exact Nat.le_refl _) (hF3.get q h2.ne.1 h2.ne.2.1 h2.ne.2.2)
  have h3 : Sx W W3 p ra rw q sH oG := h2.fa hS3 hO3 (Fa.of hF3 (Ex.refl h2.nw.ex.cl) hpl hral hrwl)
  have k2 : W3.get (rf W1.nx 0) = some (.row [.ptr p 0, .ptr q 0]) := by rw [hF3.get _ (by omega) (by omega) (by omega)]; exact k1
  have hn2 := hE.nx
  simp only [X_nx, rf, List.length_cons, List.length_nil] at hn2
  have hn3 := hF3.nx
  simp (maxSteps := 200000) (disch := omega) only [BS, BC, e_seq, ↓reduceIte, Nat.reduceEqDiff, BM, BD, k2]
  refine (build_c hP _ h3.nw.st h3.od).mono ?_
  rintro _ W4 ⟨g2, m2, hn2, rfl, hG2, hE2⟩
  have hn4 := hE2.nx
  have h4 := h3.exx hE2
  have k3 : W4.get (rf W1.nx 0) = some (.row [.ptr p 0, .ptr q 0]) := by rw [hE2.get _ (by omega)]; exact k2
  rw [hE2.cl.start]
  simp (maxSteps := 200000) (disch := omega) only [BS, BC, e_seq, ↓reduceIte, Nat.reduceEqDiff, BM, BD]
  obtain ⟨W5, hW5⟩ : ∃ W5, W5 = X W4 W4.nx [.row [.nilsl, .nilmap]] := ⟨_, rfl⟩
  rw [← hW5]
  have hE5 : Ex W4 W5 := by rw [hW5]; exact (Ex.refl hE2.cl).X
  have hn5 : W5.nx = W4.nx + 1 := by rw [hW5]; rfl
  have r4 : rf W4.nx 0 = W4.nx := rfl
  have kz : W5.get (rf W4.nx 0) = some (.row [.nilsl, .nilmap]) := by rw [hW5, X_get]; rfl
  have k4 : W5.get (rf W1.nx 0) = some (.row [.ptr p 0, .ptr q 0]) := by rw [hE5.get _ (by omega)]; exact k3
  clear hW5
  have hG5 := hG2.ex hE5
  have h5 := h4.exx hE5
  refine pc (nodes_c hP _ hG5) ?_
  have hns := nowGS_S 1 (intsV (nodesR sH))
  simp (maxSteps := 200000) (disch := omega) only [BS, ↓reduceIte, hns.len, ints_len, known_nodes, show (((4 : Nat) : Int) == 4) = true by decide]
  repeat (rw [guard_if]; simp (maxSteps := 200000) (disch := omega) only [BS, BC, ↓reduceIte, Nat.reduceEqDiff, BM, BD, Nat.reduceAdd, Nat.reduceLeDiff, bsE2])
  refine pc (ledges_c hP _ hG5 (l := [⟨1, 4, 1⟩, ⟨5, 1, 2⟩]) .mk wantH_ok (by decide)) ?_
  rw [known_edges]
  simp (maxSteps := 200000) (disch := omega) only [BS, ↓reduceIte, Nat.reduceEqDiff, decide_true]
  repeat (rw [guard_if]; simp (maxSteps := 200000) (disch := omega) only [BS, BC, ↓reduceIte, Nat.reduceEqDiff, BM, BD, k4])
  refine pc (build_nil1 hP _) ?_
  simp (maxSteps := 200000) (disch := omega) only [BS]
  repeat (rw [guard_if]; simp (maxSteps := 200000) (disch := omega) only [BS, BC, ↓reduceIte, Nat.reduceEqDiff, BM, BD, k4])
  refine pc (build_nil2 hP _) ?_
  simp (maxSteps := 200000) (disch := omega) only [BS]
  repeat (rw [guard_if]; simp (maxSteps := 200000) (disch := omega) only [BS, BC, ↓reduceIte, Nat.reduceEqDiff, BM])
  refine pc (nodes_nil hP _) ?_
  simp (maxSteps := 200000) (disch := omega) only [BS]
  repeat (rw [guard_if]; simp (maxSteps := 200000) (disch := omega) only [BS, BC, ↓reduceIte, Nat.reduceEqDiff, BM, z00])
  refine pc (has_zero hP _ kz (by omega) ⟨0, 0, 0⟩ ⟨by decide, by decide, by decide⟩) ?_
  simp (maxSteps := 200000) (disch := omega) only [BS]
  repeat (rw [guard_if]; simp (maxSteps := 200000) (disch := omega) only [BS, BC, ↓reduceIte, Nat.reduceEqDiff, BD])
  refine pc (count_none hP _ (gp := .nilptr) rfl rfl (fun _ => rfl) (fun E' h W1 _ => sorted_nil h W1) 0) ?_
  simp (maxSteps := 200000) (disch := omega) only [BS]
  repeat (rw [guard_if]; simp (maxSteps := 200000) (disch := omega) only [BS, BC, ↓reduceIte, Nat.reduceEqDiff, z00, bsk1])
  refine (next_zero hP _ kz (by omega) (ks := u8s [0]) .mk).mono ?_
  rintro _ W6 ⟨rz, rfl, hE6⟩
  have h6 := h5.exx hE6
  have hn6 := hE6.nx
  have kz6 : W6.get (rf W4.nx 0) = some (.row [.nilsl, .nilmap]) := by rw [hE6.get _ (by omega)]; exact kz
  have k6 : W6.get (rf W1.nx 0) = some (.row [.ptr p 0, .ptr q 0]) := by rw [hE6.get _ (by omega)]; exact k4
  simp (maxSteps := 200000) (disch := omega) only [BS]
  repeat (rw [guard_if]; simp (maxSteps := 200000) (disch := omega) only [BS, BC, ↓reduceIte, Nat.reduceEqDiff, show ((((0 : Nat) : Int)) == 0) = true by decide])
  refine pc (ledges_none hP _ (gp := .nilptr) rfl rfl (fun _ => rfl) (fun E' h W1 _ => sorted_nil h W1)) ?_
  simp (maxSteps := 200000) (disch := omega) only [BS, ↓reduceIte, Nat.reduceEqDiff]
  repeat (rw [guard_if]; simp (maxSteps := 200000) (disch := omega) only [BS, BC, ↓reduceIte, Nat.reduceEqDiff])
  refine pc (ledges_none hP _ (gp := .ptr (rf W4.nx 0) 0) rfl rfl (fun _ => rfl) (fun E' h W1 hw => sorted_zero h W1 (by rw [hw.get _ (by omega)]; exact kz6))) ?_
  simp (maxSteps := 200000) (disch := omega) only [BS, ↓reduceIte, Nat.reduceEqDiff]
  repeat (rw [guard_if]; simp (maxSteps := 200000) (disch := omega) only [BS, BC, ↓reduceIte, Nat.reduceEqDiff, BM, BD, k6])
  refine pc (counts_nil hP _ (r := (0, none))) ?_
  simp (maxSteps := 200000) (disch := omega) only [BS]
  repeat (rw [guard_if]; simp (maxSteps := 200000) (disch := omega) only [BS, BC, ↓reduceIte, Nat.reduceEqDiff, BD])
  refine pc (awake_c hP _) ?_
  simp (maxSteps := 200000) (disch := omega) only [BS, BC, ↓reduceIte, Nat.reduceEqDiff]
  exact ⟨_, rfl, _, _, .weak weak_id, h6.nw.ex.nx, rfl⟩
end Go.AL.S
set_option maxRecDepth 100000
namespace Go.AL.S
open Go Go.AL Go.RowKit
/-! what comes in, read as values -/
inductive Sh where
  | bool
  | int (k : IntKind)
  | sl (e : Sh)
  | st (l : List Sh)
mutual
def Sh.n : Sh → Nat
  | .st l => Sh.nL l
  | _ => 1
def Sh.nL : List Sh → Nat
  | [] => 0
  | s :: l => s.n + Sh.nL l
end
def Sh.agg : Sh → Bool
  | .st _ => true
  | _ => false
def Sh.val (s : Sh) (ws : List V) : V := if s.agg = true then .agg ws else ws.headD default
mutual
def Sh.Is : Sh → List V → Prop
  | .bool, vs => ∃ b, vs = [.bool b]
  | .int k, vs => ∃ n, vs = [.int k n] ∧ (Lit.int k n).wf = true
  | .sl e, vs => ∃ v xs, vs = [v] ∧ isS e.n v xs ∧ xs.length < 2 ^ 48 ∧ ∀ x ∈ xs, ∃ ws, e.Is ws ∧ x = e.val ws
  | .st l, vs => Sh.IsL l vs
def Sh.IsL : List Sh → List V → Prop
  | [], vs => vs = []
  | s :: l, vs => ∃ a b, vs = a ++ b ∧ s.Is a ∧ Sh.IsL l b
end
mutual
def Sh.Ty (P : Program) : Sh → TypeId → Prop
  | .bool, t => P.underlying t = some .bool ∧ P.cellsOf t = 1
  | .int k, t => P.underlying t = some (.int k) ∧ P.cellsOf t = 1
  | .sl e, t => ∃ te, P.underlying t = some (.slice te) ∧ e.Ty P te ∧ 0 < e.n ∧ P.cellsOf t = 1 ∧ 0 < P.bytesOf te
  | .st l, t => (∃ fs, P.underlying t = some (.struct fs) ∧ P.cellsOf t = Sh.nL l ∧ Sh.TyL P l 0 fs.toList) ∨
      (∃ n e te, l = List.replicate n e ∧ P.underlying t = some (.array n te) ∧ P.cellsOf t = Sh.nL l ∧ Sh.TyR P l te)
def Sh.TyL (P : Program) : List Sh → Nat → List Field → Prop
  | [], _, fs => fs = []
  | s :: l, off, fs => ∃ f r, fs = f :: r ∧ f.offset = off ∧ s.Ty P f.type ∧ Sh.TyL P l (off + s.n) r
def Sh.TyR (P : Program) : List Sh → TypeId → Prop
  | [], _ => True
  | s :: l, t => s.Ty P t ∧ Sh.TyR P l t
end
theorem Sh.Ty.cells {P : Program} : ∀ {s : Sh} {t : TypeId}, s.Ty P t → P.cellsOf t = s.n
  | .bool, _, h => h.2
  | .int _, _, h => h.2
  | .sl _, _, ⟨_, _, _, _, h, _⟩ => h
  | .st _, _, .inl ⟨_, _, h, _⟩ => h
  | .st _, _, .inr ⟨_, _, _, _, _, h, _⟩ => h
mutual
theorem Sh.Is.len : ∀ {s : Sh} {vs : List V}, s.Is vs → vs.length = s.n
  | .bool, _, ⟨_, h⟩ => by rw [h]; rfl
  | .int _, _, ⟨_, h, _⟩ => by rw [h]; rfl
  | .sl _, _, ⟨_, _, h, _⟩ => by rw [h]; rfl
  | .st l, _, h => Sh.IsL.len (l := l) h
theorem Sh.IsL.len : ∀ {l : List Sh} {vs : List V}, Sh.IsL l vs → vs.length = Sh.nL l
  | [], _, h => by rw [show _ = ([] : List V) from h]; rfl
  | s :: l, _, ⟨a, b, h, h1, h2⟩ => by rw [h, List.length_append, Sh.Is.len h1, Sh.IsL.len h2]; rfl
end
theorem belL_app {n : Nat} : ∀ {a b : List V}, V.belL n a = true → V.belL n b = true → V.belL n (a ++ b) = true
  | [], _, _, h => h
  | x :: a, b, h, h' => by
    simp only [V.belL, List.cons_append, Bool.and_eq_true] at h ⊢
    exact ⟨h.1, belL_app h.2 h'⟩
theorem belL_all {n : Nat} : ∀ {a : List V}, (∀ x ∈ a, x.bel n = true) → V.belL n a = true
  | [], _ => rfl
  | x :: a, h => by
    simp only [V.belL, Bool.and_eq_true]
    exact ⟨h x (by simp), belL_all fun y hy => h y (by simp [hy])⟩
theorem Sh.val_bel {s : Sh} {ws : List V} {n : Nat} (h : V.belL n ws = true) (hl : s.agg = false → ws ≠ []) : (s.val ws).bel n = true := by
  unfold Sh.val
  split
  · exact h
  · rename_i hs
    cases ws with
    | nil => exact absurd rfl (hl (by simpa using hs))
    | cons w ws =>
      simp only [V.belL, Bool.and_eq_true] at h
      exact h.1
mutual
theorem Sh.Is.bel {n : Nat} : ∀ {s : Sh} {vs : List V}, s.Is vs → V.belL n vs = true
  | .bool, _, ⟨_, h⟩ => by rw [h]; rfl
  | .int _, _, ⟨_, h, _⟩ => by rw [h]; rfl
  | .sl e, _, ⟨v, xs, h, hs, _, hx⟩ => by
    rw [h]
    simp only [V.belL, Bool.and_true]
    refine hs.lens (belL_all fun x hxm => ?_)
    obtain ⟨ws, h1, rfl⟩ := hx x hxm
    refine Sh.val_bel (Sh.Is.bel h1) fun he hw => ?_
    have := Sh.Is.len h1
    rw [hw] at this
    cases e <;> simp [Sh.agg, Sh.n] at he this
  | .st l, _, h => Sh.IsL.bel (l := l) h
theorem Sh.IsL.bel {n : Nat} : ∀ {l : List Sh} {vs : List V}, Sh.IsL l vs → V.belL n vs = true
  | [], _, h => by rw [show _ = ([] : List V) from h]; rfl
  | s :: l, _, ⟨a, b, h, h1, h2⟩ => by rw [h]; exact belL_app (Sh.Is.bel h1) (Sh.IsL.bel h2)
end
/-- The old memory as it stands. -/
def gIn (W : World) : G := ⟨fun _ => none, fun _ => none, fun b => match W.heap[b]? with
  | some (.cells a _ _) => some (a.toList, a.size)
  | _ => none, fun _ => false, fun _ => false, fun _ => (0, 0), fun _ => default⟩
def Env.inp (P : Program) (W : World) : Env where
  P := P
  B := W.heap.size
  w0 := W
  glob := fun _ => none
  globOk := fun _ _ _ h => by cases h
  γ0 := gIn W
  n0 := 0
  yield := fun _ _ _ _ => False
  yieldMono := fun _ _ _ _ _ _ h => h
theorem Env.inp_sound (P : Program) (W : World) : (Env.inp P W).Sound := fun _ _ _ _ _ _ _ _ _ h => h.elim
theorem Env.inp_rel (P : Program) (W : World) : RelW (Env.inp P W) (gIn W) W AW.empty where
  below := Below.refl _ _
  base := Nat.le_refl _
  con b c sz h := by
    simp only [gIn] at h
    cases hb : W.heap[b]? with
    | none => rw [hb] at h; cases h
    | some o =>
      rw [hb] at h
      cases o <;> try (cases h; done)
      case cells a t fz =>
        cases h
        exact ⟨[], t, fz, by simp, by simp⟩
  own _ _ h := by cases h
  obj _ _ h := by cases h
  bd := ⟨fun _ _ h => (by cases h), fun _ _ h => (by cases h), fun _ h => (by cases h)⟩
  lt _ _ h := by cases h
  inj _ _ _ _ _ h := by cases h
  apart _ _ _ h := by cases h
  glob _ _ h := by cases h
  dfr _ h := by cases h
  dfrB _ h := by cases h
  ext := G.le.refl _ _
  n0 := Nat.le_refl _
theorem calls_inp {P : Program} {f : FuncId} {W : World} {vs : List V} {ws : List Value} (hr : RelL (gIn W) vs ws) (h : ACalls (Env.inp P W) f vs AW.empty fun Y _ => Y = .bool true) :
    Calls P f ws.toArray W fun e w' => e = .returned (.bool true) ∧ Below W.heap.size W w' := by
  refine (h.2 (Env.inp_sound P W) _ _ ws (Env.inp_rel P W) hr).mono ?_
  rintro e w' ⟨v, γ', Y, W', rfl, _, _, h4, h5, rfl⟩
  cases h5
  exact ⟨rfl, h4.below⟩
theorem gIn_con {W : World} {a : Addr} {v : Value} (h : W.cell? a = some v) : ∃ c : List Value, (gIn W).con a.block = some (c, c.length) ∧ a.spot = none ∧ a.off < c.length ∧ (∀ i, W.cell? ⟨a.block, i, none⟩ = c[i]?) := by
  unfold World.cell? at h
  cases hb : W.heap[a.block]? with
  | none => rw [hb] at h; cases h
  | some o =>
    rw [hb] at h
    cases o <;> try (cases h; done)
    case cells c t fz =>
      simp only at h
      split at h
      · cases h
      · rename_i hs
        refine ⟨c.toList, by simp only [gIn, hb]; rfl, by simpa using hs, ?_, fun i => ?_⟩
        · have := Array.getElem?_eq_some_iff.1 h
          simpa using this.1
        · simp [World.cell?, hb]
end Go.AL.S
set_option maxRecDepth 100000
namespace Go.AL.S
open Go Go.AL Go.RowKit
mutual
def Sh.tyB (P : Program) : Sh → TypeId → Bool
  | .bool, t => (match P.underlying t with | some .bool => true | _ => false) && decide (P.cellsOf t = 1)
  | .int k, t => (match P.underlying t with | some (.int k') => decide (k' = k) | _ => false) && decide (P.cellsOf t = 1)
  | .sl e, t => (match P.underlying t with | some (.slice te) => e.tyB P te && decide (0 < e.n) && decide (0 < P.bytesOf te) | _ => false) && decide (P.cellsOf t = 1)
  | .st l, t => (match P.underlying t with | some (.struct fs) => decide (P.cellsOf t = Sh.nL l) && Sh.tyLB P l 0 fs.toList | _ => false)
def Sh.tyLB (P : Program) : List Sh → Nat → List Field → Bool
  | [], _, [] => true
  | s :: l, off, f :: r => decide (f.offset = off) && s.tyB P f.type && Sh.tyLB P l (off + s.n) r
  | _, _, _ => false
end
mutual
theorem Sh.ty_of {P : Program} : ∀ {s : Sh} {t : TypeId}, s.tyB P t = true → s.Ty P t
  | .bool, t, h => by
    simp only [Sh.tyB, Bool.and_eq_true, decide_eq_true_eq] at h
    refine ⟨?_, h.2⟩
    have h1 := h.1
    split at h1
    · assumption
    · cases h1
  | .int k, t, h => by
    simp only [Sh.tyB, Bool.and_eq_true, decide_eq_true_eq] at h
    refine ⟨?_, h.2⟩
    have h1 := h.1
    split at h1
    · rename_i k' hk; rw [decide_eq_true_eq] at h1; rw [hk, h1]
    · cases h1
  | .sl e, t, h => by
    simp only [Sh.tyB, Bool.and_eq_true, decide_eq_true_eq] at h
    have h1 := h.1
    split at h1
    · rename_i te hk
      simp only [Bool.and_eq_true, decide_eq_true_eq] at h1
      exact ⟨te, hk, Sh.ty_of h1.1.1, h1.1.2, h.2, h1.2⟩
    · cases h1
  | .st l, t, h => by
    simp only [Sh.tyB] at h
    split at h
    · rename_i fs hk
      simp only [Bool.and_eq_true, decide_eq_true_eq] at h
      exact .inl ⟨fs, hk, h.1, Sh.tyL_of h.2⟩
    · cases h
theorem Sh.tyL_of {P : Program} : ∀ {l : List Sh} {off : Nat} {fs : List Field}, Sh.tyLB P l off fs = true → Sh.TyL P l off fs
  | [], _, [], _ => rfl
  | s :: l, off, f :: r, h => by
    simp only [Sh.tyLB, Bool.and_eq_true, decide_eq_true_eq] at h
    exact ⟨f, r, rfl, h.1.1, Sh.ty_of h.1.2, Sh.tyL_of h.2⟩
  | [], _, _ :: _, h => by simp [Sh.tyLB] at h
  | _ :: _, _, [], h => by simp [Sh.tyLB] at h
end
theorem relL_app {γ : G} : ∀ {a b : List V} {l m : List Value}, RelL γ a l → RelL γ b m → RelL γ (a ++ b) (l ++ m)
  | [], _, _, _, h, h' => by rw [show _ = ([] : List Value) from h]; exact h'
  | x :: a, b, _, m, ⟨v, l', e, h1, h2⟩, h' => ⟨v, l' ++ m, by rw [e]; rfl, h1, relL_app h2 h'⟩
theorem relL_len {γ : G} : ∀ {a : List V} {l : List Value}, RelL γ a l → l.length = a.length
  | [], l, h => by obtain rfl : l = [] := h; rfl
  | x :: a, _, ⟨v, l', e, _, h2⟩ => by rw [e, List.length_cons, List.length_cons, relL_len h2]
/-- One element. -/
theorem el_of {γ : G} {e : Sh} {ws : List V} {l : List Value} (h : e.Is ws) (hr : RelL γ ws l) : ∃ v : Value, v.cells.toList = l ∧ v.cells.size = e.n ∧ RelV γ (e.val ws) v := by
  have hl := (relL_len hr).trans h.len
  cases e with
  | st sh => exact ⟨.agg l.toArray, by simp [Value.cells], by simpa [Value.cells] using hl, l, rfl, hr⟩
  | bool =>
    obtain ⟨b, rfl⟩ := h
    obtain ⟨v, l', e, h1, h2⟩ := hr
    obtain rfl : l' = [] := h2
    have h1' : v = .bool b := h1
    subst h1' e
    exact ⟨_, rfl, rfl, rfl⟩
  | int k =>
    obtain ⟨n, rfl, hw⟩ := h
    obtain ⟨v, l', e, h1, h2⟩ := hr
    obtain rfl : l' = [] := h2
    have h1' : v = .int k n := h1
    subst h1' e
    exact ⟨_, rfl, rfl, rfl⟩
  | sl e' =>
    obtain ⟨x, xs, rfl, hs, _⟩ := h
    obtain ⟨v, l', e, h1, h2⟩ := hr
    obtain rfl : l' = [] := h2
    subst e
    have hc : v.cells = #[v] := by
      rcases hs with ⟨rfl, _⟩ | ⟨rfl, _⟩ | ⟨f, rfl⟩
      · have h1' : v = .slice none 0 0 := h1
        subst h1'; rfl
      · obtain ⟨a, rfl⟩ := h1; rfl
      · obtain ⟨b, pre, l, post, sz, cap, _, _, rfl, _⟩ := h1; rfl
    exact ⟨v, by rw [hc], by rw [hc]; rfl, h1⟩
theorem relE_of {γ : G} {e : Sh} : ∀ (m : Nat) (l : List Value), l.length = m * e.n → (∀ i, i < m → ∃ ws, e.Is ws ∧ RelL γ ws ((l.drop (i * e.n)).take e.n)) →
    ∃ xs, xs.length = m ∧ RelE γ e.n xs l ∧ ∀ x ∈ xs, ∃ ws, e.Is ws ∧ x = e.val ws
  | 0, l, hl, _ => by
    have : l = [] := List.length_eq_zero_iff.1 (by omega)
    subst this
    exact ⟨[], rfl, rfl, by simp⟩
  | m + 1, l, hl, h => by
    obtain ⟨ws, h1, h2⟩ := h 0 (by omega)
    rw [Nat.zero_mul, List.drop_zero] at h2
    obtain ⟨v, hv1, hv2, hv3⟩ := el_of h1 h2
    have hl' : (l.drop e.n).length = m * e.n := by
      rw [List.length_drop, hl, Nat.add_mul]; omega
    obtain ⟨xs, x1, x2, x3⟩ := relE_of m (l.drop e.n) hl' fun i hi => by
      obtain ⟨ws, a, b⟩ := h (i + 1) (by omega)
      refine ⟨ws, a, ?_⟩
      rw [List.drop_drop]
      rwa [Nat.add_mul, Nat.one_mul, Nat.add_comm] at b
    refine ⟨e.val ws :: xs, by simp [x1], ⟨v, l.drop e.n, by rw [hv1, List.take_append_drop], hv2, hv3, x2⟩, ?_⟩
    intro x hx
    rcases List.mem_cons.1 hx with rfl | hx
    · exact ⟨ws, h1, rfl⟩
    · exact x3 x hx
section
variable {H : Type} {enc : TypeId × Value → H} {P : Program} {W : World}
theorem chunk_of {c : List Value} {a : Addr} {n : Nat} {cs : List Value} {o : Nat} (hc : ∀ i, W.cell? ⟨a.block, i, none⟩ = c[i]?) (hs : a.spot = none) (h : W.cells? 0 (a.add o) n = some cs) : (c.drop (a.off + o)).take n = cs := by
  obtain ⟨_, h2, h3⟩ := World.cells?_some h
  refine List.ext_getElem? fun i => ?_
  by_cases hi : i < n
  · rw [List.getElem?_take_of_lt hi, List.getElem?_drop, ← h3 i hi, ← hc]
    congr 1
    have hb : ∀ (a : Addr) (m : Nat), a.spot = none → a.add m = ⟨a.block, a.off + m, none⟩ := by
      intro a m h
      unfold Addr.add
      split
      · rename_i h0; subst h0; cases a; simp at h ⊢; exact h
      · rfl
    rw [hb a o hs, hb _ i rfl, Nat.add_assoc]
  · rw [List.getElem?_eq_none (by simp; omega), List.getElem?_eq_none (by omega)]
theorem wAll {e : TypeId} {p : Nat → Bool} : ∀ {l : List (DataW H)}, (DataW.weightsAll P e l).all p = true → ∀ d ∈ l, (d.weights P e).all p = true
  | [], _, _, h => by simp at h
  | x :: l, h, d, hd => by
    simp only [DataW.weightsAll, List.all_append, Bool.and_eq_true] at h
    rcases List.mem_cons.1 hd with rfl | hd
    · exact h.1
    · exact wAll h.2 d hd
theorem wEach {p : Nat → Bool} : ∀ {ts : List TypeId} {l : List (DataW H)}, (DataW.weightsEach P ts l).all p = true → ∀ (i : Nat) (t : TypeId) (d : DataW H), ts[i]? = some t → l[i]? = some d → (d.weights P t).all p = true
  | [], _, _, _, _, _, h, _ => by simp at h
  | _ :: _, [], _, _, _, _, _, h => by simp at h
  | t :: ts, x :: l, h, i, t', d, h1, h2 => by
    simp only [DataW.weightsEach, List.all_append, Bool.and_eq_true] at h
    cases i with
    | zero => simp at h1 h2; subst h1 h2; exact h.1
    | succ i => simp at h1 h2; exact wEach h.2 i t' d h1 h2
/-- What is read as data of a shape is a value of it. -/
theorem decode : ∀ (fuel : Nat) (s : Sh) (t : TypeId) (cs : List Value) (x : DataW H × List MemPlace), s.Ty P t → (x.1.weights P t).all (· ≤ reachBytes) = true → DataW.trod enc P W 0 (fun _ => true) true fuel t cs = some x → ∃ vs, s.Is vs ∧ RelL (gIn W) vs cs := by
  intro fuel
  induction fuel with
  | zero => intro s t cs x _ _ h; simp [DataW.trod] at h
  | succ fuel ih =>
    intro s t cs x ht hwt h
    cases s with
    | bool =>
      obtain ⟨b, rfl, _⟩ := DataW.trod_bool ht.1 h
      exact ⟨[.bool b], ⟨b, rfl⟩, _, _, rfl, rfl, rfl⟩
    | int k =>
      obtain ⟨n, rfl, _, hw⟩ := DataW.trod_int ht.1 h
      exact ⟨[.int k n], ⟨n, rfl, hw⟩, _, _, rfl, rfl, rfl⟩
    | sl e =>
      obtain ⟨te, hu, hte, hn, hc, hby⟩ := ht
      have hce := hte.cells
      rcases DataW.trod_slice hu h with ⟨rfl, _⟩ | ⟨a, len, cap, elems, rest, n', hf, rfl, rfl, _, hlc, hcap, hel, he, hr, _⟩
      · exact ⟨[.nilsl], ⟨.nilsl, [], rfl, .nil, by simp, by simp⟩, _, _, rfl, rfl, rfl⟩
      · obtain rfl : fuel = n' := by omega
        rw [hce] at he hr
        simp only [DataW.weights, hu, List.all_cons, List.all_append, Bool.and_eq_true, decide_eq_true_eq, List.length_map] at hwt
        obtain ⟨hw1, hw2, _⟩ := hwt
        by_cases h0 : cap = 0
        · obtain rfl : len = 0 := by omega
          subst h0
          exact ⟨[.slz], ⟨.slz, [], rfl, .inr (.inl ⟨rfl, rfl⟩), by simp, by simp⟩, _, _, rfl, ⟨a, rfl⟩, rfl⟩
        · have h1 : ∃ cs0, W.cells? 0 (a.add 0) e.n = some cs0 := by
            by_cases hl0 : 0 < len
            · have := he 0 hl0
              rw [Nat.zero_mul, List.getElem?_eq_getElem (by omega)] at this
              obtain ⟨cs0, q, _⟩ := Option.bind_eq_some_iff.1 this
              exact ⟨cs0, q⟩
            · obtain rfl : len = 0 := by omega
              obtain ⟨r1, r2⟩ := hr rfl
              have := r2 0 (by omega)
              rw [Nat.zero_add, Nat.zero_mul, List.getElem?_eq_getElem (by omega)] at this
              obtain ⟨cs0, q, _⟩ := Option.bind_eq_some_iff.1 this
              exact ⟨cs0, q⟩
          obtain ⟨cs0, hcs0⟩ := h1
          obtain ⟨_, q2, q3⟩ := World.cells?_some hcs0
          have q4 := q3 0 hn
          rw [List.getElem?_eq_getElem (by omega)] at q4
          have q5 : W.cell? a = some (cs0[0]'(by omega)) := by simpa [Addr.add] using q4
          obtain ⟨c, c1, c2, c3, c4⟩ := gIn_con q5
          have hch : ∀ i, i < len → ∃ ws, e.Is ws ∧ RelL (gIn W) ws ((c.drop (a.off + i * e.n)).take e.n) := by
            intro i hi
            have := he i hi
            rw [List.getElem?_eq_getElem (by omega)] at this
            obtain ⟨csi, p1, p2⟩ := Option.bind_eq_some_iff.1 this
            rw [chunk_of c4 c2 p1]
            exact ih e te csi _ hte (wAll hw2 _ (List.mem_map.2 ⟨_, List.getElem_mem _, rfl⟩)) p2
          have hlen : ((c.drop a.off).take (len * e.n)).length = len * e.n := by
            by_cases hl0 : 0 < len
            · have := he (len - 1) (by omega)
              rw [List.getElem?_eq_getElem (by omega)] at this
              obtain ⟨csi, p1, p2⟩ := Option.bind_eq_some_iff.1 this
              have p3 := chunk_of c4 c2 p1
              have p4 := congrArg List.length p3
              rw [List.length_take, List.length_drop, (World.cells?_some p1).2.1] at p4
              have : (len - 1) * e.n + e.n = len * e.n := by rw [← Nat.succ_mul]; congr 1; omega
              rw [List.length_take, List.length_drop]
              omega
            · have : len = 0 := by omega
              subst this; simp
          obtain ⟨xs, x1, x2, x3⟩ := relE_of (γ := gIn W) (e := e) len ((c.drop a.off).take (len * e.n)) hlen fun i hi => by
            obtain ⟨ws, w1, w2⟩ := hch i hi
            refine ⟨ws, w1, ?_⟩
            have : (((c.drop a.off).take (len * e.n)).drop (i * e.n)).take e.n = (c.drop (a.off + i * e.n)).take e.n := by
              rw [List.drop_take, List.take_take, List.drop_drop, Nat.min_eq_left]
              have : i * e.n + e.n ≤ len * e.n := by rw [← Nat.succ_mul]; exact Nat.mul_le_mul_right _ hi
              omega
            rw [this]; exact w2
          have h48 : len < 2 ^ 48 := by
            have h1 : reachBytes < 2 ^ 48 := by decide
            have h2 : (elems.length + rest.length) * 1 ≤ (elems.length + rest.length) * P.bytesOf te := Nat.mul_le_mul_left _ hby
            omega
          refine ⟨[.sl e.n false xs], ⟨.sl e.n false xs, xs, rfl, .mk, by omega, x3⟩, _, _, rfl, ?_, rfl⟩
          refine ⟨a.block, c.take a.off, (c.drop a.off).take (len * e.n), (c.drop a.off).drop (len * e.n), c.length, cap, ?_, x2, ?_, by omega, by simp, by omega⟩
          · rw [List.append_assoc, List.take_append_drop, List.take_append_drop]; exact c1
          · rw [x1, List.length_take, Nat.min_eq_left (by omega)]
            cases a; simp at c2; subst c2; rfl
    | st l =>
      have hall : ∀ (l : List Sh) (off : Nat) (fs : List Field), Sh.TyL P l off fs → (∀ f ∈ fs, ∃ y, (y.1.weights P f.type).all (· ≤ reachBytes) = true ∧ DataW.trod enc P W 0 (fun _ => true) true fuel f.type ((cs.drop f.offset).take (P.cellsOf f.type)) = some y) → off + Sh.nL l ≤ cs.length → ∃ vs, Sh.IsL l vs ∧ RelL (gIn W) vs ((cs.drop off).take (Sh.nL l)) := by
        intro l
        induction l with
        | nil => intro off fs hl _ _; exact ⟨[], rfl, by simp [Sh.nL, RelL]⟩
        | cons s l ihl =>
          intro off fs hl hf hlen
          obtain ⟨f, r, rfl, rfl, hs, hl'⟩ := hl
          obtain ⟨y, hyw, hy⟩ := hf f (by simp)
          rw [hs.cells] at hy
          obtain ⟨a, a1, a2⟩ := ih s f.type _ y hs hyw hy
          obtain ⟨b, b1, b2⟩ := ihl (f.offset + s.n) r hl' (fun g hg => hf g (by simp [hg])) (by simp only [Sh.nL] at hlen; omega)
          refine ⟨a ++ b, ⟨a, b, rfl, a1, b1⟩, ?_⟩
          have := relL_app a2 b2
          rw [← List.drop_drop, ← List.take_add] at this
          exact this
      rcases ht with ⟨fs, hu, hc, htl⟩ | ⟨n, e, te, rfl, hu, hc, htr⟩
      · obtain ⟨xs, n', hf, rfl, hl, hxl, hx⟩ := DataW.trod_struct hu h
        obtain rfl : fuel = n' := by omega
        simp only [DataW.weights, hu] at hwt
        obtain ⟨vs, v1, v2⟩ := hall l 0 fs.toList htl (fun f hf => by
          obtain ⟨i, hi, rfl⟩ := List.mem_iff_getElem.1 hf
          have hi' : i < fs.size := by simpa using hi
          have := hx i fs[i] (by simp [hi'])
          rw [List.getElem?_eq_getElem (by omega)] at this
          exact ⟨_, wEach hwt i _ _ (by simp [hi']) (by simp [show i < xs.length by omega]; rfl), by simpa using this⟩) (by omega)
        rw [List.drop_zero, List.take_of_length_le (by omega)] at v2
        exact ⟨vs, v1, v2⟩
      · obtain ⟨xs, n', hf, rfl, hl, hxl, hx⟩ := DataW.trod_array hu h
        obtain rfl : fuel = n' := by omega
        simp only [DataW.weights, hu] at hwt
        have hgo : ∀ (m i : Nat), i + m = n → ∃ vs, Sh.IsL (List.replicate m e) vs ∧ RelL (gIn W) vs ((cs.drop (i * e.n)).take (m * e.n)) := by
          intro m
          induction m with
          | zero => intro i _; exact ⟨[], rfl, by simp [RelL]⟩
          | succ m ihm =>
            intro i hi
            have hte : e.Ty P te := by
              obtain ⟨k, rfl⟩ : ∃ k, n = k + 1 := ⟨n - 1, by omega⟩
              exact htr.1
            have := hx i (by omega)
            rw [hte.cells, List.getElem?_eq_getElem (by omega)] at this
            obtain ⟨a, a1, a2⟩ := ih e te _ _ hte (wAll hwt _ (List.mem_map.2 ⟨_, List.getElem_mem _, rfl⟩)) this
            obtain ⟨b, b1, b2⟩ := ihm (i + 1) (by omega)
            refine ⟨a ++ b, ⟨a, b, rfl, a1, b1⟩, ?_⟩
            have := relL_app a2 b2
            rw [Nat.add_mul, Nat.one_mul, ← List.drop_drop, ← List.take_add] at this
            rw [Nat.add_mul, Nat.one_mul, Nat.add_comm (m * e.n)]
            exact this
        have hnl : Sh.nL (List.replicate n e) = n * e.n := by
          clear hgo hx hxl hc hu htr
          induction n with
          | zero => simp [Sh.nL]
          | succ n ih => simp only [List.replicate_succ, Sh.nL, ih, Nat.succ_mul]; omega
        obtain ⟨vs, v1, v2⟩ := hgo n 0 (by omega)
        rw [Nat.zero_mul, List.drop_zero, List.take_of_length_le (by omega)] at v2
        exact ⟨vs, v1, v2⟩
end
end Go.AL.S
