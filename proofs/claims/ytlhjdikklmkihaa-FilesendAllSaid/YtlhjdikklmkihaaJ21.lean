/- 'Step'. Conditions: none. -/
import Derived.Test.YtlhjdikklmkihaaI21
set_option linter.all false
namespace Go.Proofs.Ytlhjdikklmkihaa.Ev
open Go
def Z8 : D := .agg [vi 0, vu 0, vs ⟨#[]⟩, vi 0, vi 0, vu 0, vi 0, .sl .nl 0 []]
theorem w34n (B : List Bx) : EF pg 34 [.sl .nl 0 [], .clo 35 []] B = some (vi (-1), B) := by
  rw [EF_call p34 rfl (by simp [F34]) (by simp (maxSteps := 1000000) +contextual -implicitDefEqProofs only [go_sem, R_c, G_c, D_c, DG_c, G_cf, G_cv, D_cf, DG_cf, E_c, E_cf, E_a, D_ap, D_mm, D_al, D_ldm, E_ap, E_mm, Nat.reduceEqDiff, Nat.reduceAdd, Nat.reduceLeDiff, Nat.reduceSub, Nat.reduceLT, Nat.reduceMul, Int.reduceToNat, Int.reduceEq, ↓reduceIte, reduceCtorEq, Bool.false_and, Bool.and_false, Bool.false_eq_true, Bool.true_or, Bool.or_true, Bool.false_or, Bool.or_false, Nat.reduceBEq, Int.reduceBEq, Int.reduceBNe, Int.reduceLT, Int.reduceLE, Int.reduceMul, Int.reduceAdd, Int.toNat_natCast, List.isEmpty_map, ])]
  have h56 : ∀ B, EF pg 56 [.sl .nl 0 [], .clo 35 []] B = some (vi (-1), B) := fun B => by
    rw [EF_call p56 rfl (by simp [F56]) (by simp (maxSteps := 1000000) +contextual -implicitDefEqProofs only [go_sem, R_c, G_c, D_c, DG_c, G_cf, G_cv, D_cf, DG_cf, E_c, E_cf, E_a, D_ap, D_mm, D_al, D_ldm, E_ap, E_mm, Nat.reduceEqDiff, Nat.reduceAdd, Nat.reduceLeDiff, Nat.reduceSub, Nat.reduceLT, Nat.reduceMul, Int.reduceToNat, Int.reduceEq, ↓reduceIte, reduceCtorEq, Bool.false_and, Bool.and_false, Bool.false_eq_true, Bool.true_or, Bool.or_true, Bool.false_or, Bool.or_false, Nat.reduceBEq, Int.reduceBEq, Int.reduceBNe, Int.reduceLT, Int.reduceLE, Int.reduceMul, Int.reduceAdd, Int.toNat_natCast, List.isEmpty_map, ])]
    simp (maxSteps := 1000000) +contextual -implicitDefEqProofs only [go_sem, R_c, G_c, D_c, DG_c, G_cf, G_cv, D_cf, DG_cf, E_c, E_cf, E_a, D_ap, D_mm, D_al, D_ldm, E_ap, E_mm, Nat.reduceEqDiff, Nat.reduceAdd, Nat.reduceLeDiff, Nat.reduceSub, Nat.reduceLT, Nat.reduceMul, Int.reduceToNat, Int.reduceEq, ↓reduceIte, reduceCtorEq, Bool.false_and, Bool.and_false, Bool.false_eq_true, Bool.true_or, Bool.or_true, Bool.false_or, Bool.or_false, Nat.reduceBEq, Int.reduceBEq, Int.reduceBNe, Int.reduceLT, Int.reduceLE, Int.reduceMul, Int.reduceAdd, Int.toNat_natCast, List.isEmpty_map, F56, c56]
    generalize hz : evC (EF pg) l56x0 _ = z
    rw [lp_n (L := l56x0) rfl] at hz
    have n0 : ((0 : Nat) : Int) = 0 := rfl
    simp (maxSteps := 1000000) +contextual -implicitDefEqProofs only [go_sem, R_c, G_c, D_c, DG_c, G_cf, G_cv, D_cf, DG_cf, E_c, E_cf, E_a, D_ap, D_mm, D_al, D_ldm, E_ap, E_mm, Nat.reduceEqDiff, Nat.reduceAdd, Nat.reduceLeDiff, Nat.reduceSub, Nat.reduceLT, Nat.reduceMul, Int.reduceToNat, Int.reduceEq, ↓reduceIte, reduceCtorEq, Bool.false_and, Bool.and_false, Bool.false_eq_true, Bool.true_or, Bool.or_true, Bool.false_or, Bool.or_false, Nat.reduceBEq, Int.reduceBEq, Int.reduceBNe, Int.reduceLT, Int.reduceLE, Int.reduceMul, Int.reduceAdd, Int.toNat_natCast, List.isEmpty_map, b56x0, n0] at hz
    subst hz
    simp (maxSteps := 1000000) +contextual -implicitDefEqProofs only [go_sem, R_c, G_c, D_c, DG_c, G_cf, G_cv, D_cf, DG_cf, E_c, E_cf, E_a, D_ap, D_mm, D_al, D_ldm, E_ap, E_mm, Nat.reduceEqDiff, Nat.reduceAdd, Nat.reduceLeDiff, Nat.reduceSub, Nat.reduceLT, Nat.reduceMul, Int.reduceToNat, Int.reduceEq, ↓reduceIte, reduceCtorEq, Bool.false_and, Bool.and_false, Bool.false_eq_true, Bool.true_or, Bool.or_true, Bool.false_or, Bool.or_false, Nat.reduceBEq, Int.reduceBEq, Int.reduceBNe, Int.reduceLT, Int.reduceLE, Int.reduceMul, Int.reduceAdd, Int.toNat_natCast, List.isEmpty_map, ]
  simp (maxSteps := 1000000) +contextual -implicitDefEqProofs only [go_sem, R_c, G_c, D_c, DG_c, G_cf, G_cv, D_cf, DG_cf, E_c, E_cf, E_a, D_ap, D_mm, D_al, D_ldm, E_ap, E_mm, Nat.reduceEqDiff, Nat.reduceAdd, Nat.reduceLeDiff, Nat.reduceSub, Nat.reduceLT, Nat.reduceMul, Int.reduceToNat, Int.reduceEq, ↓reduceIte, reduceCtorEq, Bool.false_and, Bool.and_false, Bool.false_eq_true, Bool.true_or, Bool.or_true, Bool.false_or, Bool.or_false, Nat.reduceBEq, Int.reduceBEq, Int.reduceBNe, Int.reduceLT, Int.reduceLE, Int.reduceMul, Int.reduceAdd, Int.toNat_natCast, List.isEmpty_map, F34, c34, h56]
section
variable (nx : Int) (l : List Og) (q q2 : Bool) (e : List En) (B : List Bx)
theorem w12a (hl : l.length < 1000000) (hb : ∀ x ∈ l, x.b.length < 1000000) (he : e.length < 1000000) (hout : outB nx l e = false) : EF pg 12 [.agg [vu nx, lst .ro 6 q (l.map Og.D), lst .ro 2 q2 (e.map En.D)]] B = some (.tup [.agg [vu nx, lst .ro 6 q (l.map Og.D), lst .ro 2 q2 (e.map En.D)], vi 0, Z8, vb false], B) := by
  rw [EF_call p12 rfl (by simp [F12]) (by simp (maxSteps := 1000000) +contextual -implicitDefEqProofs only [go_sem, R_c, G_c, D_c, DG_c, G_cf, G_cv, D_cf, DG_cf, E_c, E_cf, E_a, D_ap, D_mm, D_al, D_ldm, E_ap, E_mm, Nat.reduceEqDiff, Nat.reduceAdd, Nat.reduceLeDiff, Nat.reduceSub, Nat.reduceLT, Nat.reduceMul, Int.reduceToNat, Int.reduceEq, ↓reduceIte, reduceCtorEq, Bool.false_and, Bool.and_false, Bool.false_eq_true, Bool.true_or, Bool.or_true, Bool.false_or, Bool.or_false, Nat.reduceBEq, Int.reduceBEq, Int.reduceBNe, Int.reduceLT, Int.reduceLE, Int.reduceMul, Int.reduceAdd, Int.toNat_natCast, List.isEmpty_map, ])]
  have h20 := fun B => w20 nx l q q2 B e hl hb he
  rw [hout] at h20
  simp (maxSteps := 1000000) +contextual -implicitDefEqProofs only [go_sem, R_c, G_c, D_c, DG_c, G_cf, G_cv, D_cf, DG_cf, E_c, E_cf, E_a, D_ap, D_mm, D_al, D_ldm, E_ap, E_mm, Nat.reduceEqDiff, Nat.reduceAdd, Nat.reduceLeDiff, Nat.reduceSub, Nat.reduceLT, Nat.reduceMul, Int.reduceToNat, Int.reduceEq, ↓reduceIte, reduceCtorEq, Bool.false_and, Bool.and_false, Bool.false_eq_true, Bool.true_or, Bool.or_true, Bool.false_or, Bool.or_false, Nat.reduceBEq, Int.reduceBEq, Int.reduceBNe, Int.reduceLT, Int.reduceLE, Int.reduceMul, Int.reduceAdd, Int.toNat_natCast, List.isEmpty_map, F12, c12, h20, G_fz]
  rfl
theorem w12b (he : e.length < 1000000) (hout : outB nx [] e = true) : EF pg 12 [.agg [vu nx, lst .ro 6 q [], lst .ro 2 q2 (e.map En.D)]] B = some (.tup [.agg [vu nx, .sl .nl 0 [], lst .ro 2 q2 (e.map En.D)], vi 0, Z8, vb false], B) := by
  rw [EF_call p12 rfl (by simp [F12]) (by simp (maxSteps := 1000000) +contextual -implicitDefEqProofs only [go_sem, R_c, G_c, D_c, DG_c, G_cf, G_cv, D_cf, DG_cf, E_c, E_cf, E_a, D_ap, D_mm, D_al, D_ldm, E_ap, E_mm, Nat.reduceEqDiff, Nat.reduceAdd, Nat.reduceLeDiff, Nat.reduceSub, Nat.reduceLT, Nat.reduceMul, Int.reduceToNat, Int.reduceEq, ↓reduceIte, reduceCtorEq, Bool.false_and, Bool.and_false, Bool.false_eq_true, Bool.true_or, Bool.or_true, Bool.false_or, Bool.or_false, Nat.reduceBEq, Int.reduceBEq, Int.reduceBNe, Int.reduceLT, Int.reduceLE, Int.reduceMul, Int.reduceAdd, Int.toNat_natCast, List.isEmpty_map, ])]
  have h20 := fun B => w20 nx [] q q2 B e (by simp) (by simp) he
  rw [hout] at h20
  have h33 := fun B => w33 nx [] (by simp) (by simp) q q2 (e.map En.D) (by simpa using he) B
  simp only [List.map_nil, lst_nil] at h20 h33
  simp (maxSteps := 1000000) +contextual -implicitDefEqProofs only [go_sem, R_c, G_c, D_c, DG_c, G_cf, G_cv, D_cf, DG_cf, E_c, E_cf, E_a, D_ap, D_mm, D_al, D_ldm, E_ap, E_mm, Nat.reduceEqDiff, Nat.reduceAdd, Nat.reduceLeDiff, Nat.reduceSub, Nat.reduceLT, Nat.reduceMul, Int.reduceToNat, Int.reduceEq, ↓reduceIte, reduceCtorEq, Bool.false_and, Bool.and_false, Bool.false_eq_true, Bool.true_or, Bool.or_true, Bool.false_or, Bool.or_false, Nat.reduceBEq, Int.reduceBEq, Int.reduceBNe, Int.reduceLT, Int.reduceLE, Int.reduceMul, Int.reduceAdd, Int.toNat_natCast, List.isEmpty_map, F12, c12, h20, h33, w34n, G_th, G_fz]
  rfl
theorem cellsO_rf : ∀ (l : List Og), (cellsO l).all D.rf1 = true
  | [] => rfl
  | x :: l => by rw [cellsO_cons, List.all_append, cellsO_rf l]; simp (maxSteps := 1000000) +contextual -implicitDefEqProofs only [go_sem, R_c, G_c, D_c, DG_c, G_cf, G_cv, D_cf, DG_cf, E_c, E_cf, E_a, D_ap, D_mm, D_al, D_ldm, E_ap, E_mm, Nat.reduceEqDiff, Nat.reduceAdd, Nat.reduceLeDiff, Nat.reduceSub, Nat.reduceLT, Nat.reduceMul, Int.reduceToNat, Int.reduceEq, ↓reduceIte, reduceCtorEq, Bool.false_and, Bool.and_false, Bool.false_eq_true, Bool.true_or, Bool.or_true, Bool.false_or, Bool.or_false, Nat.reduceBEq, Int.reduceBEq, Int.reduceBNe, Int.reduceLT, Int.reduceLE, Int.reduceMul, Int.reduceAdd, Int.toNat_natCast, List.isEmpty_map, ]
theorem cellsO_all : ∀ (l : List Og), (l.map Og.D).all (fun d => d.cells.all D.rf1) = true
  | [] => rfl
  | x :: l => by rw [List.map_cons, List.all_cons, cellsO_all l]; simp (maxSteps := 1000000) +contextual -implicitDefEqProofs only [go_sem, R_c, G_c, D_c, DG_c, G_cf, G_cv, D_cf, DG_cf, E_c, E_cf, E_a, D_ap, D_mm, D_al, D_ldm, E_ap, E_mm, Nat.reduceEqDiff, Nat.reduceAdd, Nat.reduceLeDiff, Nat.reduceSub, Nat.reduceLT, Nat.reduceMul, Int.reduceToNat, Int.reduceEq, ↓reduceIte, reduceCtorEq, Bool.false_and, Bool.and_false, Bool.false_eq_true, Bool.true_or, Bool.or_true, Bool.false_or, Bool.or_false, Nat.reduceBEq, Int.reduceBEq, Int.reduceBNe, Int.reduceLT, Int.reduceLE, Int.reduceMul, Int.reduceAdd, Int.toNat_natCast, List.isEmpty_map, Og.D]
theorem chunksO : ∀ (l : List Og), chunks 6 l.length (cellsO l) = l.map Og.D
  | [] => rfl
  | x :: l => by
    rw [cellsO_cons, List.length_cons, chunks, List.map_cons, ← chunksO l]
    rfl
/-- The frame of 'Step' when the place is looked for. -/
def L12 (nx : Int) (k n : Nat) (eD : D) (cs : List D) : Bx := [(1, [vu nx, .ref k 500101 0 n 6, eD]), (2, [vu 0, .sl .nl 0 [], .sl .nl 0 []]), (3, [vi 0]), (4, [vi 0, vu 0, vs ⟨#[]⟩, vi 0, vi 0, vu 0, vi 0, .sl .nl 0 []]), (5, [vb false]), (500101, cs)]
theorem w12c (hne : l ≠ []) (hl : l.length < 1000000) (hb : ∀ x ∈ l, x.b.length < 1000000) (he : e.length < 1000000) (hout : outB nx l e = true) (hi : idxO l 0 = -1) : EF pg 12 [.agg [vu nx, lst .ro 6 q (l.map Og.D), lst .ro 2 q2 (e.map En.D)]] B = some (.tup [.agg [vu nx, .sl .ro 6 (l.map Og.D), lst .ro 2 q2 (e.map En.D)], vi 0, Z8, vb false], B) := by
  rw [EF_call p12 rfl (by simp [F12]) (by simp (maxSteps := 1000000) +contextual -implicitDefEqProofs only [go_sem, R_c, G_c, D_c, DG_c, G_cf, G_cv, D_cf, DG_cf, E_c, E_cf, E_a, D_ap, D_mm, D_al, D_ldm, E_ap, E_mm, Nat.reduceEqDiff, Nat.reduceAdd, Nat.reduceLeDiff, Nat.reduceSub, Nat.reduceLT, Nat.reduceMul, Int.reduceToNat, Int.reduceEq, ↓reduceIte, reduceCtorEq, Bool.false_and, Bool.and_false, Bool.false_eq_true, Bool.true_or, Bool.or_true, Bool.false_or, Bool.or_false, Nat.reduceBEq, Int.reduceBEq, Int.reduceBNe, Int.reduceLT, Int.reduceLE, Int.reduceMul, Int.reduceAdd, Int.toNat_natCast, List.isEmpty_map, ])]
  have h20 := fun B => w20 nx l q q2 B e hl hb he
  rw [hout] at h20
  have h33 := fun B => w33 nx l hl (fun x hx => by have := hb x hx; omega) q q2 (e.map En.D) (by simpa using he) B
  have hmu : ∀ m z, lst m z true (l.map Og.D) = .sl m z (l.map Og.D) := fun m z => lst_ne (by simpa using hne)
  rw [hmu] at h33
  have h34 := w34 l hl hb B.length (B ++ [L12 nx B.length l.length (lst .app 2 q2 (e.map En.D)) (cellsO l)]) (by simp) (by simp [L12, lk])
  rw [hi] at h34
  simp only [L12] at h34
  have hall := cellsO_all l
  have hrf := cellsO_rf l
  have hcs : (l.map Og.D).flatMap D.cells = cellsO l := rfl
  have hch := chunksO l
  have hlen : l.length * 6 ≤ (cellsO l).length := by rw [cellsO_len]; omega
  simp (maxSteps := 1000000) +contextual -implicitDefEqProofs only [go_sem, R_c, G_c, D_c, DG_c, G_cf, G_cv, D_cf, DG_cf, E_c, E_cf, E_a, D_ap, D_mm, D_al, D_ldm, E_ap, E_mm, Nat.reduceEqDiff, Nat.reduceAdd, Nat.reduceLeDiff, Nat.reduceSub, Nat.reduceLT, Nat.reduceMul, Int.reduceToNat, Int.reduceEq, ↓reduceIte, reduceCtorEq, Bool.false_and, Bool.and_false, Bool.false_eq_true, Bool.true_or, Bool.or_true, Bool.false_or, Bool.or_false, Nat.reduceBEq, Int.reduceBEq, Int.reduceBNe, Int.reduceLT, Int.reduceLE, Int.reduceMul, Int.reduceAdd, Int.toNat_natCast, List.isEmpty_map, F12, c12, h20, h33, h34, G_th, G_fz, hall, hrf, hcs, hch, hlen, Option.isNone_none]
  rfl
end
theorem cellsO_get {l : List Og} {i j : Nat} {x : Og} (h : l[i]? = some x) (hj : j < 6) : (cellsO l)[i * 6 + j]? = ([vu x.n, vi x.d, vs x.nm, lst .ro 1 x.q (x.b.map un), vi x.s, vi x.u] : List D)[j]? := by
  rw [← cellsO_at h, List.getElem?_take, if_pos hj, List.getElem?_drop]
theorem cellsO_set : ∀ {l : List Og} {i : Nat} {x : Og} (s : Int), l[i]? = some x → (cellsO l).take (i * 6 + 4) ++ [vi s] ++ (cellsO l).drop (i * 6 + 4 + 1) = cellsO (l.set i { x with s := s })
  | [], i, x, s, h => by simp at h
  | y :: l, 0, x, s, h => by simp at h; subst h; simp [cellsO_cons]
  | y :: l, i + 1, x, s, h => by
    have := cellsO_set (l := l) (i := i) (x := x) s (by simpa using h)
    rw [cellsO_cons, List.set_cons_succ, cellsO_cons, ← this, show (i + 1) * 6 + 4 = (i * 6 + 4) + 6 by omega, show (i * 6 + 4) + 6 + 1 = (i * 6 + 4 + 1) + 6 by omega]
    rfl
/-- The frame of 'Step' while the messages are gone over. -/
def L12r (nx : Int) (k n i : Nat) (eD : D) (cs : List D) (c : Int) (b2 : List D) (b3 : D) (b4 : List D) (b5 : D) (st j : Nat) : Bx := [(1, [vu nx, .ref k 500101 0 n 6, eD]), (2, b2), (3, [b3]), (4, b4), (5, [b5]), (7, [.ptr k 500101 (i * 6)]), (8, [vi c]), (500101, cs),
  (1000000, [.rcd st j 1012000 [1, 2, 3, 4, 5, 7, 8], .ptr k 1 0, .ptr k 2 0, .ptr k 3 0, .ptr k 4 0, .ptr k 5 0, .ptr k 7 0, .ptr k 8 0])]
def z4 : List D := [vi 0, vu 0, vs ⟨#[]⟩, vi 0, vi 0, vu 0, vi 0, .sl .nl 0 []]
def Mg.c (m : Mg) : List Ev.D := [vi m.k, vu m.n, vs m.nm, vi m.sz, vi m.off, vu m.sum, vi m.code, lst .ro 1 m.q (m.b.map un)]
section
variable (nx : Int) (l : List Og) (eD : D) (B : List Bx) (i : Nat) (x : Og)
def stR (j : Nat) : Bx := L12r nx B.length l.length i eD (cellsO l) j [vu 0, .sl .nl 0 [], .sl .nl 0 []] (vi 0) z4 (vb false) 0 0
def stD (j : Nat) (m : Mg) : Bx := L12r nx B.length l.length i eD (cellsO (l.set i { x with s := x.s + 1 })) j [vu nx, .ref B.length 500101 0 l.length 6, eD.strip1] (vi x.d) m.c (vb true) 2 1
theorem w12r (hx : l[i]? = some x) (j : Nat) (hj : j < 1000000) (hs : 0 ≤ x.s ∧ x.s ≤ 1000000) (m : Mg) (hle : (j : Int) ≠ x.s) : EF pg 1012000 [.yld B.length 1000000, m.D] ((B ++ [stR nx l eD B i j]) ++ [[]]) = some (vb true, (B ++ [stR nx l eD B i (j + 1)]) ++ [[]]) := by
  have h4 := cellsO_get (j := 4) hx (by omega)
  simp only [List.getElem?_cons_succ, List.getElem?_cons_zero] at h4
  have hw : IntKind.i64.wrap ((j : Int) + 1) = ((j + 1 : Nat) : Int) := by rw [wi64 (by omega)]; omega
  have hne : ((j : Int) == x.s) = false := by simpa using hle
  refine (round_ok (F := F12x0) (caps := _) (ks := [1, 2, 3, 4, 5, 7, 8]) p12x0 rfl (by simp (maxSteps := 1000000) +contextual -implicitDefEqProofs only [go_sem, R_c, G_c, D_c, DG_c, G_cf, G_cv, D_cf, DG_cf, E_c, E_cf, E_a, D_ap, D_mm, D_al, D_ldm, E_ap, E_mm, Nat.reduceEqDiff, Nat.reduceAdd, Nat.reduceLeDiff, Nat.reduceSub, Nat.reduceLT, Nat.reduceMul, Int.reduceToNat, Int.reduceEq, ↓reduceIte, reduceCtorEq, Bool.false_and, Bool.and_false, Bool.false_eq_true, Bool.true_or, Bool.or_true, Bool.false_or, Bool.or_false, Nat.reduceBEq, Int.reduceBEq, Int.reduceBNe, Int.reduceLT, Int.reduceLE, Int.reduceMul, Int.reduceAdd, Int.toNat_natCast, List.isEmpty_map, stR, L12r]; rfl) (by simp) rfl (by simp (maxSteps := 1000000) +contextual -implicitDefEqProofs only [go_sem, R_c, G_c, D_c, DG_c, G_cf, G_cv, D_cf, DG_cf, E_c, E_cf, E_a, D_ap, D_mm, D_al, D_ldm, E_ap, E_mm, Nat.reduceEqDiff, Nat.reduceAdd, Nat.reduceLeDiff, Nat.reduceSub, Nat.reduceLT, Nat.reduceMul, Int.reduceToNat, Int.reduceEq, ↓reduceIte, reduceCtorEq, Bool.false_and, Bool.and_false, Bool.false_eq_true, Bool.true_or, Bool.or_true, Bool.false_or, Bool.or_false, Nat.reduceBEq, Int.reduceBEq, Int.reduceBNe, Int.reduceLT, Int.reduceLE, Int.reduceMul, Int.reduceAdd, Int.toNat_natCast, List.isEmpty_map, Mg.D]) (s1 := ⟨_, _, _⟩) (by simp (maxSteps := 1000000) +contextual -implicitDefEqProofs only [go_sem, R_c, G_c, D_c, DG_c, G_cf, G_cv, D_cf, DG_cf, E_c, E_cf, E_a, D_ap, D_mm, D_al, D_ldm, E_ap, E_mm, Nat.reduceEqDiff, Nat.reduceAdd, Nat.reduceLeDiff, Nat.reduceSub, Nat.reduceLT, Nat.reduceMul, Int.reduceToNat, Int.reduceEq, ↓reduceIte, reduceCtorEq, Bool.false_and, Bool.and_false, Bool.false_eq_true, Bool.true_or, Bool.or_true, Bool.false_or, Bool.or_false, Nat.reduceBEq, Int.reduceBEq, Int.reduceBNe, Int.reduceLT, Int.reduceLE, Int.reduceMul, Int.reduceAdd, Int.toNat_natCast, List.isEmpty_map, stR, L12r, a12x0, Mg.D]; rfl) (by simp (maxSteps := 1000000) +contextual -implicitDefEqProofs only [go_sem, R_c, G_c, D_c, DG_c, G_cf, G_cv, D_cf, DG_cf, E_c, E_cf, E_a, D_ap, D_mm, D_al, D_ldm, E_ap, E_mm, Nat.reduceEqDiff, Nat.reduceAdd, Nat.reduceLeDiff, Nat.reduceSub, Nat.reduceLT, Nat.reduceMul, Int.reduceToNat, Int.reduceEq, ↓reduceIte, reduceCtorEq, Bool.false_and, Bool.and_false, Bool.false_eq_true, Bool.true_or, Bool.or_true, Bool.false_or, Bool.or_false, Nat.reduceBEq, Int.reduceBEq, Int.reduceBNe, Int.reduceLT, Int.reduceLE, Int.reduceMul, Int.reduceAdd, Int.toNat_natCast, List.isEmpty_map, stR, L12r]; rfl) (x := .nm) (s2 := ⟨_, _, _⟩) (by simp (maxSteps := 1000000) +contextual -implicitDefEqProofs only [go_sem, R_c, G_c, D_c, DG_c, G_cf, G_cv, D_cf, DG_cf, E_c, E_cf, E_a, D_ap, D_mm, D_al, D_ldm, E_ap, E_mm, Nat.reduceEqDiff, Nat.reduceAdd, Nat.reduceLeDiff, Nat.reduceSub, Nat.reduceLT, Nat.reduceMul, Int.reduceToNat, Int.reduceEq, ↓reduceIte, reduceCtorEq, Bool.false_and, Bool.and_false, Bool.false_eq_true, Bool.true_or, Bool.or_true, Bool.false_or, Bool.or_false, Nat.reduceBEq, Int.reduceBEq, Int.reduceBNe, Int.reduceLT, Int.reduceLE, Int.reduceMul, Int.reduceAdd, Int.toNat_natCast, List.isEmpty_map, stR, L12r, F12x0, c12x0, h4, hne, hw]; rfl) (by simp (maxSteps := 1000000) +contextual -implicitDefEqProofs only [go_sem, R_c, G_c, D_c, DG_c, G_cf, G_cv, D_cf, DG_cf, E_c, E_cf, E_a, D_ap, D_mm, D_al, D_ldm, E_ap, E_mm, Nat.reduceEqDiff, Nat.reduceAdd, Nat.reduceLeDiff, Nat.reduceSub, Nat.reduceLT, Nat.reduceMul, Int.reduceToNat, Int.reduceEq, ↓reduceIte, reduceCtorEq, Bool.false_and, Bool.and_false, Bool.false_eq_true, Bool.true_or, Bool.or_true, Bool.false_or, Bool.or_false, Nat.reduceBEq, Int.reduceBEq, Int.reduceBNe, Int.reduceLT, Int.reduceLE, Int.reduceMul, Int.reduceAdd, Int.toNat_natCast, List.isEmpty_map, stR, L12r]; rfl)).trans ?_
  simp (maxSteps := 1000000) +contextual -implicitDefEqProofs only [go_sem, R_c, G_c, D_c, DG_c, G_cf, G_cv, D_cf, DG_cf, E_c, E_cf, E_a, D_ap, D_mm, D_al, D_ldm, E_ap, E_mm, Nat.reduceEqDiff, Nat.reduceAdd, Nat.reduceLeDiff, Nat.reduceSub, Nat.reduceLT, Nat.reduceMul, Int.reduceToNat, Int.reduceEq, ↓reduceIte, reduceCtorEq, Bool.false_and, Bool.and_false, Bool.false_eq_true, Bool.true_or, Bool.or_true, Bool.false_or, Bool.or_false, Nat.reduceBEq, Int.reduceBEq, Int.reduceBNe, Int.reduceLT, Int.reduceLE, Int.reduceMul, Int.reduceAdd, Int.toNat_natCast, List.isEmpty_map, stR, L12r]
theorem w12s (hx : l[i]? = some x) (j : Nat) (hs : 0 ≤ x.s ∧ x.s ≤ 1000000) (m : Mg) (hle : (j : Int) = x.s) (heD : eD.strip1.sto1 = true) (hb1 : ∀ k, eD.strip1.bnd1 k = true) : EF pg 1012000 [.yld B.length 1000000, m.D] ((B ++ [stR nx l eD B i j]) ++ [[]]) = some (vb false, (B ++ [stD nx l eD B i x j m]) ++ [[]]) := by
  have h4 := cellsO_get (j := 4) hx (by omega)
  simp only [List.getElem?_cons_succ, List.getElem?_cons_zero] at h4
  have hw : IntKind.i64.wrap (x.s + 1) = x.s + 1 := wi64 (by omega)
  have hne : ((j : Int) == x.s) = true := by simpa using hle
  have hset := cellsO_set (x.s + 1) hx
  have hlt := (List.getElem?_eq_some_iff.1 hx).1
  have hlen : i * 6 + 4 + 1 ≤ (cellsO l).length := by rw [cellsO_len]; omega
  have hx' : (l.set i { x with s := x.s + 1 })[i]? = some { x with s := x.s + 1 } := by simp [hlt]
  have h1 := cellsO_get (j := 1) hx' (by omega)
  simp only [List.getElem?_cons_succ, List.getElem?_cons_zero] at h1
  refine (round_ok (F := F12x0) (caps := _) (ks := [1, 2, 3, 4, 5, 7, 8]) p12x0 rfl (by simp (maxSteps := 1000000) +contextual -implicitDefEqProofs only [go_sem, R_c, G_c, D_c, DG_c, G_cf, G_cv, D_cf, DG_cf, E_c, E_cf, E_a, D_ap, D_mm, D_al, D_ldm, E_ap, E_mm, Nat.reduceEqDiff, Nat.reduceAdd, Nat.reduceLeDiff, Nat.reduceSub, Nat.reduceLT, Nat.reduceMul, Int.reduceToNat, Int.reduceEq, ↓reduceIte, reduceCtorEq, Bool.false_and, Bool.and_false, Bool.false_eq_true, Bool.true_or, Bool.or_true, Bool.false_or, Bool.or_false, Nat.reduceBEq, Int.reduceBEq, Int.reduceBNe, Int.reduceLT, Int.reduceLE, Int.reduceMul, Int.reduceAdd, Int.toNat_natCast, List.isEmpty_map, stR, L12r]; rfl) (by simp) rfl (by simp (maxSteps := 1000000) +contextual -implicitDefEqProofs only [go_sem, R_c, G_c, D_c, DG_c, G_cf, G_cv, D_cf, DG_cf, E_c, E_cf, E_a, D_ap, D_mm, D_al, D_ldm, E_ap, E_mm, Nat.reduceEqDiff, Nat.reduceAdd, Nat.reduceLeDiff, Nat.reduceSub, Nat.reduceLT, Nat.reduceMul, Int.reduceToNat, Int.reduceEq, ↓reduceIte, reduceCtorEq, Bool.false_and, Bool.and_false, Bool.false_eq_true, Bool.true_or, Bool.or_true, Bool.false_or, Bool.or_false, Nat.reduceBEq, Int.reduceBEq, Int.reduceBNe, Int.reduceLT, Int.reduceLE, Int.reduceMul, Int.reduceAdd, Int.toNat_natCast, List.isEmpty_map, Mg.D]) (s1 := ⟨_, _, _⟩) (by simp (maxSteps := 1000000) +contextual -implicitDefEqProofs only [go_sem, R_c, G_c, D_c, DG_c, G_cf, G_cv, D_cf, DG_cf, E_c, E_cf, E_a, D_ap, D_mm, D_al, D_ldm, E_ap, E_mm, Nat.reduceEqDiff, Nat.reduceAdd, Nat.reduceLeDiff, Nat.reduceSub, Nat.reduceLT, Nat.reduceMul, Int.reduceToNat, Int.reduceEq, ↓reduceIte, reduceCtorEq, Bool.false_and, Bool.and_false, Bool.false_eq_true, Bool.true_or, Bool.or_true, Bool.false_or, Bool.or_false, Nat.reduceBEq, Int.reduceBEq, Int.reduceBNe, Int.reduceLT, Int.reduceLE, Int.reduceMul, Int.reduceAdd, Int.toNat_natCast, List.isEmpty_map, stR, L12r, a12x0, Mg.D]; rfl) (by simp (maxSteps := 1000000) +contextual -implicitDefEqProofs only [go_sem, R_c, G_c, D_c, DG_c, G_cf, G_cv, D_cf, DG_cf, E_c, E_cf, E_a, D_ap, D_mm, D_al, D_ldm, E_ap, E_mm, Nat.reduceEqDiff, Nat.reduceAdd, Nat.reduceLeDiff, Nat.reduceSub, Nat.reduceLT, Nat.reduceMul, Int.reduceToNat, Int.reduceEq, ↓reduceIte, reduceCtorEq, Bool.false_and, Bool.and_false, Bool.false_eq_true, Bool.true_or, Bool.or_true, Bool.false_or, Bool.or_false, Nat.reduceBEq, Int.reduceBEq, Int.reduceBNe, Int.reduceLT, Int.reduceLE, Int.reduceMul, Int.reduceAdd, Int.toNat_natCast, List.isEmpty_map, stR, L12r]; rfl) (x := .rt) (s2 := ⟨_, _, _⟩) (by simp (maxSteps := 1000000) +contextual -implicitDefEqProofs only [go_sem, R_c, G_c, D_c, DG_c, G_cf, G_cv, D_cf, DG_cf, E_c, E_cf, E_a, D_ap, D_mm, D_al, D_ldm, E_ap, E_mm, Nat.reduceEqDiff, Nat.reduceAdd, Nat.reduceLeDiff, Nat.reduceSub, Nat.reduceLT, Nat.reduceMul, Int.reduceToNat, Int.reduceEq, ↓reduceIte, reduceCtorEq, Bool.false_and, Bool.and_false, Bool.false_eq_true, Bool.true_or, Bool.or_true, Bool.false_or, Bool.or_false, Nat.reduceBEq, Int.reduceBEq, Int.reduceBNe, Int.reduceLT, Int.reduceLE, Int.reduceMul, Int.reduceAdd, Int.toNat_natCast, List.isEmpty_map, stR, L12r, F12x0, c12x0, h4, hne, hw, hlen, hset, h1, heD, hb1, G_fz]; rfl) (by simp (maxSteps := 1000000) +contextual -implicitDefEqProofs only [go_sem, R_c, G_c, D_c, DG_c, G_cf, G_cv, D_cf, DG_cf, E_c, E_cf, E_a, D_ap, D_mm, D_al, D_ldm, E_ap, E_mm, Nat.reduceEqDiff, Nat.reduceAdd, Nat.reduceLeDiff, Nat.reduceSub, Nat.reduceLT, Nat.reduceMul, Int.reduceToNat, Int.reduceEq, ↓reduceIte, reduceCtorEq, Bool.false_and, Bool.and_false, Bool.false_eq_true, Bool.true_or, Bool.or_true, Bool.false_or, Bool.or_false, Nat.reduceBEq, Int.reduceBEq, Int.reduceBNe, Int.reduceLT, Int.reduceLE, Int.reduceMul, Int.reduceAdd, Int.toNat_natCast, List.isEmpty_map, stR, L12r]; rfl)).trans ?_
  simp (maxSteps := 1000000) +contextual -implicitDefEqProofs only [go_sem, R_c, G_c, D_c, DG_c, G_cf, G_cv, D_cf, DG_cf, E_c, E_cf, E_a, D_ap, D_mm, D_al, D_ldm, E_ap, E_mm, Nat.reduceEqDiff, Nat.reduceAdd, Nat.reduceLeDiff, Nat.reduceSub, Nat.reduceLT, Nat.reduceMul, Int.reduceToNat, Int.reduceEq, ↓reduceIte, reduceCtorEq, Bool.false_and, Bool.and_false, Bool.false_eq_true, Bool.true_or, Bool.or_true, Bool.false_or, Bool.or_false, Nat.reduceBEq, Int.reduceBEq, Int.reduceBNe, Int.reduceLT, Int.reduceLE, Int.reduceMul, Int.reduceAdd, Int.toNat_natCast, List.isEmpty_map, stD, L12r]
  rfl
def goS (x : Og) (a : Option Mg × Nat) (_ : Mg) : Bool := !decide ((a.2 : Int) = x.s)
def nxS (x : Og) (a : Option Mg × Nat) (m : Mg) : Option Mg × Nat := if (a.2 : Int) = x.s then (some m, a.2) else (none, a.2 + 1)
def stS (a : Option Mg × Nat) : List Bx := B ++ [match a.1 with
  | none => stR nx l eD B i a.2
  | some m => stD nx l eD B i x a.2 m]
theorem ylS (M : Nat) (hM : M < 1000000) (hx : l[i]? = some x) (hs : 0 ≤ x.s ∧ x.s ≤ 1000000) (heD : eD.strip1.sto1 = true) (hb1 : ∀ k, eD.strip1.bnd1 k = true) : Yl (stS nx l eD B i x) B.length 1000000 1012000 (B.length + 1) M (goS x) (nxS x) (fun k a => a = (none, k)) where
  hf := by omega
  hN := fun a => by simp [stS]
  hr := fun k a ha => by subst ha; exact ⟨[1, 2, 3, 4, 5, 7, 8], _, by simp (maxSteps := 1000000) +contextual -implicitDefEqProofs only [go_sem, R_c, G_c, D_c, DG_c, G_cf, G_cv, D_cf, DG_cf, E_c, E_cf, E_a, D_ap, D_mm, D_al, D_ldm, E_ap, E_mm, Nat.reduceEqDiff, Nat.reduceAdd, Nat.reduceLeDiff, Nat.reduceSub, Nat.reduceLT, Nat.reduceMul, Int.reduceToNat, Int.reduceEq, ↓reduceIte, reduceCtorEq, Bool.false_and, Bool.and_false, Bool.false_eq_true, Bool.true_or, Bool.or_true, Bool.false_or, Bool.or_false, Nat.reduceBEq, Int.reduceBEq, Int.reduceBNe, Int.reduceLT, Int.reduceLE, Int.reduceMul, Int.reduceAdd, Int.toNat_natCast, List.isEmpty_map, stS, stR, L12r]; rfl⟩
  hy := fun k a m ha hk => by
    subst ha
    by_cases h : (k : Int) = x.s
    · simp only [goS, nxS, h, decide_true, if_true]
      exact w12s nx l eD B i x hx k hs m h heD hb1
    · simp only [goS, nxS, h, decide_false, if_false]
      exact w12r nx l eD B i x hx k (by omega) hs m h
  hI := fun k a m ha hk hg => by
    subst ha
    have h : ¬ (k : Int) = x.s := by simpa [goS] using hg
    simp only [nxS, h, if_false]
theorem run_stop {t : Nat} (ht : (t : Int) = x.s) : ∀ {ms : List Mg} {j : Nat} {m : Mg}, j ≤ t → ms[t - j]? = some m → runC (goS x) (nxS x) (none, j) ms = ((some m, t), false)
  | [], j, m, _, h => by simp at h
  | y :: ms, j, m, hj, h => by
    by_cases e : j = t
    · subst e
      rw [Nat.sub_self] at h
      simp at h
      subst h
      have hg : goS x (none, j) y = false := by simp [goS, ht]
      simp only [runC, hg, Bool.false_eq_true, if_false, nxS, ht, if_true]
    · have hne : ¬ (j : Int) = x.s := by omega
      have hg : goS x (none, j) y = true := by simp [goS, hne]
      simp only [runC, hg, if_true, nxS, hne, if_false]
      refine run_stop ht (j := j + 1) (by omega) ?_
      rw [show t - j = (t - (j + 1)) + 1 by omega] at h
      simpa using h
/-- The next message is handed on. -/
theorem w12d (q q2 : Bool) (e : List En) (hl : l.length < 1000000) (hb : ∀ x ∈ l, x.b.length < 1000000) (hc : ∀ x ∈ l, ∀ c ∈ x.b, c < 256) (he : e.length < 1000000) (hout : outB nx l e = true) (hi : idxO l 0 = i) (hx : l[i]? = some x) (t : Nat) (ht : (t : Int) = x.s) (m : Mg) (hm : (msgs x)[t]? = some m) :
    EF pg 12 [.agg [vu nx, lst .ro 6 q (l.map Og.D), lst .ro 2 q2 (e.map En.D)]] B = some (.tup [.agg [vu nx, .sl .ro 6 ((l.set i { x with s := x.s + 1 }).map Og.D), lst .ro 2 q2 (e.map En.D)], vi x.d, m.D, vb true], B) := by
  rw [EF_call p12 rfl (by simp [F12]) (by simp (maxSteps := 1000000) +contextual -implicitDefEqProofs only [go_sem, R_c, G_c, D_c, DG_c, G_cf, G_cv, D_cf, DG_cf, E_c, E_cf, E_a, D_ap, D_mm, D_al, D_ldm, E_ap, E_mm, Nat.reduceEqDiff, Nat.reduceAdd, Nat.reduceLeDiff, Nat.reduceSub, Nat.reduceLT, Nat.reduceMul, Int.reduceToNat, Int.reduceEq, ↓reduceIte, reduceCtorEq, Bool.false_and, Bool.and_false, Bool.false_eq_true, Bool.true_or, Bool.or_true, Bool.false_or, Bool.or_false, Nat.reduceBEq, Int.reduceBEq, Int.reduceBNe, Int.reduceLT, Int.reduceLE, Int.reduceMul, Int.reduceAdd, Int.toNat_natCast, List.isEmpty_map, ])]
  have hlt := (List.getElem?_eq_some_iff.1 hx).1
  have hxm := List.mem_of_getElem? hx
  have hxb := hb x hxm
  have htl := getq_lt hm
  rw [msgs_len] at htl
  simp only [nData] at htl
  have hs : 0 ≤ x.s ∧ x.s ≤ 1000000 := by omega
  have h20 := fun B => w20 nx l q q2 B e hl hb he
  rw [hout] at h20
  have h33 := fun B => w33 nx l hl (fun x hx => by have := hb x hx; omega) q q2 (e.map En.D) (by simpa using he) B
  have hmu : ∀ m z, lst m z true (l.map Og.D) = .sl m z (l.map Og.D) := fun m z => lst_ne (by cases l with | nil => simp at hlt | cons y r => rfl)
  rw [hmu] at h33
  have h34 := w34 l hl hb B.length (B ++ [L12 nx B.length l.length (lst .app 2 q2 (e.map En.D)) (cellsO l)]) (by simp) (by simp [L12, lk])
  rw [hi] at h34
  simp only [L12] at h34
  have hall := cellsO_all l
  have hcs : (l.map Og.D).flatMap D.cells = cellsO l := rfl
  have hlen : i * 6 + 6 ≤ (cellsO l).length := by rw [cellsO_len]; omega
  have hat := cellsO_at hx
  have hd : decide ((i : Int) < 0) = false := decide_eq_false (by omega)
  have hia : ∀ k : IntKind, iaO 6 (.ref B.length 500101 0 l.length 6) (.v (.int k (i : Int))) = some (.ptr B.length 500101 (0 + i * 6)) := fun k => ia_r hlt
  simp (maxSteps := 1000000) +contextual -implicitDefEqProofs only [go_sem, R_c, G_c, D_c, DG_c, G_cf, G_cv, D_cf, DG_cf, E_c, E_cf, E_a, D_ap, D_mm, D_al, D_ldm, E_ap, E_mm, Nat.reduceEqDiff, Nat.reduceAdd, Nat.reduceLeDiff, Nat.reduceSub, Nat.reduceLT, Nat.reduceMul, Int.reduceToNat, Int.reduceEq, ↓reduceIte, reduceCtorEq, Bool.false_and, Bool.and_false, Bool.false_eq_true, Bool.true_or, Bool.or_true, Bool.false_or, Bool.or_false, Nat.reduceBEq, Int.reduceBEq, Int.reduceBNe, Int.reduceLT, Int.reduceLE, Int.reduceMul, Int.reduceAdd, Int.toNat_natCast, List.isEmpty_map, F12, c12, h20, h33, h34, G_th, G_fz, hall, hcs, hlen, hat, hd, hia, Option.isNone_none, w30]
  have h53 := w53 (ylS nx l (lst .app 2 q2 (e.map En.D)) B i x (msgs x).length (by rw [msgs_len]; simp only [nData]; omega) hx hs (by simp (maxSteps := 1000000) +contextual -implicitDefEqProofs only [go_sem, R_c, G_c, D_c, DG_c, G_cf, G_cv, D_cf, DG_cf, E_c, E_cf, E_a, D_ap, D_mm, D_al, D_ldm, E_ap, E_mm, Nat.reduceEqDiff, Nat.reduceAdd, Nat.reduceLeDiff, Nat.reduceSub, Nat.reduceLT, Nat.reduceMul, Int.reduceToNat, Int.reduceEq, ↓reduceIte, reduceCtorEq, Bool.false_and, Bool.and_false, Bool.false_eq_true, Bool.true_or, Bool.or_true, Bool.false_or, Bool.or_false, Nat.reduceBEq, Int.reduceBEq, Int.reduceBNe, Int.reduceLT, Int.reduceLE, Int.reduceMul, Int.reduceAdd, Int.toNat_natCast, List.isEmpty_map, ]) (fun k => by simp (maxSteps := 1000000) +contextual -implicitDefEqProofs only [go_sem, R_c, G_c, D_c, DG_c, G_cf, G_cv, D_cf, DG_cf, E_c, E_cf, E_a, D_ap, D_mm, D_al, D_ldm, E_ap, E_mm, Nat.reduceEqDiff, Nat.reduceAdd, Nat.reduceLeDiff, Nat.reduceSub, Nat.reduceLT, Nat.reduceMul, Int.reduceToNat, Int.reduceEq, ↓reduceIte, reduceCtorEq, Bool.false_and, Bool.and_false, Bool.false_eq_true, Bool.true_or, Bool.or_true, Bool.false_or, Bool.or_false, Nat.reduceBEq, Int.reduceBEq, Int.reduceBNe, Int.reduceLT, Int.reduceLE, Int.reduceMul, Int.reduceAdd, Int.toNat_natCast, List.isEmpty_map, ])) hxb (hc x hxm) (none, 0) rfl
  rw [run_stop x ht (by omega) (by simpa using hm)] at h53
  have h53' : EF pg 53 [.yld B.length 1000000, .fptr [vu x.n, vi x.d, vs x.nm, lst .ro 1 x.q (x.b.map un), vi x.s, vi x.u] 0] (B ++ [L12r nx B.length l.length i (lst .app 2 q2 (e.map En.D)) (cellsO l) 0 [vu 0, .sl .nl 0 [], .sl .nl 0 []] (vi 0) z4 (vb false) 0 0]) = some (.tup [], B ++ [L12r nx B.length l.length i (lst .app 2 q2 (e.map En.D)) (cellsO (l.set i { x with s := x.s + 1 })) t [vu nx, .ref B.length 500101 0 l.length 6, (lst .app 2 q2 (e.map En.D)).strip1] (vi x.d) m.c (vb true) 2 1]) := h53
  rw [s1_lap] at h53'
  clear h53
  have hrf := cellsO_rf (l.set i { x with s := x.s + 1 })
  have hch := chunksO (l.set i { x with s := x.s + 1 })
  have hlen2 : l.length * 6 ≤ (cellsO (l.set i { x with s := x.s + 1 })).length := by rw [cellsO_len, List.length_set]; omega
  rw [List.length_set] at hch
  generalize l.set i { x with s := x.s + 1 } = l' at hrf hch hlen2 h53' ⊢
  rw [rf_run (fn := 53) (caps0 := [.fptr [vu x.n, vi x.d, vs x.nm, lst .ro 1 x.q (x.b.map un), vi x.s, vi x.u] 0]) (d := .tup []) (o' := B) (l' := L12r nx B.length l.length i (lst .app 2 q2 (e.map En.D)) (cellsO l') t [vu nx, .ref B.length 500101 0 l.length 6, lst .ro 2 q2 (e.map En.D)] (vi x.d) m.c (vb true) 2 1) (st := 2) (jm := 1) (rid2 := 1012000) (ks2 := [1, 2, 3, 4, 5, 7, 8]) (caps2 := [.ptr B.length 1 0, .ptr B.length 2 0, .ptr B.length 3 0, .ptr B.length 4 0, .ptr B.length 5 0, .ptr B.length 7 0, .ptr B.length 8 0])]
  · simp (maxSteps := 1000000) +contextual -implicitDefEqProofs only [go_sem, R_c, G_c, D_c, DG_c, G_cf, G_cv, D_cf, DG_cf, E_c, E_cf, E_a, D_ap, D_mm, D_al, D_ldm, E_ap, E_mm, Nat.reduceEqDiff, Nat.reduceAdd, Nat.reduceLeDiff, Nat.reduceSub, Nat.reduceLT, Nat.reduceMul, Int.reduceToNat, Int.reduceEq, ↓reduceIte, reduceCtorEq, Bool.false_and, Bool.and_false, Bool.false_eq_true, Bool.true_or, Bool.or_true, Bool.false_or, Bool.or_false, Nat.reduceBEq, Int.reduceBEq, Int.reduceBNe, Int.reduceLT, Int.reduceLE, Int.reduceMul, Int.reduceAdd, Int.toNat_natCast, List.isEmpty_map, L12r, exOf, hrf, hch, hlen2, Mg.c]
    rfl
  · rfl
  · rfl
  · show ([.ptr B.length 1 0, .ptr B.length 2 0, .ptr B.length 3 0, .ptr B.length 4 0, .ptr B.length 5 0, .ptr B.length 7 0, .ptr B.length 8 0] : List D).all (D.cap (B.length + 1)) = true
    simp [D.cap, D.aggB, D.tupB, D.bnd1]
  · exact h53'
  · rfl
  · simp
end
end Go.Proofs.Ytlhjdikklmkihaa.Ev
