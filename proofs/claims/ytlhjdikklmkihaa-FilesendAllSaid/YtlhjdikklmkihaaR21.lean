/- A sending's messages may be. Conditions: sendings that may be begun. -/
import Derived.Test.YtlhjdikklmkihaaD21
set_option linter.all false
namespace Go.Proofs.Ytlhjdikklmkihaa.Ev
open Go
def fldN (k : Int) : Int := if k = 1 then 3 else if k = 2 then 36 else 10
theorem w47 (k : Int) (h : k = 1 ∨ k = 2 ∨ k = 3) (B : List Bx) : EF pg 47 [vi k] B = some (vi (fldN k), B) := by
  rw [EF_call p47 rfl (by simp [F47]) (by simp (maxSteps := 1000000) +contextual -implicitDefEqProofs only [go_sem, R_c, G_c, D_c, DG_c, G_cf, G_cv, D_cf, DG_cf, E_c, E_cf, E_a, D_ap, D_mm, D_al, D_ldm, E_ap, E_mm, Nat.reduceEqDiff, Nat.reduceAdd, Nat.reduceLeDiff, Nat.reduceSub, Nat.reduceLT, Nat.reduceMul, Int.reduceToNat, Int.reduceEq, ↓reduceIte, reduceCtorEq, Bool.false_and, Bool.and_false, Bool.false_eq_true, Bool.true_or, Bool.or_true, Bool.false_or, Bool.or_false, Nat.reduceBEq, Int.reduceBEq, Int.reduceBNe, Int.reduceLT, Int.reduceLE, Int.reduceMul, Int.reduceAdd, Int.toNat_natCast, List.isEmpty_map, ])]
  rcases h with rfl | rfl | rfl
  · simp (maxSteps := 1000000) +contextual -implicitDefEqProofs only [go_sem, R_c, G_c, D_c, DG_c, G_cf, G_cv, D_cf, DG_cf, E_c, E_cf, E_a, D_ap, D_mm, D_al, D_ldm, E_ap, E_mm, Nat.reduceEqDiff, Nat.reduceAdd, Nat.reduceLeDiff, Nat.reduceSub, Nat.reduceLT, Nat.reduceMul, Int.reduceToNat, Int.reduceEq, ↓reduceIte, reduceCtorEq, Bool.false_and, Bool.and_false, Bool.false_eq_true, Bool.true_or, Bool.or_true, Bool.false_or, Bool.or_false, Nat.reduceBEq, Int.reduceBEq, Int.reduceBNe, Int.reduceLT, Int.reduceLE, Int.reduceMul, Int.reduceAdd, Int.toNat_natCast, List.isEmpty_map, F47, c47]; rfl
  · simp (maxSteps := 1000000) +contextual -implicitDefEqProofs only [go_sem, R_c, G_c, D_c, DG_c, G_cf, G_cv, D_cf, DG_cf, E_c, E_cf, E_a, D_ap, D_mm, D_al, D_ldm, E_ap, E_mm, Nat.reduceEqDiff, Nat.reduceAdd, Nat.reduceLeDiff, Nat.reduceSub, Nat.reduceLT, Nat.reduceMul, Int.reduceToNat, Int.reduceEq, ↓reduceIte, reduceCtorEq, Bool.false_and, Bool.and_false, Bool.false_eq_true, Bool.true_or, Bool.or_true, Bool.false_or, Bool.or_false, Nat.reduceBEq, Int.reduceBEq, Int.reduceBNe, Int.reduceLT, Int.reduceLE, Int.reduceMul, Int.reduceAdd, Int.toNat_natCast, List.isEmpty_map, F47, c47]; rfl
  · simp (maxSteps := 1000000) +contextual -implicitDefEqProofs only [go_sem, R_c, G_c, D_c, DG_c, G_cf, G_cv, D_cf, DG_cf, E_c, E_cf, E_a, D_ap, D_mm, D_al, D_ldm, E_ap, E_mm, Nat.reduceEqDiff, Nat.reduceAdd, Nat.reduceLeDiff, Nat.reduceSub, Nat.reduceLT, Nat.reduceMul, Int.reduceToNat, Int.reduceEq, ↓reduceIte, reduceCtorEq, Bool.false_and, Bool.and_false, Bool.false_eq_true, Bool.true_or, Bool.or_true, Bool.false_or, Bool.or_false, Nat.reduceBEq, Int.reduceBEq, Int.reduceBNe, Int.reduceLT, Int.reduceLE, Int.reduceMul, Int.reduceAdd, Int.toNat_natCast, List.isEmpty_map, F47, c47]; rfl
theorem w49 (f g r : Int) (h : bz .and .i64 f g = some (.int .i64 r)) (B : List Bx) : EF pg 49 [vi f, vi g] B = some (vb (r != 0), B) := by
  rw [EF_call p49 rfl (by simp [F49]) (by simp (maxSteps := 1000000) +contextual -implicitDefEqProofs only [go_sem, R_c, G_c, D_c, DG_c, G_cf, G_cv, D_cf, DG_cf, E_c, E_cf, E_a, D_ap, D_mm, D_al, D_ldm, E_ap, E_mm, Nat.reduceEqDiff, Nat.reduceAdd, Nat.reduceLeDiff, Nat.reduceSub, Nat.reduceLT, Nat.reduceMul, Int.reduceToNat, Int.reduceEq, ↓reduceIte, reduceCtorEq, Bool.false_and, Bool.and_false, Bool.false_eq_true, Bool.true_or, Bool.or_true, Bool.false_or, Bool.or_false, Nat.reduceBEq, Int.reduceBEq, Int.reduceBNe, Int.reduceLT, Int.reduceLE, Int.reduceMul, Int.reduceAdd, Int.toNat_natCast, List.isEmpty_map, ])]
  simp (maxSteps := 1000000) +contextual -implicitDefEqProofs only [go_sem, R_c, G_c, D_c, DG_c, G_cf, G_cv, D_cf, DG_cf, E_c, E_cf, E_a, D_ap, D_mm, D_al, D_ldm, E_ap, E_mm, Nat.reduceEqDiff, Nat.reduceAdd, Nat.reduceLeDiff, Nat.reduceSub, Nat.reduceLT, Nat.reduceMul, Int.reduceToNat, Int.reduceEq, ↓reduceIte, reduceCtorEq, Bool.false_and, Bool.and_false, Bool.false_eq_true, Bool.true_or, Bool.or_true, Bool.false_or, Bool.or_false, Nat.reduceBEq, Int.reduceBEq, Int.reduceBNe, Int.reduceLT, Int.reduceLE, Int.reduceMul, Int.reduceAdd, Int.toNat_natCast, List.isEmpty_map, F49, c49, h]
theorem w48 (B : List Bx) (c1 : List D) (f g r : Int) (h : bz .and .i64 f g = some (.int .i64 r)) (z ok : Bool) : EF pg 48 [vi g, vb z, .ptr B.length 4 0, .ptr B.length 3 0] (B ++ [[(1, c1), (3, [vi f]), (4, [vb ok])]]) = some (.tup [], B ++ [[(1, c1), (3, [vi f]), (4, [vb (ok && (r != 0 || z))])]]) := by
  have h49 := fun B => w49 f g r h B
  rw [EF_call p48 rfl (by simp [F48]) (by simp (maxSteps := 1000000) +contextual -implicitDefEqProofs only [go_sem, R_c, G_c, D_c, DG_c, G_cf, G_cv, D_cf, DG_cf, E_c, E_cf, E_a, D_ap, D_mm, D_al, D_ldm, E_ap, E_mm, Nat.reduceEqDiff, Nat.reduceAdd, Nat.reduceLeDiff, Nat.reduceSub, Nat.reduceLT, Nat.reduceMul, Int.reduceToNat, Int.reduceEq, ↓reduceIte, reduceCtorEq, Bool.false_and, Bool.and_false, Bool.false_eq_true, Bool.true_or, Bool.or_true, Bool.false_or, Bool.or_false, Nat.reduceBEq, Int.reduceBEq, Int.reduceBNe, Int.reduceLT, Int.reduceLE, Int.reduceMul, Int.reduceAdd, Int.toNat_natCast, List.isEmpty_map, ])]
  cases ok with
  | false => simp (maxSteps := 1000000) +contextual -implicitDefEqProofs only [go_sem, R_c, G_c, D_c, DG_c, G_cf, G_cv, D_cf, DG_cf, E_c, E_cf, E_a, D_ap, D_mm, D_al, D_ldm, E_ap, E_mm, Nat.reduceEqDiff, Nat.reduceAdd, Nat.reduceLeDiff, Nat.reduceSub, Nat.reduceLT, Nat.reduceMul, Int.reduceToNat, Int.reduceEq, ↓reduceIte, reduceCtorEq, Bool.false_and, Bool.and_false, Bool.false_eq_true, Bool.true_or, Bool.or_true, Bool.false_or, Bool.or_false, Nat.reduceBEq, Int.reduceBEq, Int.reduceBNe, Int.reduceLT, Int.reduceLE, Int.reduceMul, Int.reduceAdd, Int.toNat_natCast, List.isEmpty_map, F48, c48, h49]
  | true =>
    cases hr : (r != 0) with
    | true => simp (maxSteps := 1000000) +contextual -implicitDefEqProofs only [go_sem, R_c, G_c, D_c, DG_c, G_cf, G_cv, D_cf, DG_cf, E_c, E_cf, E_a, D_ap, D_mm, D_al, D_ldm, E_ap, E_mm, Nat.reduceEqDiff, Nat.reduceAdd, Nat.reduceLeDiff, Nat.reduceSub, Nat.reduceLT, Nat.reduceMul, Int.reduceToNat, Int.reduceEq, ↓reduceIte, reduceCtorEq, Bool.false_and, Bool.and_false, Bool.false_eq_true, Bool.true_or, Bool.or_true, Bool.false_or, Bool.or_false, Nat.reduceBEq, Int.reduceBEq, Int.reduceBNe, Int.reduceLT, Int.reduceLE, Int.reduceMul, Int.reduceAdd, Int.toNat_natCast, List.isEmpty_map, F48, c48, h49, hr]
    | false =>
      cases z with
      | true => simp (maxSteps := 1000000) +contextual -implicitDefEqProofs only [go_sem, R_c, G_c, D_c, DG_c, G_cf, G_cv, D_cf, DG_cf, E_c, E_cf, E_a, D_ap, D_mm, D_al, D_ldm, E_ap, E_mm, Nat.reduceEqDiff, Nat.reduceAdd, Nat.reduceLeDiff, Nat.reduceSub, Nat.reduceLT, Nat.reduceMul, Int.reduceToNat, Int.reduceEq, ↓reduceIte, reduceCtorEq, Bool.false_and, Bool.and_false, Bool.false_eq_true, Bool.true_or, Bool.or_true, Bool.false_or, Bool.or_false, Nat.reduceBEq, Int.reduceBEq, Int.reduceBNe, Int.reduceLT, Int.reduceLE, Int.reduceMul, Int.reduceAdd, Int.toNat_natCast, List.isEmpty_map, F48, c48, h49, hr]
      | false => simp (maxSteps := 1000000) +contextual -implicitDefEqProofs only [go_sem, R_c, G_c, D_c, DG_c, G_cf, G_cv, D_cf, DG_cf, E_c, E_cf, E_a, D_ap, D_mm, D_al, D_ldm, E_ap, E_mm, Nat.reduceEqDiff, Nat.reduceAdd, Nat.reduceLeDiff, Nat.reduceSub, Nat.reduceLT, Nat.reduceMul, Int.reduceToNat, Int.reduceEq, ↓reduceIte, reduceCtorEq, Bool.false_and, Bool.and_false, Bool.false_eq_true, Bool.true_or, Bool.or_true, Bool.false_or, Bool.or_false, Nat.reduceBEq, Int.reduceBEq, Int.reduceBNe, Int.reduceLT, Int.reduceLE, Int.reduceMul, Int.reduceAdd, Int.toNat_natCast, List.isEmpty_map, F48, c48, h49, hr]
theorem an11 : bz .and .i64 3 1 = some (.int .i64 1) := by rfl
theorem an12 : bz .and .i64 3 2 = some (.int .i64 2) := by rfl
theorem an14 : bz .and .i64 3 4 = some (.int .i64 0) := by rfl
theorem an18 : bz .and .i64 3 8 = some (.int .i64 0) := by rfl
theorem an116 : bz .and .i64 3 16 = some (.int .i64 0) := by rfl
theorem an132 : bz .and .i64 3 32 = some (.int .i64 0) := by rfl
theorem an21 : bz .and .i64 36 1 = some (.int .i64 0) := by rfl
theorem an22 : bz .and .i64 36 2 = some (.int .i64 0) := by rfl
theorem an24 : bz .and .i64 36 4 = some (.int .i64 4) := by rfl
theorem an28 : bz .and .i64 36 8 = some (.int .i64 0) := by rfl
theorem an216 : bz .and .i64 36 16 = some (.int .i64 0) := by rfl
theorem an232 : bz .and .i64 36 32 = some (.int .i64 32) := by rfl
theorem an31 : bz .and .i64 10 1 = some (.int .i64 0) := by rfl
theorem an32 : bz .and .i64 10 2 = some (.int .i64 2) := by rfl
theorem an34 : bz .and .i64 10 4 = some (.int .i64 0) := by rfl
theorem an38 : bz .and .i64 10 8 = some (.int .i64 8) := by rfl
theorem an316 : bz .and .i64 10 16 = some (.int .i64 0) := by rfl
theorem an332 : bz .and .i64 10 32 = some (.int .i64 0) := by rfl
theorem w25m (x : Og) (hn : 0 < x.n) (h1 : nmB x.nm = true) (h2 : x.b.length ≤ 2048) (B : List Bx) : EF pg 25 [(mMeta x).D] B = some (vi 0, B) := by
  have h47 := fun B => w47 1 (by omega) B
  have e : fldN 1 = 3 := rfl
  rw [e] at h47
  have k1 := fun B c1 z ok => w48 B c1 3 1 1 an11 z ok
  have k2 := fun B c1 z ok => w48 B c1 3 2 2 an12 z ok
  have k4 := fun B c1 z ok => w48 B c1 3 4 0 an14 z ok
  have k8 := fun B c1 z ok => w48 B c1 3 8 0 an18 z ok
  have k16 := fun B c1 z ok => w48 B c1 3 16 0 an116 z ok
  have k32 := fun B c1 z ok => w48 B c1 3 32 0 an132 z ok
  have h49 := fun B => w49 3 1 1 an11 B
  have hb0 : decide ((x.b.length : Int) ≥ 0) = true := decide_eq_true (by omega)
  have hb1 : decide ((x.b.length : Int) ≤ 4096) = true := decide_eq_true (by omega)
  have hn0 : decide (x.n > 0) = true := decide_eq_true (by omega)
  simp only [nmB, inR, Bool.and_eq_true] at h1
  have n0 : ((0 : Nat) : Int) = 0 := rfl
  rw [mMeta_D]
  rw [EF_call p25 rfl (by simp [F25]) (by simp (maxSteps := 1000000) +contextual -implicitDefEqProofs only [go_sem, R_c, G_c, D_c, DG_c, G_cf, G_cv, D_cf, DG_cf, E_c, E_cf, E_a, D_ap, D_mm, D_al, D_ldm, E_ap, E_mm, Nat.reduceEqDiff, Nat.reduceAdd, Nat.reduceLeDiff, Nat.reduceSub, Nat.reduceLT, Nat.reduceMul, Int.reduceToNat, Int.reduceEq, ↓reduceIte, reduceCtorEq, Bool.false_and, Bool.and_false, Bool.false_eq_true, Bool.true_or, Bool.or_true, Bool.false_or, Bool.or_false, Nat.reduceBEq, Int.reduceBEq, Int.reduceBNe, Int.reduceLT, Int.reduceLE, Int.reduceMul, Int.reduceAdd, Int.toNat_natCast, List.isEmpty_map, ])]
  simp (maxSteps := 1000000) +contextual -implicitDefEqProofs only [go_sem, R_c, G_c, D_c, DG_c, G_cf, G_cv, D_cf, DG_cf, E_c, E_cf, E_a, D_ap, D_mm, D_al, D_ldm, E_ap, E_mm, Nat.reduceEqDiff, Nat.reduceAdd, Nat.reduceLeDiff, Nat.reduceSub, Nat.reduceLT, Nat.reduceMul, Int.reduceToNat, Int.reduceEq, ↓reduceIte, reduceCtorEq, Bool.false_and, Bool.and_false, Bool.false_eq_true, Bool.true_or, Bool.or_true, Bool.false_or, Bool.or_false, Nat.reduceBEq, Int.reduceBEq, Int.reduceBNe, Int.reduceLT, Int.reduceLE, Int.reduceMul, Int.reduceAdd, Int.toNat_natCast, List.isEmpty_map, F25, c25, h47, k1, k2, k4, k8, k16, k32, h49, hb0, hb1, hn0, h1.1, h1.2, n0, Bool.bne_false, Int.reduceGE, decide_true]
theorem w25e (x : Og) (hn : 0 < x.n) (h2 : x.b.length ≤ 2048) (B : List Bx) : EF pg 25 [(mEnd x).D] B = some (vi 0, B) := by
  have h47 := fun B => w47 3 (by omega) B
  have e : fldN 3 = 10 := rfl
  rw [e] at h47
  have k1 := fun B c1 z ok => w48 B c1 10 1 0 an31 z ok
  have k2 := fun B c1 z ok => w48 B c1 10 2 2 an32 z ok
  have k4 := fun B c1 z ok => w48 B c1 10 4 0 an34 z ok
  have k8 := fun B c1 z ok => w48 B c1 10 8 8 an38 z ok
  have k16 := fun B c1 z ok => w48 B c1 10 16 0 an316 z ok
  have k32 := fun B c1 z ok => w48 B c1 10 32 0 an332 z ok
  have h49 := fun B => w49 10 1 0 an31 B
  have hb0 : decide ((x.b.length : Int) ≥ 0) = true := decide_eq_true (by omega)
  have hb1 : decide ((x.b.length : Int) ≤ 4096) = true := decide_eq_true (by omega)
  have hn0 : decide (x.n > 0) = true := decide_eq_true (by omega)
  have n0 : ((0 : Nat) : Int) = 0 := rfl
  rw [mEnd_D]
  rw [EF_call p25 rfl (by simp [F25]) (by simp (maxSteps := 1000000) +contextual -implicitDefEqProofs only [go_sem, R_c, G_c, D_c, DG_c, G_cf, G_cv, D_cf, DG_cf, E_c, E_cf, E_a, D_ap, D_mm, D_al, D_ldm, E_ap, E_mm, Nat.reduceEqDiff, Nat.reduceAdd, Nat.reduceLeDiff, Nat.reduceSub, Nat.reduceLT, Nat.reduceMul, Int.reduceToNat, Int.reduceEq, ↓reduceIte, reduceCtorEq, Bool.false_and, Bool.and_false, Bool.false_eq_true, Bool.true_or, Bool.or_true, Bool.false_or, Bool.or_false, Nat.reduceBEq, Int.reduceBEq, Int.reduceBNe, Int.reduceLT, Int.reduceLE, Int.reduceMul, Int.reduceAdd, Int.toNat_natCast, List.isEmpty_map, ])]
  simp (maxSteps := 1000000) +contextual -implicitDefEqProofs only [go_sem, R_c, G_c, D_c, DG_c, G_cf, G_cv, D_cf, DG_cf, E_c, E_cf, E_a, D_ap, D_mm, D_al, D_ldm, E_ap, E_mm, Nat.reduceEqDiff, Nat.reduceAdd, Nat.reduceLeDiff, Nat.reduceSub, Nat.reduceLT, Nat.reduceMul, Int.reduceToNat, Int.reduceEq, ↓reduceIte, reduceCtorEq, Bool.false_and, Bool.and_false, Bool.false_eq_true, Bool.true_or, Bool.or_true, Bool.false_or, Bool.or_false, Nat.reduceBEq, Int.reduceBEq, Int.reduceBNe, Int.reduceLT, Int.reduceLE, Int.reduceMul, Int.reduceAdd, Int.toNat_natCast, List.isEmpty_map, F25, c25, h47, k1, k2, k4, k8, k16, k32, h49, hb0, hb1, hn0, n0, Bool.bne_false, Int.reduceGE, decide_true]
theorem w25d (x : Og) (i : Nat) (hn : 0 < x.n) (h2 : x.b.length ≤ 2048) (hi : 256 * i < x.b.length) (B : List Bx) : EF pg 25 [(mData x i).D] B = some (vi 0, B) := by
  have h47 := fun B => w47 2 (by omega) B
  have e : fldN 2 = 36 := rfl
  rw [e] at h47
  have k1 := fun B c1 z ok => w48 B c1 36 1 0 an21 z ok
  have k2 := fun B c1 z ok => w48 B c1 36 2 0 an22 z ok
  have k4 := fun B c1 z ok => w48 B c1 36 4 4 an24 z ok
  have k8 := fun B c1 z ok => w48 B c1 36 8 0 an28 z ok
  have k16 := fun B c1 z ok => w48 B c1 36 16 0 an216 z ok
  have k32 := fun B c1 z ok => w48 B c1 36 32 32 an232 z ok
  have h49 := fun B => w49 36 1 0 an21 B
  have hn0 : decide (x.n > 0) = true := decide_eq_true (by omega)
  have n0 : ((0 : Nat) : Int) = 0 := rfl
  rw [mData_D]
  obtain ⟨n, hl⟩ : ∃ n, ((x.b.take (min (256 * i + 256) x.b.length)).drop (256 * i)).length = n := ⟨_, rfl⟩
  have hn1 : 1 ≤ n ∧ n ≤ 256 ∧ 256 * i + n ≤ 2048 := by rw [← hl]; simp; omega
  generalize (x.b.take (min (256 * i + 256) x.b.length)).drop (256 * i) = z at hl
  generalize 256 * i = o at hn1
  have b1 : decide ((n : Int) ≤ 256) = true := decide_eq_true (by omega)
  have b2 : decide ((n : Int) ≥ 1) = true := decide_eq_true (by omega)
  have b3 : decide ((o : Int) ≥ 0) = true := decide_eq_true (by omega)
  have b4 : IntKind.i64.wrap (4096 - (n : Int)) = 4096 - (n : Int) := wi64 (by omega)
  have b5 : decide ((o : Int) ≤ 4096 - (n : Int)) = true := decide_eq_true (by omega)
  rw [EF_call p25 rfl (by simp [F25]) (by simp (maxSteps := 1000000) +contextual -implicitDefEqProofs only [go_sem, R_c, G_c, D_c, DG_c, G_cf, G_cv, D_cf, DG_cf, E_c, E_cf, E_a, D_ap, D_mm, D_al, D_ldm, E_ap, E_mm, Nat.reduceEqDiff, Nat.reduceAdd, Nat.reduceLeDiff, Nat.reduceSub, Nat.reduceLT, Nat.reduceMul, Int.reduceToNat, Int.reduceEq, ↓reduceIte, reduceCtorEq, Bool.false_and, Bool.and_false, Bool.false_eq_true, Bool.true_or, Bool.or_true, Bool.false_or, Bool.or_false, Nat.reduceBEq, Int.reduceBEq, Int.reduceBNe, Int.reduceLT, Int.reduceLE, Int.reduceMul, Int.reduceAdd, Int.toNat_natCast, List.isEmpty_map, ])]
  simp (maxSteps := 1000000) +contextual -implicitDefEqProofs only [go_sem, R_c, G_c, D_c, DG_c, G_cf, G_cv, D_cf, DG_cf, E_c, E_cf, E_a, D_ap, D_mm, D_al, D_ldm, E_ap, E_mm, Nat.reduceEqDiff, Nat.reduceAdd, Nat.reduceLeDiff, Nat.reduceSub, Nat.reduceLT, Nat.reduceMul, Int.reduceToNat, Int.reduceEq, ↓reduceIte, reduceCtorEq, Bool.false_and, Bool.and_false, Bool.false_eq_true, Bool.true_or, Bool.or_true, Bool.false_or, Bool.or_false, Nat.reduceBEq, Int.reduceBEq, Int.reduceBNe, Int.reduceLT, Int.reduceLE, Int.reduceMul, Int.reduceAdd, Int.toNat_natCast, List.isEmpty_map, F25, c25, h47, k1, k2, k4, k8, k16, k32, h49, hn0, n0, Bool.bne_false, Int.reduceGE, decide_true, List.length_map, hl, b1, b2, b3, b4, b5]
end Go.Proofs.Ytlhjdikklmkihaa.Ev
