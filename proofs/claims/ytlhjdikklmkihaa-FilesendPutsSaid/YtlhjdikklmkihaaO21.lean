/- The law FilesendPuts at the evaluator. Conditions: none. -/
import Derived.Test.YtlhjdikklmkihaaN21
import Derived.Test.YtlhjdikklmkihaaL21
set_option linter.all false
namespace Go.Proofs.Ytlhjdikklmkihaa.Ev
open Go
theorem w4 (B : List Bx) (nx : Int) (l : List Og) (e : List En) (q q2 : Bool) (x : Og) (h0 : 0 ≤ nx ∧ nx < 4294967296) (hn : ∀ y ∈ l, 0 ≤ y.n) (hc : ∀ y ∈ l, ∀ c ∈ y.b, c < 256) (hne : ∀ y ∈ e, 0 ≤ y.n) (hxc : ∀ c ∈ x.b, c < 256) :
    EF pg 4 [.agg [vu nx, lst .ro 6 q (l.map Og.D), lst .ro 2 q2 (e.map En.D)], .agg [vu x.n, vi x.d, vs x.nm, lst .ro 1 x.q (x.b.map un), vi x.s, vi x.u]] B = some (vb true, B) := by
  rw [EF_call p4 rfl (by simp [F4]) (by simp (maxSteps := 1000000) +contextual -implicitDefEqProofs only [go_sem, R_c, G_c, D_c, DG_c, G_cf, G_cv, D_cf, DG_cf, E_c, E_cf, E_a, D_ap, D_mm, D_al, D_ldm, E_ap, E_mm, Nat.reduceEqDiff, Nat.reduceAdd, Nat.reduceLeDiff, Nat.reduceSub, Nat.reduceLT, Nat.reduceMul, Int.reduceToNat, Int.reduceEq, ↓reduceIte, reduceCtorEq, Bool.false_and, Bool.and_false, Bool.false_eq_true, Bool.true_or, Bool.or_true, Bool.false_or, Bool.or_false, Nat.reduceBEq, Int.reduceBEq, Int.reduceBNe, Int.reduceLT, Int.reduceLE, Int.reduceMul, Int.reduceAdd, Int.toNat_natCast, List.isEmpty_map, ])]
  have h7 := fun B => w7 B
  have h8 := fun B => w8 B nx l (e.map En.D) q q2 x
  simp only [List.length_map] at h8
  cases hlg : largeB l e.length x with
  | true =>
    rw [hlg] at h8
    simp (maxSteps := 1000000) +contextual -implicitDefEqProofs only [go_sem, R_c, G_c, D_c, DG_c, G_cf, G_cv, D_cf, DG_cf, E_c, E_cf, E_a, D_ap, D_mm, D_al, D_ldm, E_ap, E_mm, Nat.reduceEqDiff, Nat.reduceAdd, Nat.reduceLeDiff, Nat.reduceSub, Nat.reduceLT, Nat.reduceMul, Int.reduceToNat, Int.reduceEq, ↓reduceIte, reduceCtorEq, Bool.false_and, Bool.and_false, Bool.false_eq_true, Bool.true_or, Bool.or_true, Bool.false_or, Bool.or_false, Nat.reduceBEq, Int.reduceBEq, Int.reduceBNe, Int.reduceLT, Int.reduceLE, Int.reduceMul, Int.reduceAdd, Int.toNat_natCast, List.isEmpty_map, F4, c4, h7, h8]
  | false =>
  rw [hlg] at h8
  obtain ⟨hl, he, hb, hxb⟩ := large_no hlg
  have hb' : ∀ y ∈ l, y.b.length < 1000000 := fun y hy => by have := hb y hy; omega
  have hbC : ∀ y ∈ l.map Og.cp, y.b.length < 1000000 := fun y hy => by
    obtain ⟨z, hz, rfl⟩ := List.mem_map.1 hy
    exact hb' z hz
  have hlC : (l.map Og.cp).length < 1000000 := by rw [List.length_map]; omega
  have h13 := fun B => w13 nx l (by omega) (fun y hy => by have := hb y hy; omega) q q2 (e.map En.D) (by rw [List.length_map]; omega) B
  have h14 := fun B => w14 nx l q q2 B e h0.1 (by omega) hb' hc hn (by omega) hne
  have h16 : qv (EF pg) 16 [] = some (.agg [vu 1, .sl .nl 0 [], .sl .nl 0 []]) := qv_of fun B => w16 B
  have h15n : qv (EF pg) 15 [.agg [vu 1, .sl .nl 0 [], .sl .nl 0 []], .agg [vu 1, .sl .nl 0 [], .sl .nl 0 []]] = some (vb true) := qv_of fun B => by
    have := w15 B 1 [] [] [] true true true true (by simp) (fun x hx => by cases hx) (by simp) rfl
    exact this
  have h13q : qv (EF pg) 13 [.agg [vu nx, lst .ro 6 q (l.map Og.D), lst .ro 2 q2 (e.map En.D)]] = some (.agg [vu nx, lst .mu 6 true ((l.map Og.cp).map Og.D), .sl .ro 2 (e.map En.D)]) := qv_of h13
  have h17 : qv (EF pg) 17 [.agg [vu nx, lst .ro 6 q (l.map Og.D), lst .ro 2 q2 (e.map En.D)], .agg [vu nx, lst .ro 6 true ((l.map Og.cp).map Og.D), .sl .ro 2 (e.map En.D)]] = some (vb true) := qv_of fun B => by
    have := w17 nx l (l.map Og.cp) e q true q2 false B (by omega) hb' (by omega) (cp_cp l).symm
    simp only [lst_f] at this
    exact this
  have h18 := q18 nx (l.map Og.cp) e true false x h0 hlC hbC (by omega) (by omega)
  have h20 := fun B => w20 nx (l.map Og.cp) true false B e hlC hbC (by omega)
  have h21 := fun B => w21 x.n x.d x.s x.u x.nm x.q (x.b.map un) B
  have h19 := fun a b B => w19 a b B
  rw [outB_cp] at h20
  unfold putR at h18
  rw [outB_cp] at h18
  simp only [lst_f, List.length_map] at h18 h20 h21
  cases c1 : outB nx l e with
  | false =>
    rw [c1] at h14 h18 h20
    simp only [reduceIte, Z3, Bool.false_eq_true] at h18 h19 h20
    simp (maxSteps := 1000000) +contextual -implicitDefEqProofs only [go_sem, R_c, G_c, D_c, DG_c, G_cf, G_cv, D_cf, DG_cf, E_c, E_cf, E_a, D_ap, D_mm, D_al, D_ldm, E_ap, E_mm, Nat.reduceEqDiff, Nat.reduceAdd, Nat.reduceLeDiff, Nat.reduceSub, Nat.reduceLT, Nat.reduceMul, Int.reduceToNat, Int.reduceEq, ↓reduceIte, reduceCtorEq, Bool.false_and, Bool.and_false, Bool.false_eq_true, Bool.true_or, Bool.or_true, Bool.false_or, Bool.or_false, Nat.reduceBEq, Int.reduceBEq, Int.reduceBNe, Int.reduceLT, Int.reduceLE, Int.reduceMul, Int.reduceAdd, Int.toNat_natCast, List.isEmpty_map, F4, c4, h7, h8, h16, h15n, h13q, h13, h17, h18, h14, h19, h20]
  | true =>
  rw [c1] at h14 h18 h20
  simp only [reduceIte, Bool.true_eq_false] at h18 h20
  cases c2 : begB x.d x.u x.nm x.b.length with
  | false =>
    rw [c2] at h18 h21
    simp only [reduceIte, Z3] at h18 h19
    simp (maxSteps := 1000000) +contextual -implicitDefEqProofs only [go_sem, R_c, G_c, D_c, DG_c, G_cf, G_cv, D_cf, DG_cf, E_c, E_cf, E_a, D_ap, D_mm, D_al, D_ldm, E_ap, E_mm, Nat.reduceEqDiff, Nat.reduceAdd, Nat.reduceLeDiff, Nat.reduceSub, Nat.reduceLT, Nat.reduceMul, Int.reduceToNat, Int.reduceEq, ↓reduceIte, reduceCtorEq, Bool.false_and, Bool.and_false, Bool.false_eq_true, Bool.true_or, Bool.or_true, Bool.false_or, Bool.or_false, Nat.reduceBEq, Int.reduceBEq, Int.reduceBNe, Int.reduceLT, Int.reduceLE, Int.reduceMul, Int.reduceAdd, Int.toNat_natCast, List.isEmpty_map, F4, c4, h7, h8, h16, h15n, h13q, h13, h17, h18, h14, h19, h20, h21]
  | true =>
  rw [c2] at h18 h21
  simp only [reduceIte, Bool.true_eq_false] at h18
  cases c3 : (decide (l.length = 4) || decide (nx = 4294967295)) with
  | true =>
    rw [c3] at h18
    simp only [reduceIte, Z3] at h18 h19
    cases c4a : ((l.length : Int) == 4) with
    | true => simp (maxSteps := 1000000) +contextual -implicitDefEqProofs only [go_sem, R_c, G_c, D_c, DG_c, G_cf, G_cv, D_cf, DG_cf, E_c, E_cf, E_a, D_ap, D_mm, D_al, D_ldm, E_ap, E_mm, Nat.reduceEqDiff, Nat.reduceAdd, Nat.reduceLeDiff, Nat.reduceSub, Nat.reduceLT, Nat.reduceMul, Int.reduceToNat, Int.reduceEq, ↓reduceIte, reduceCtorEq, Bool.false_and, Bool.and_false, Bool.false_eq_true, Bool.true_or, Bool.or_true, Bool.false_or, Bool.or_false, Nat.reduceBEq, Int.reduceBEq, Int.reduceBNe, Int.reduceLT, Int.reduceLE, Int.reduceMul, Int.reduceAdd, Int.toNat_natCast, List.isEmpty_map, F4, c4, h7, h8, h16, h15n, h13q, h13, h17, h18, h14, h19, h20, h21, c4a]
    | false =>
      have c4b : (nx == 4294967295) = true := by
        simp only [Bool.or_eq_true, decide_eq_true_eq] at c3
        simp at c4a ⊢
        omega
      simp (maxSteps := 1000000) +contextual -implicitDefEqProofs only [go_sem, R_c, G_c, D_c, DG_c, G_cf, G_cv, D_cf, DG_cf, E_c, E_cf, E_a, D_ap, D_mm, D_al, D_ldm, E_ap, E_mm, Nat.reduceEqDiff, Nat.reduceAdd, Nat.reduceLeDiff, Nat.reduceSub, Nat.reduceLT, Nat.reduceMul, Int.reduceToNat, Int.reduceEq, ↓reduceIte, reduceCtorEq, Bool.false_and, Bool.and_false, Bool.false_eq_true, Bool.true_or, Bool.or_true, Bool.false_or, Bool.or_false, Nat.reduceBEq, Int.reduceBEq, Int.reduceBNe, Int.reduceLT, Int.reduceLE, Int.reduceMul, Int.reduceAdd, Int.toNat_natCast, List.isEmpty_map, F4, c4, h7, h8, h16, h15n, h13q, h13, h17, h18, h14, h19, h20, h21, c4a, c4b]
  | false =>
    rw [c3] at h18
    simp only [Bool.or_eq_false_iff, decide_eq_false_iff_not] at c3
    simp only [reduceIte, Bool.false_eq_true] at h18
    have c4a : ((l.length : Int) == 4) = false := by simp; omega
    have c4b : (nx == 4294967295) = false := by simp; omega
    have hw : IntKind.u32.wrap (nx + 1) = nx + 1 := wu32 (by omega)
    have hle : (l.length + 1) * 72 ≤ 140737488355328 := by omega
    have hap : (l.map Og.cp).map Og.D ++ [.agg [vu nx, vi x.d, vs x.nm, lst .ro 1 x.q (x.b.map un), vi 0, vi x.u]] = (l.map Og.cp ++ [{ x with n := nx, s := 0 }]).map Og.D := by rw [List.map_append]; rfl
    have h15 : ∀ B, EF pg 15 [.agg [vu (nx + 1), .sl .ro 6 ((l.map Og.cp ++ [{ x with n := nx, s := 0 }]).map Og.D), .sl .ro 2 (e.map En.D)], .agg [vu (nx + 1), lst .ro 6 true ((l.map Og.cp).map Og.D ++ [.agg [vu nx, vi x.d, vs x.nm, lst .ro 1 x.q (x.b.map un), vi 0, vi x.u]]), .sl .ro 2 (e.map En.D)]] B = some (vb true, B) := fun B => by
      have := w15 B (nx + 1) (l.map Og.cp ++ [{ x with n := nx, s := 0 }]) (l.map Og.cp ++ [{ x with n := nx, s := 0 }]) e false true false false (by simp; omega) (fun y hy => by
        rcases List.mem_append.1 hy with hy | hy
        · exact hbC y hy
        · rw [List.mem_singleton.1 hy]; show x.b.length < _; omega) (by omega) rfl
      rw [hap]
      simp only [lst_f] at this
      exact this
    simp (maxSteps := 1000000) +contextual -implicitDefEqProofs only [go_sem, R_c, G_c, D_c, DG_c, G_cf, G_cv, D_cf, DG_cf, E_c, E_cf, E_a, D_ap, D_mm, D_al, D_ldm, E_ap, E_mm, Nat.reduceEqDiff, Nat.reduceAdd, Nat.reduceLeDiff, Nat.reduceSub, Nat.reduceLT, Nat.reduceMul, Int.reduceToNat, Int.reduceEq, ↓reduceIte, reduceCtorEq, Bool.false_and, Bool.and_false, Bool.false_eq_true, Bool.true_or, Bool.or_true, Bool.false_or, Bool.or_false, Nat.reduceBEq, Int.reduceBEq, Int.reduceBNe, Int.reduceLT, Int.reduceLE, Int.reduceMul, Int.reduceAdd, Int.toNat_natCast, List.isEmpty_map, F4, c4, h7, h8, h16, h15n, h13q, h13, h17, h18, h14, h19, h20, h21, c4a, c4b, hw, hle, h15]
end Go.Proofs.Ytlhjdikklmkihaa.Ev
