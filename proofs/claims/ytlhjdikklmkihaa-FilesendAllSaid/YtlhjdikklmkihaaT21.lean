/- The law FilesendAll at the evaluator: its loops. Conditions: none. -/
import Derived.Test.YtlhjdikklmkihaaS21
set_option linter.all false
namespace Go.Proofs.Ytlhjdikklmkihaa.Ev
open Go
def z0 (x : Og) : Og := { x with s := 0 }
section
variable (B : List Bx)
set_option maxHeartbeats 400000 in
/-- What is begun. -/
theorem l6a (l : List Og) (ql : Bool) (hc : ∀ x ∈ l, ∀ c ∈ x.b, c < 256) : ∀ (k i : Nat) (nx : Int) (G : List Og) {s : S} {r : Option (Ex × S)}, evC (EF pg) l6x0 s = r → s.o = B → i + k = l.length → i ≤ 5 →
    get 3 s.e = .ptr B.length 3 0 → get 4 s.e = lst .app 6 true (G.map Og.D) → get 25 s.e = lst .ro 6 ql (l.map Og.D) → get 26 s.e = vi l.length → get 27 s.e = vi i →
    lk 3 s.l = some [vu nx, lst .ro 6 true ((G.map z0).map Og.D), .sl .nl 0 []] → (0 ≤ nx ∧ nx < 4294967296) → outB nx (G.map z0) [] = true → (∀ x ∈ G, ∀ c ∈ x.b, c < 256) →
    ∃ (s' : S) (nx' : Int) (G' : List Og), r = some (.ex 0, s') ∧ s'.o = B ∧ get 3 s'.e = .ptr B.length 3 0 ∧ get 4 s'.e = lst .app 6 true (G'.map Og.D) ∧ lk 3 s'.l = some [vu nx', lst .ro 6 true ((G'.map z0).map Og.D), .sl .nl 0 []] ∧ outB nx' (G'.map z0) [] = true ∧ (∀ x ∈ G', ∀ c ∈ x.b, c < 256) := by
  intro k
  induction k with
  | zero =>
    intro i nx G s r hr ho hi i5 g3 g4 g25 g26 g27 k3 hnx hout hG
    have hd : decide ((i : Int) < (l.length : Int)) = false := decide_eq_false (by omega)
    rw [lp_n (L := l6x0) rfl] at hr
    simp (maxSteps := 1000000) +contextual -implicitDefEqProofs only [go_sem, R_c, G_c, D_c, DG_c, G_cf, G_cv, D_cf, DG_cf, E_c, E_cf, E_a, D_ap, D_mm, D_al, D_ldm, E_ap, E_mm, Nat.reduceEqDiff, Nat.reduceAdd, Nat.reduceLeDiff, Nat.reduceSub, Nat.reduceLT, Nat.reduceMul, Int.reduceToNat, Int.reduceEq, ↓reduceIte, reduceCtorEq, Bool.false_and, Bool.and_false, Bool.false_eq_true, Bool.true_or, Bool.or_true, Bool.false_or, Bool.or_false, Nat.reduceBEq, Int.reduceBEq, Int.reduceBNe, Int.reduceLT, Int.reduceLE, Int.reduceMul, Int.reduceAdd, Int.toNat_natCast, List.isEmpty_map, b6x0, g3, g4, g25, g26, g27, k3, ho, hd] at hr
    subst hr
    exact ⟨_, nx, G, rfl, rfl, rfl, rfl, rfl, hout, hG⟩
  | succ k ih =>
    intro i nx G s r hr ho hi i5 g3 g4 g25 g26 g27 k3 hnx hout hG
    have hd : decide ((i : Int) < (l.length : Int)) = true := decide_eq_true (by omega)
    have hw : IntKind.i64.wrap ((i : Int) + 1) = ((i + 1 : Nat) : Int) := by rw [wi64 (by omega)]; omega
    obtain ⟨x, hx⟩ : ∃ x, l[i]? = some x := ⟨_, List.getElem?_eq_getElem (by omega)⟩
    rw [lp_n (L := l6x0) rfl] at hr
    cases c5 : ((i : Int) == 5) with
    | true =>
      simp (maxSteps := 1000000) +contextual -implicitDefEqProofs only [go_sem, R_c, G_c, D_c, DG_c, G_cf, G_cv, D_cf, DG_cf, E_c, E_cf, E_a, D_ap, D_mm, D_al, D_ldm, E_ap, E_mm, Nat.reduceEqDiff, Nat.reduceAdd, Nat.reduceLeDiff, Nat.reduceSub, Nat.reduceLT, Nat.reduceMul, Int.reduceToNat, Int.reduceEq, ↓reduceIte, reduceCtorEq, Bool.false_and, Bool.and_false, Bool.false_eq_true, Bool.true_or, Bool.or_true, Bool.false_or, Bool.or_false, Nat.reduceBEq, Int.reduceBEq, Int.reduceBNe, Int.reduceLT, Int.reduceLE, Int.reduceMul, Int.reduceAdd, Int.toNat_natCast, List.isEmpty_map, b6x0, g3, g4, g25, g26, g27, k3, ho, hd, hx, hw, List.getElem?_map, Og.D, c5] at hr
      subst hr
      exact ⟨_, nx, G, rfl, rfl, rfl, rfl, rfl, hout, hG⟩
    | false =>
    cases c6 : decide ((x.b.length : Int) > 5000) with
    | true =>
      simp (maxSteps := 1000000) +contextual -implicitDefEqProofs only [go_sem, R_c, G_c, D_c, DG_c, G_cf, G_cv, D_cf, DG_cf, E_c, E_cf, E_a, D_ap, D_mm, D_al, D_ldm, E_ap, E_mm, Nat.reduceEqDiff, Nat.reduceAdd, Nat.reduceLeDiff, Nat.reduceSub, Nat.reduceLT, Nat.reduceMul, Int.reduceToNat, Int.reduceEq, ↓reduceIte, reduceCtorEq, Bool.false_and, Bool.and_false, Bool.false_eq_true, Bool.true_or, Bool.or_true, Bool.false_or, Bool.or_false, Nat.reduceBEq, Int.reduceBEq, Int.reduceBNe, Int.reduceLT, Int.reduceLE, Int.reduceMul, Int.reduceAdd, Int.toNat_natCast, List.isEmpty_map, b6x0, g3, g4, g25, g26, g27, k3, ho, hd, hx, hw, List.getElem?_map, Og.D, c5, c6] at hr
      subst hr
      exact ⟨_, nx, G, rfl, rfl, rfl, rfl, rfl, hout, hG⟩
    | false =>
      have hxb := of_decide_eq_false c6
      have hbG : ∀ y ∈ G.map z0, y.b.length < 1000000 := fun y hy => by
        obtain ⟨j, hj⟩ := List.mem_iff_getElem?.1 hy
        have := (beg_b (snd_beg ((out_iff.1 hout).2.2 j y hj)).1).1
        omega
      have hlG := (out_iff.1 hout).2.1
      have h18 := fun B => w18 B nx (G.map z0) [] true true x hnx (by omega) hbG (by omega) (by simp)
      simp only [putR, hout, Bool.true_eq_false, if_false, List.map_nil, lst_nil] at h18
      cases c7 : begB x.d x.u x.nm x.b.length with
      | false =>
        rw [c7] at h18
        simp only [if_true, Z3] at h18
        simp (maxSteps := 1000000) +contextual -implicitDefEqProofs only [go_sem, R_c, G_c, D_c, DG_c, G_cf, G_cv, D_cf, DG_cf, E_c, E_cf, E_a, D_ap, D_mm, D_al, D_ldm, E_ap, E_mm, Nat.reduceEqDiff, Nat.reduceAdd, Nat.reduceLeDiff, Nat.reduceSub, Nat.reduceLT, Nat.reduceMul, Int.reduceToNat, Int.reduceEq, ↓reduceIte, reduceCtorEq, Bool.false_and, Bool.and_false, Bool.false_eq_true, Bool.true_or, Bool.or_true, Bool.false_or, Bool.or_false, Nat.reduceBEq, Int.reduceBEq, Int.reduceBNe, Int.reduceLT, Int.reduceLE, Int.reduceMul, Int.reduceAdd, Int.toNat_natCast, List.isEmpty_map, b6x0, g3, g4, g25, g26, g27, k3, ho, hd, hx, hw, List.getElem?_map, Og.D, c5, c6, h18] at hr
        exact ih (i + 1) nx G hr rfl (by omega) (by simp at c5; omega) rfl rfl rfl rfl rfl rfl hnx hout hG
      | true =>
      rw [c7] at h18
      simp only [Bool.true_eq_false, if_false] at h18
      cases c8 : (decide ((G.map z0).length = 4) || decide (nx = 4294967295)) with
      | true =>
        rw [c8] at h18
        simp only [if_true, Z3] at h18
        simp (maxSteps := 1000000) +contextual -implicitDefEqProofs only [go_sem, R_c, G_c, D_c, DG_c, G_cf, G_cv, D_cf, DG_cf, E_c, E_cf, E_a, D_ap, D_mm, D_al, D_ldm, E_ap, E_mm, Nat.reduceEqDiff, Nat.reduceAdd, Nat.reduceLeDiff, Nat.reduceSub, Nat.reduceLT, Nat.reduceMul, Int.reduceToNat, Int.reduceEq, ↓reduceIte, reduceCtorEq, Bool.false_and, Bool.and_false, Bool.false_eq_true, Bool.true_or, Bool.or_true, Bool.false_or, Bool.or_false, Nat.reduceBEq, Int.reduceBEq, Int.reduceBNe, Int.reduceLT, Int.reduceLE, Int.reduceMul, Int.reduceAdd, Int.toNat_natCast, List.isEmpty_map, b6x0, g3, g4, g25, g26, g27, k3, ho, hd, hx, hw, List.getElem?_map, Og.D, c5, c6, h18] at hr
        exact ih (i + 1) nx G hr rfl (by omega) (by simp at c5; omega) rfl rfl rfl rfl rfl rfl hnx hout hG
      | false =>
        rw [c8] at h18
        simp only [Bool.false_eq_true, if_false] at h18
        simp only [Bool.or_eq_false_iff, decide_eq_false_iff_not] at c8
        have hle : (G.length + 1) * 72 ≤ 140737488355328 := by simp at hlG; omega
        have hap : G.map Og.D ++ [.agg [vu nx, vi x.d, vs x.nm, lst .ro 1 x.q (x.b.map un), vi x.s, vi x.u]] = (G ++ [{ x with n := nx }]).map Og.D := by rw [List.map_append]; rfl
        have hz : (G ++ [{ x with n := nx }]).map z0 = G.map z0 ++ [{ x with n := nx, s := 0 }] := by rw [List.map_append]; rfl
        have hout' := out_put hout c8.1 c7
        rw [← hz] at hout' h18
        simp (maxSteps := 1000000) +contextual -implicitDefEqProofs only [go_sem, R_c, G_c, D_c, DG_c, G_cf, G_cv, D_cf, DG_cf, E_c, E_cf, E_a, D_ap, D_mm, D_al, D_ldm, E_ap, E_mm, Nat.reduceEqDiff, Nat.reduceAdd, Nat.reduceLeDiff, Nat.reduceSub, Nat.reduceLT, Nat.reduceMul, Int.reduceToNat, Int.reduceEq, ↓reduceIte, reduceCtorEq, Bool.false_and, Bool.and_false, Bool.false_eq_true, Bool.true_or, Bool.or_true, Bool.false_or, Bool.or_false, Nat.reduceBEq, Int.reduceBEq, Int.reduceBNe, Int.reduceLT, Int.reduceLE, Int.reduceMul, Int.reduceAdd, Int.toNat_natCast, List.isEmpty_map, b6x0, g3, g4, g25, g26, g27, k3, ho, hd, hx, hw, List.getElem?_map, Og.D, c5, c6, h18, hle, hap] at hr
        have hG' : ∀ y ∈ G ++ [{ x with n := nx }], ∀ c ∈ y.b, c < 256 := fun y hy => by
          rcases List.mem_append.1 hy with hy | hy
          · exact hG y hy
          · rw [List.mem_singleton.1 hy]; exact hc x (List.mem_of_getElem? hx)
        have hnx' : 0 ≤ nx + 1 ∧ nx + 1 < 4294967296 := by omega
        have hi' : i + 1 + k = l.length ∧ i + 1 ≤ 5 := by simp at c5; omega
        have h := ih (i + 1) (nx + 1) (G ++ [{ x with n := nx }]) hr
        clear hr ih
        refine h (by simp (maxSteps := 1000000) +contextual -implicitDefEqProofs only [go_sem, R_c, G_c, D_c, DG_c, G_cf, G_cv, D_cf, DG_cf, E_c, E_cf, E_a, D_ap, D_mm, D_al, D_ldm, E_ap, E_mm, Nat.reduceEqDiff, Nat.reduceAdd, Nat.reduceLeDiff, Nat.reduceSub, Nat.reduceLT, Nat.reduceMul, Int.reduceToNat, Int.reduceEq, ↓reduceIte, reduceCtorEq, Bool.false_and, Bool.and_false, Bool.false_eq_true, Bool.true_or, Bool.or_true, Bool.false_or, Bool.or_false, Nat.reduceBEq, Int.reduceBEq, Int.reduceBNe, Int.reduceLT, Int.reduceLE, Int.reduceMul, Int.reduceAdd, Int.toNat_natCast, List.isEmpty_map, ]) hi'.1 hi'.2 (by simp (maxSteps := 1000000) +contextual -implicitDefEqProofs only [go_sem, R_c, G_c, D_c, DG_c, G_cf, G_cv, D_cf, DG_cf, E_c, E_cf, E_a, D_ap, D_mm, D_al, D_ldm, E_ap, E_mm, Nat.reduceEqDiff, Nat.reduceAdd, Nat.reduceLeDiff, Nat.reduceSub, Nat.reduceLT, Nat.reduceMul, Int.reduceToNat, Int.reduceEq, ↓reduceIte, reduceCtorEq, Bool.false_and, Bool.and_false, Bool.false_eq_true, Bool.true_or, Bool.or_true, Bool.false_or, Bool.or_false, Nat.reduceBEq, Int.reduceBEq, Int.reduceBNe, Int.reduceLT, Int.reduceLE, Int.reduceMul, Int.reduceAdd, Int.toNat_natCast, List.isEmpty_map, ]) (by simp (maxSteps := 1000000) +contextual -implicitDefEqProofs only [go_sem, R_c, G_c, D_c, DG_c, G_cf, G_cv, D_cf, DG_cf, E_c, E_cf, E_a, D_ap, D_mm, D_al, D_ldm, E_ap, E_mm, Nat.reduceEqDiff, Nat.reduceAdd, Nat.reduceLeDiff, Nat.reduceSub, Nat.reduceLT, Nat.reduceMul, Int.reduceToNat, Int.reduceEq, ↓reduceIte, reduceCtorEq, Bool.false_and, Bool.and_false, Bool.false_eq_true, Bool.true_or, Bool.or_true, Bool.false_or, Bool.or_false, Nat.reduceBEq, Int.reduceBEq, Int.reduceBNe, Int.reduceLT, Int.reduceLE, Int.reduceMul, Int.reduceAdd, Int.toNat_natCast, List.isEmpty_map, ]) (by simp (maxSteps := 1000000) +contextual -implicitDefEqProofs only [go_sem, R_c, G_c, D_c, DG_c, G_cf, G_cv, D_cf, DG_cf, E_c, E_cf, E_a, D_ap, D_mm, D_al, D_ldm, E_ap, E_mm, Nat.reduceEqDiff, Nat.reduceAdd, Nat.reduceLeDiff, Nat.reduceSub, Nat.reduceLT, Nat.reduceMul, Int.reduceToNat, Int.reduceEq, ↓reduceIte, reduceCtorEq, Bool.false_and, Bool.and_false, Bool.false_eq_true, Bool.true_or, Bool.or_true, Bool.false_or, Bool.or_false, Nat.reduceBEq, Int.reduceBEq, Int.reduceBNe, Int.reduceLT, Int.reduceLE, Int.reduceMul, Int.reduceAdd, Int.toNat_natCast, List.isEmpty_map, ]) (by simp (maxSteps := 1000000) +contextual -implicitDefEqProofs only [go_sem, R_c, G_c, D_c, DG_c, G_cf, G_cv, D_cf, DG_cf, E_c, E_cf, E_a, D_ap, D_mm, D_al, D_ldm, E_ap, E_mm, Nat.reduceEqDiff, Nat.reduceAdd, Nat.reduceLeDiff, Nat.reduceSub, Nat.reduceLT, Nat.reduceMul, Int.reduceToNat, Int.reduceEq, ↓reduceIte, reduceCtorEq, Bool.false_and, Bool.and_false, Bool.false_eq_true, Bool.true_or, Bool.or_true, Bool.false_or, Bool.or_false, Nat.reduceBEq, Int.reduceBEq, Int.reduceBNe, Int.reduceLT, Int.reduceLE, Int.reduceMul, Int.reduceAdd, Int.toNat_natCast, List.isEmpty_map, ]) (by simp (maxSteps := 1000000) +contextual -implicitDefEqProofs only [go_sem, R_c, G_c, D_c, DG_c, G_cf, G_cv, D_cf, DG_cf, E_c, E_cf, E_a, D_ap, D_mm, D_al, D_ldm, E_ap, E_mm, Nat.reduceEqDiff, Nat.reduceAdd, Nat.reduceLeDiff, Nat.reduceSub, Nat.reduceLT, Nat.reduceMul, Int.reduceToNat, Int.reduceEq, ↓reduceIte, reduceCtorEq, Bool.false_and, Bool.and_false, Bool.false_eq_true, Bool.true_or, Bool.or_true, Bool.false_or, Bool.or_false, Nat.reduceBEq, Int.reduceBEq, Int.reduceBNe, Int.reduceLT, Int.reduceLE, Int.reduceMul, Int.reduceAdd, Int.toNat_natCast, List.isEmpty_map, ]) ?_ hnx' hout' hG'
        simp (maxSteps := 1000000) +contextual -implicitDefEqProofs only [go_sem, R_c, G_c, D_c, DG_c, G_cf, G_cv, D_cf, DG_cf, E_c, E_cf, E_a, D_ap, D_mm, D_al, D_ldm, E_ap, E_mm, Nat.reduceEqDiff, Nat.reduceAdd, Nat.reduceLeDiff, Nat.reduceSub, Nat.reduceLT, Nat.reduceMul, Int.reduceToNat, Int.reduceEq, ↓reduceIte, reduceCtorEq, Bool.false_and, Bool.and_false, Bool.false_eq_true, Bool.true_or, Bool.or_true, Bool.false_or, Bool.or_false, Nat.reduceBEq, Int.reduceBEq, Int.reduceBNe, Int.reduceLT, Int.reduceLE, Int.reduceMul, Int.reduceAdd, Int.toNat_natCast, List.isEmpty_map, ]; rw [hz, List.map_append, List.map_cons, List.map_nil, lst_snoc]
end
end Go.Proofs.Ytlhjdikklmkihaa.Ev
