/- The document's 'Right'. Conditions: none. -/
import Derived.Test.YtlhjdikklmkihaaG21
set_option linter.all false
namespace Go.Proofs.Ytlhjdikklmkihaa.Ev
open Go
section
variable (nx : Int) (l : List Og) (q q2 : Bool) (B : List Bx)
theorem l14a (eD : D) (heD : eD.in1 B.length [1] = true) (hl : l.length < 1000000) (hb : ∀ x ∈ l, x.b.length < 1000000) (hc : ∀ x ∈ l, ∀ c ∈ x.b, c < 256) (hn : ∀ x ∈ l, 0 ≤ x.n) : ∀ (k i : Nat) {s : S} {r : Option (Ex × S)}, evC (EF pg) l14x0 s = r → s.o = B → i + k = l.length → get 1 s.e = .ptr B.length 1 0 →
    lk 1 s.l = some [vu nx, lst .ro 6 q (l.map Og.D), eD] → get 3 s.e = vi i →
    ∃ s', r = some (if sndsB nx l i k = true then .ex 0 else .rt, s') ∧ s'.o = B ∧ (sndsB nx l i k = true → get 1 s'.e = .ptr B.length 1 0 ∧ s'.l = [(1, [vu nx, lst .ro 6 q (l.map Og.D), eD])]) ∧ (sndsB nx l i k = false → get 2 s'.e = vb false) := by
  intro k
  induction k with
  | zero =>
    intro i s r hr ho hi h1 hl1 h3
    have hd : decide ((i : Int) < (l.length : Int)) = false := by simp; omega
    rw [lp_n (L := l14x0) rfl] at hr
    simp (maxSteps := 1000000) +contextual -implicitDefEqProofs only [go_sem, R_c, G_c, D_c, DG_c, G_cf, G_cv, D_cf, DG_cf, E_c, E_cf, E_a, D_ap, D_mm, D_al, D_ldm, E_ap, E_mm, Nat.reduceEqDiff, Nat.reduceAdd, Nat.reduceLeDiff, Nat.reduceSub, Nat.reduceLT, Nat.reduceMul, Int.reduceToNat, Int.reduceEq, ↓reduceIte, reduceCtorEq, Bool.false_and, Bool.and_false, Bool.false_eq_true, Bool.true_or, Bool.or_true, Bool.false_or, Bool.or_false, Nat.reduceBEq, Int.reduceBEq, Int.reduceBNe, Int.reduceLT, Int.reduceLE, Int.reduceMul, Int.reduceAdd, Int.toNat_natCast, List.isEmpty_map, b14x0, h1, h3, hl1, ho, hd, heD] at hr
    subst hr
    exact ⟨_, rfl, rfl, fun _ => ⟨rfl, rfl⟩, fun h => by cases h⟩
  | succ k ih =>
    intro i s r hr ho hi h1 hl1 h3
    have hd : decide ((i : Int) < (l.length : Int)) = true := by simp; omega
    have hw : IntKind.i64.wrap ((i : Int) + 1) = ((i + 1 : Nat) : Int) := by rw [wi64 (by omega)]; omega
    obtain ⟨x, hx⟩ : ∃ x, l[i]? = some x := ⟨_, List.getElem?_eq_getElem (by omega)⟩
    have hm := List.mem_of_getElem? hx
    have hbx := hb x hm
    have hnx := hn x hm
    have h21 : qv (EF pg) 21 [.agg [vu x.n, vi x.d, vs x.nm, lst .ro 1 x.q (x.b.map un), vi x.s, vi x.u]] = some (vb (begB x.d x.u x.nm x.b.length)) := by
      have := qv_of fun B => w21 x.n x.d x.s x.u x.nm x.q (x.b.map un) B
      rwa [List.length_map] at this
    have h10 : qv (EF pg) 10 [.agg [vu x.n, vi x.d, vs x.nm, lst .ro 1 x.q (x.b.map un), vi x.s, vi x.u]] = some (.sl .ro 8 ((msgs x).map Mg.D)) := qv_of fun B => w10 x hbx (hc x hm) B
    have hml : ((msgs x).length : Int) = 2 + (x.b.length + 255) / 256 := by rw [msgs_len]; simp only [nData]; omega
    -- what is wrong is told at once
    have bad : sndB nx (prevN l i) x = false → (∃ s', r = some (.rt, s') ∧ s'.o = B ∧ get 2 s'.e = vb false) → ∃ s', r = some (if sndsB nx l i (k + 1) = true then .ex 0 else .rt, s') ∧ s'.o = B ∧ (sndsB nx l i (k + 1) = true → get 1 s'.e = .ptr B.length 1 0 ∧ s'.l = [(1, [vu nx, lst .ro 6 q (l.map Og.D), eD])]) ∧ (sndsB nx l i (k + 1) = false → get 2 s'.e = vb false) := by
      intro hbad ⟨s', g1, g2, g3⟩
      have : sndsB nx l i (k + 1) = false := by simp only [sndsB, hx, hbad, Bool.false_and]
      rw [this]
      exact ⟨s', g1, g2, (fun h => by cases h), fun _ => g3⟩
    have good : sndB nx (prevN l i) x = true → (∃ e' l', evC (EF pg) l14x0 ⟨e', l', B⟩ = r ∧ get 1 e' = .ptr B.length 1 0 ∧ lk 1 l' = some [vu nx, lst .ro 6 q (l.map Og.D), eD] ∧ get 3 e' = vi (i + 1 : Nat)) → ∃ s', r = some (if sndsB nx l i (k + 1) = true then .ex 0 else .rt, s') ∧ s'.o = B ∧ (sndsB nx l i (k + 1) = true → get 1 s'.e = .ptr B.length 1 0 ∧ s'.l = [(1, [vu nx, lst .ro 6 q (l.map Og.D), eD])]) ∧ (sndsB nx l i (k + 1) = false → get 2 s'.e = vb false) := by
      intro hgood ⟨e', l', g1, g2, g3, g4⟩
      have := ih (i + 1) g1 rfl (by omega) g2 g3 g4
      have e : sndsB nx l i (k + 1) = sndsB nx l (i + 1) k := by simp only [sndsB, hx, hgood, Bool.true_and]
      rw [e]
      exact this
    rw [lp_n (L := l14x0) rfl] at hr
    cases c1 : begB x.d x.u x.nm x.b.length with
    | false =>
      simp (maxSteps := 1000000) +contextual -implicitDefEqProofs only [go_sem, R_c, G_c, D_c, DG_c, G_cf, G_cv, D_cf, DG_cf, E_c, E_cf, E_a, D_ap, D_mm, D_al, D_ldm, E_ap, E_mm, Nat.reduceEqDiff, Nat.reduceAdd, Nat.reduceLeDiff, Nat.reduceSub, Nat.reduceLT, Nat.reduceMul, Int.reduceToNat, Int.reduceEq, ↓reduceIte, reduceCtorEq, Bool.false_and, Bool.and_false, Bool.false_eq_true, Bool.true_or, Bool.or_true, Bool.false_or, Bool.or_false, Nat.reduceBEq, Int.reduceBEq, Int.reduceBNe, Int.reduceLT, Int.reduceLE, Int.reduceMul, Int.reduceAdd, Int.toNat_natCast, List.isEmpty_map, b14x0, h1, h3, hl1, ho, hd, heD, hx, hw, List.getElem?_map, Og.D, h21, c1] at hr
      exact bad (by simp only [sndB, c1, Bool.false_and]) ⟨_, hr.symm, rfl, rfl⟩
    | true =>
    cases c2 : (x.n == 0) with
    | true =>
      have d2 : decide (x.n > 0) = false := by simp at c2; simp; omega
      simp (maxSteps := 1000000) +contextual -implicitDefEqProofs only [go_sem, R_c, G_c, D_c, DG_c, G_cf, G_cv, D_cf, DG_cf, E_c, E_cf, E_a, D_ap, D_mm, D_al, D_ldm, E_ap, E_mm, Nat.reduceEqDiff, Nat.reduceAdd, Nat.reduceLeDiff, Nat.reduceSub, Nat.reduceLT, Nat.reduceMul, Int.reduceToNat, Int.reduceEq, ↓reduceIte, reduceCtorEq, Bool.false_and, Bool.and_false, Bool.false_eq_true, Bool.true_or, Bool.or_true, Bool.false_or, Bool.or_false, Nat.reduceBEq, Int.reduceBEq, Int.reduceBNe, Int.reduceLT, Int.reduceLE, Int.reduceMul, Int.reduceAdd, Int.toNat_natCast, List.isEmpty_map, b14x0, h1, h3, hl1, ho, hd, heD, hx, hw, List.getElem?_map, Og.D, h21, c1, c2] at hr
      exact bad (by simp only [sndB, d2, Bool.and_false, Bool.false_and]) ⟨_, hr.symm, rfl, rfl⟩
    | false =>
    have d2 : decide (x.n > 0) = true := by simp at c2; simp; omega
    cases c3 : decide (x.n ≥ nx) with
    | true =>
      have d3 : decide (x.n < nx) = false := by simp at c3; simp; omega
      simp (maxSteps := 1000000) +contextual -implicitDefEqProofs only [go_sem, R_c, G_c, D_c, DG_c, G_cf, G_cv, D_cf, DG_cf, E_c, E_cf, E_a, D_ap, D_mm, D_al, D_ldm, E_ap, E_mm, Nat.reduceEqDiff, Nat.reduceAdd, Nat.reduceLeDiff, Nat.reduceSub, Nat.reduceLT, Nat.reduceMul, Int.reduceToNat, Int.reduceEq, ↓reduceIte, reduceCtorEq, Bool.false_and, Bool.and_false, Bool.false_eq_true, Bool.true_or, Bool.or_true, Bool.false_or, Bool.or_false, Nat.reduceBEq, Int.reduceBEq, Int.reduceBNe, Int.reduceLT, Int.reduceLE, Int.reduceMul, Int.reduceAdd, Int.toNat_natCast, List.isEmpty_map, b14x0, h1, h3, hl1, ho, hd, heD, hx, hw, List.getElem?_map, Og.D, h21, c1, c2, c3] at hr
      exact bad (by simp only [sndB, d3, Bool.and_false, Bool.false_and]) ⟨_, hr.symm, rfl, rfl⟩
    | false =>
    have d3 : decide (x.n < nx) = true := by simp at c3; simp; omega
    cases c4 : decide (x.s < 0) with
    | true =>
      have d4 : inR x.s 0 (2 + (x.b.length + 255) / 256) = false := by simp at c4; simp [inR]; omega
      simp (maxSteps := 1000000) +contextual -implicitDefEqProofs only [go_sem, R_c, G_c, D_c, DG_c, G_cf, G_cv, D_cf, DG_cf, E_c, E_cf, E_a, D_ap, D_mm, D_al, D_ldm, E_ap, E_mm, Nat.reduceEqDiff, Nat.reduceAdd, Nat.reduceLeDiff, Nat.reduceSub, Nat.reduceLT, Nat.reduceMul, Int.reduceToNat, Int.reduceEq, ↓reduceIte, reduceCtorEq, Bool.false_and, Bool.and_false, Bool.false_eq_true, Bool.true_or, Bool.or_true, Bool.false_or, Bool.or_false, Nat.reduceBEq, Int.reduceBEq, Int.reduceBNe, Int.reduceLT, Int.reduceLE, Int.reduceMul, Int.reduceAdd, Int.toNat_natCast, List.isEmpty_map, b14x0, h1, h3, hl1, ho, hd, heD, hx, hw, List.getElem?_map, Og.D, h21, c1, c2, c3, c4] at hr
      exact bad (by simp only [sndB, d4, Bool.and_false, Bool.false_and]) ⟨_, hr.symm, rfl, rfl⟩
    | false =>
    cases c5 : decide (x.s > ((msgs x).length : Int)) with
    | true =>
      have d4 : inR x.s 0 (2 + (x.b.length + 255) / 256) = false := by rw [hml] at c5; simp at c5; simp [inR]; omega
      simp (maxSteps := 1000000) +contextual -implicitDefEqProofs only [go_sem, R_c, G_c, D_c, DG_c, G_cf, G_cv, D_cf, DG_cf, E_c, E_cf, E_a, D_ap, D_mm, D_al, D_ldm, E_ap, E_mm, Nat.reduceEqDiff, Nat.reduceAdd, Nat.reduceLeDiff, Nat.reduceSub, Nat.reduceLT, Nat.reduceMul, Int.reduceToNat, Int.reduceEq, ↓reduceIte, reduceCtorEq, Bool.false_and, Bool.and_false, Bool.false_eq_true, Bool.true_or, Bool.or_true, Bool.false_or, Bool.or_false, Nat.reduceBEq, Int.reduceBEq, Int.reduceBNe, Int.reduceLT, Int.reduceLE, Int.reduceMul, Int.reduceAdd, Int.toNat_natCast, List.isEmpty_map, b14x0, h1, h3, hl1, ho, hd, heD, hx, hw, List.getElem?_map, Og.D, h21, h10, c1, c2, c3, c4, c5] at hr
      exact bad (by simp only [sndB, d4, Bool.and_false, Bool.false_and]) ⟨_, hr.symm, rfl, rfl⟩
    | false =>
    have d4 : inR x.s 0 (2 + (x.b.length + 255) / 256) = true := by rw [hml] at c5; simp at c4 c5; simp [inR]; omega
    cases i with
    | zero =>
      have e0 : decide (((0 : Nat) : Int) > 0) = false := rfl
      simp (maxSteps := 1000000) +contextual -implicitDefEqProofs only [go_sem, R_c, G_c, D_c, DG_c, G_cf, G_cv, D_cf, DG_cf, E_c, E_cf, E_a, D_ap, D_mm, D_al, D_ldm, E_ap, E_mm, Nat.reduceEqDiff, Nat.reduceAdd, Nat.reduceLeDiff, Nat.reduceSub, Nat.reduceLT, Nat.reduceMul, Int.reduceToNat, Int.reduceEq, ↓reduceIte, reduceCtorEq, Bool.false_and, Bool.and_false, Bool.false_eq_true, Bool.true_or, Bool.or_true, Bool.false_or, Bool.or_false, Nat.reduceBEq, Int.reduceBEq, Int.reduceBNe, Int.reduceLT, Int.reduceLE, Int.reduceMul, Int.reduceAdd, Int.toNat_natCast, List.isEmpty_map, b14x0, h1, h3, hl1, ho, hd, heD, hx, hw, List.getElem?_map, Og.D, h21, h10, c1, c2, c3, c4, c5, e0] at hr
      exact good (by simp only [sndB, c1, d2, d3, d4, prevN, Bool.and_self]) ⟨_, _, hr, rfl, rfl, rfl⟩
    | succ j =>
      obtain ⟨y, hy⟩ : ∃ y, l[j]? = some y := ⟨_, List.getElem?_eq_getElem (by omega)⟩
      have e0 : decide (((j + 1 : Nat) : Int) > 0) = true := decide_eq_true (by omega)
      have e1 : IntKind.i64.wrap (((j + 1 : Nat) : Int) - 1) = (j : Int) := by rw [wi64 (by omega)]; omega
      cases c6 : decide (x.n ≤ y.n) with
      | true =>
        have d6 : decide (y.n < x.n) = false := by simp at c6; simp [c6]
        simp (maxSteps := 1000000) +contextual -implicitDefEqProofs only [go_sem, R_c, G_c, D_c, DG_c, G_cf, G_cv, D_cf, DG_cf, E_c, E_cf, E_a, D_ap, D_mm, D_al, D_ldm, E_ap, E_mm, Nat.reduceEqDiff, Nat.reduceAdd, Nat.reduceLeDiff, Nat.reduceSub, Nat.reduceLT, Nat.reduceMul, Int.reduceToNat, Int.reduceEq, ↓reduceIte, reduceCtorEq, Bool.false_and, Bool.and_false, Bool.false_eq_true, Bool.true_or, Bool.or_true, Bool.false_or, Bool.or_false, Nat.reduceBEq, Int.reduceBEq, Int.reduceBNe, Int.reduceLT, Int.reduceLE, Int.reduceMul, Int.reduceAdd, Int.toNat_natCast, List.isEmpty_map, b14x0, h1, h3, hl1, ho, hd, heD, hx, hw, hy, List.getElem?_map, Og.D, h21, h10, c1, c2, c3, c4, c5, e0, e1, c6] at hr
        exact bad (by simp only [sndB, prevN, hy, Option.map_some, d6, Bool.and_false]) ⟨_, hr.symm, rfl, rfl⟩
      | false =>
        have d6 : decide (y.n < x.n) = true := by simp at c6; simp [c6]
        simp (maxSteps := 1000000) +contextual -implicitDefEqProofs only [go_sem, R_c, G_c, D_c, DG_c, G_cf, G_cv, D_cf, DG_cf, E_c, E_cf, E_a, D_ap, D_mm, D_al, D_ldm, E_ap, E_mm, Nat.reduceEqDiff, Nat.reduceAdd, Nat.reduceLeDiff, Nat.reduceSub, Nat.reduceLT, Nat.reduceMul, Int.reduceToNat, Int.reduceEq, ↓reduceIte, reduceCtorEq, Bool.false_and, Bool.and_false, Bool.false_eq_true, Bool.true_or, Bool.or_true, Bool.false_or, Bool.or_false, Nat.reduceBEq, Int.reduceBEq, Int.reduceBNe, Int.reduceLT, Int.reduceLE, Int.reduceMul, Int.reduceAdd, Int.toNat_natCast, List.isEmpty_map, b14x0, h1, h3, hl1, ho, hd, heD, hx, hw, hy, List.getElem?_map, Og.D, h21, h10, c1, c2, c3, c4, c5, e0, e1, c6] at hr
        exact good (by simp only [sndB, c1, d2, d3, d4, d6, prevN, hy, Option.map_some, Bool.and_self]) ⟨_, _, hr, rfl, rfl, rfl⟩
theorem l14b (e : List En) (he : e.length < 1000000) (hn : ∀ x ∈ e, 0 ≤ x.n) (lD : D) (hlD : lD.in1 B.length [1] = true) : ∀ (k i : Nat) {s : S} {r : Option (Ex × S)}, evC (EF pg) l14x1 s = r → s.o = B → i + k = e.length → get 1 s.e = .ptr B.length 1 0 →
    lk 1 s.l = some [vu nx, lD, lst .ro 2 q2 (e.map En.D)] → get 5 s.e = vi i →
    ∃ s', r = some (if (e.drop i).all (endB nx) = true then .ex 2 else .rt, s') ∧ s'.o = B ∧ ((e.drop i).all (endB nx) = false → get 2 s'.e = vb false) := by
  intro k
  induction k with
  | zero =>
    intro i s r hr ho hi h1 hl1 h3
    have hd : decide ((i : Int) < (e.length : Int)) = false := by simp; omega
    rw [lp_n (L := l14x1) rfl] at hr
    simp (maxSteps := 1000000) +contextual -implicitDefEqProofs only [go_sem, R_c, G_c, D_c, DG_c, G_cf, G_cv, D_cf, DG_cf, E_c, E_cf, E_a, D_ap, D_mm, D_al, D_ldm, E_ap, E_mm, Nat.reduceEqDiff, Nat.reduceAdd, Nat.reduceLeDiff, Nat.reduceSub, Nat.reduceLT, Nat.reduceMul, Int.reduceToNat, Int.reduceEq, ↓reduceIte, reduceCtorEq, Bool.false_and, Bool.and_false, Bool.false_eq_true, Bool.true_or, Bool.or_true, Bool.false_or, Bool.or_false, Nat.reduceBEq, Int.reduceBEq, Int.reduceBNe, Int.reduceLT, Int.reduceLE, Int.reduceMul, Int.reduceAdd, Int.toNat_natCast, List.isEmpty_map, b14x1, h1, h3, hl1, ho, hd, hlD] at hr
    subst hr
    rw [List.drop_of_length_le (by omega)]
    exact ⟨_, rfl, rfl, fun h => by cases h⟩
  | succ k ih =>
    intro i s r hr ho hi h1 hl1 h3
    have hd : decide ((i : Int) < (e.length : Int)) = true := by simp; omega
    have hw : IntKind.i64.wrap ((i : Int) + 1) = ((i + 1 : Nat) : Int) := by rw [wi64 (by omega)]; omega
    obtain ⟨x, hx⟩ : ∃ x, e[i]? = some x := ⟨_, List.getElem?_eq_getElem (by omega)⟩
    have hnx := hn x (List.mem_of_getElem? hx)
    have hdr : e.drop i = x :: e.drop (i + 1) := (List.drop_eq_getElem_cons (by omega)).trans (by rw [(List.getElem?_eq_some_iff.1 hx).2])
    have bad : endB nx x = false → (∃ s', r = some (.rt, s') ∧ s'.o = B ∧ get 2 s'.e = vb false) → ∃ s', r = some (if (e.drop i).all (endB nx) = true then .ex 2 else .rt, s') ∧ s'.o = B ∧ ((e.drop i).all (endB nx) = false → get 2 s'.e = vb false) := by
      intro hbad ⟨s', g1, g2, g3⟩
      rw [hdr, List.all_cons, hbad, Bool.false_and]
      exact ⟨s', g1, g2, fun _ => g3⟩
    rw [lp_n (L := l14x1) rfl] at hr
    cases c2 : (x.n == 0) with
    | true =>
      have d2 : decide (x.n > 0) = false := by simp at c2; simp; omega
      simp (maxSteps := 1000000) +contextual -implicitDefEqProofs only [go_sem, R_c, G_c, D_c, DG_c, G_cf, G_cv, D_cf, DG_cf, E_c, E_cf, E_a, D_ap, D_mm, D_al, D_ldm, E_ap, E_mm, Nat.reduceEqDiff, Nat.reduceAdd, Nat.reduceLeDiff, Nat.reduceSub, Nat.reduceLT, Nat.reduceMul, Int.reduceToNat, Int.reduceEq, ↓reduceIte, reduceCtorEq, Bool.false_and, Bool.and_false, Bool.false_eq_true, Bool.true_or, Bool.or_true, Bool.false_or, Bool.or_false, Nat.reduceBEq, Int.reduceBEq, Int.reduceBNe, Int.reduceLT, Int.reduceLE, Int.reduceMul, Int.reduceAdd, Int.toNat_natCast, List.isEmpty_map, b14x1, h1, h3, hl1, ho, hd, hlD, hx, hw, List.getElem?_map, En.D, c2] at hr
      exact bad (by simp only [endB, d2, Bool.false_and]) ⟨_, hr.symm, rfl, rfl⟩
    | false =>
    have d2 : decide (x.n > 0) = true := by simp at c2; simp; omega
    cases c3 : decide (x.n ≥ nx) with
    | true =>
      have d3 : decide (x.n < nx) = false := by simp at c3; simp; omega
      simp (maxSteps := 1000000) +contextual -implicitDefEqProofs only [go_sem, R_c, G_c, D_c, DG_c, G_cf, G_cv, D_cf, DG_cf, E_c, E_cf, E_a, D_ap, D_mm, D_al, D_ldm, E_ap, E_mm, Nat.reduceEqDiff, Nat.reduceAdd, Nat.reduceLeDiff, Nat.reduceSub, Nat.reduceLT, Nat.reduceMul, Int.reduceToNat, Int.reduceEq, ↓reduceIte, reduceCtorEq, Bool.false_and, Bool.and_false, Bool.false_eq_true, Bool.true_or, Bool.or_true, Bool.false_or, Bool.or_false, Nat.reduceBEq, Int.reduceBEq, Int.reduceBNe, Int.reduceLT, Int.reduceLE, Int.reduceMul, Int.reduceAdd, Int.toNat_natCast, List.isEmpty_map, b14x1, h1, h3, hl1, ho, hd, hlD, hx, hw, List.getElem?_map, En.D, c2, c3] at hr
      exact bad (by simp only [endB, d3, Bool.and_false, Bool.false_and]) ⟨_, hr.symm, rfl, rfl⟩
    | false =>
    have d3 : decide (x.n < nx) = true := by simp at c3; simp; omega
    cases c4 : decide (x.c < 0) with
    | true =>
      have d4 : inR x.c 0 255 = false := by simp at c4; simp [inR]; omega
      simp (maxSteps := 1000000) +contextual -implicitDefEqProofs only [go_sem, R_c, G_c, D_c, DG_c, G_cf, G_cv, D_cf, DG_cf, E_c, E_cf, E_a, D_ap, D_mm, D_al, D_ldm, E_ap, E_mm, Nat.reduceEqDiff, Nat.reduceAdd, Nat.reduceLeDiff, Nat.reduceSub, Nat.reduceLT, Nat.reduceMul, Int.reduceToNat, Int.reduceEq, ↓reduceIte, reduceCtorEq, Bool.false_and, Bool.and_false, Bool.false_eq_true, Bool.true_or, Bool.or_true, Bool.false_or, Bool.or_false, Nat.reduceBEq, Int.reduceBEq, Int.reduceBNe, Int.reduceLT, Int.reduceLE, Int.reduceMul, Int.reduceAdd, Int.toNat_natCast, List.isEmpty_map, b14x1, h1, h3, hl1, ho, hd, hlD, hx, hw, List.getElem?_map, En.D, c2, c3, c4] at hr
      exact bad (by simp only [endB, d4, Bool.and_false]) ⟨_, hr.symm, rfl, rfl⟩
    | false =>
    cases c5 : decide (x.c > 255) with
    | true =>
      have d4 : inR x.c 0 255 = false := by simp at c5; simp [inR]; omega
      simp (maxSteps := 1000000) +contextual -implicitDefEqProofs only [go_sem, R_c, G_c, D_c, DG_c, G_cf, G_cv, D_cf, DG_cf, E_c, E_cf, E_a, D_ap, D_mm, D_al, D_ldm, E_ap, E_mm, Nat.reduceEqDiff, Nat.reduceAdd, Nat.reduceLeDiff, Nat.reduceSub, Nat.reduceLT, Nat.reduceMul, Int.reduceToNat, Int.reduceEq, ↓reduceIte, reduceCtorEq, Bool.false_and, Bool.and_false, Bool.false_eq_true, Bool.true_or, Bool.or_true, Bool.false_or, Bool.or_false, Nat.reduceBEq, Int.reduceBEq, Int.reduceBNe, Int.reduceLT, Int.reduceLE, Int.reduceMul, Int.reduceAdd, Int.toNat_natCast, List.isEmpty_map, b14x1, h1, h3, hl1, ho, hd, hlD, hx, hw, List.getElem?_map, En.D, c2, c3, c4, c5] at hr
      exact bad (by simp only [endB, d4, Bool.and_false]) ⟨_, hr.symm, rfl, rfl⟩
    | false =>
      have d4 : inR x.c 0 255 = true := by simp at c4 c5; simp [inR]; omega
      simp (maxSteps := 1000000) +contextual -implicitDefEqProofs only [go_sem, R_c, G_c, D_c, DG_c, G_cf, G_cv, D_cf, DG_cf, E_c, E_cf, E_a, D_ap, D_mm, D_al, D_ldm, E_ap, E_mm, Nat.reduceEqDiff, Nat.reduceAdd, Nat.reduceLeDiff, Nat.reduceSub, Nat.reduceLT, Nat.reduceMul, Int.reduceToNat, Int.reduceEq, ↓reduceIte, reduceCtorEq, Bool.false_and, Bool.and_false, Bool.false_eq_true, Bool.true_or, Bool.or_true, Bool.false_or, Bool.or_false, Nat.reduceBEq, Int.reduceBEq, Int.reduceBNe, Int.reduceLT, Int.reduceLE, Int.reduceMul, Int.reduceAdd, Int.toNat_natCast, List.isEmpty_map, b14x1, h1, h3, hl1, ho, hd, hlD, hx, hw, List.getElem?_map, En.D, c2, c3, c4, c5] at hr
      have := ih (i + 1) hr rfl (by omega) rfl rfl rfl
      rwa [hdr, List.all_cons, show endB nx x = true by simp only [endB, d2, d3, d4, Bool.and_self], Bool.true_and]
/-- 'Right'. -/
theorem w14 (e : List En) (h0 : 0 ≤ nx) (hl : l.length < 1000000) (hb : ∀ x ∈ l, x.b.length < 1000000) (hc : ∀ x ∈ l, ∀ c ∈ x.b, c < 256) (hn : ∀ x ∈ l, 0 ≤ x.n) (he : e.length < 1000000) (hne : ∀ x ∈ e, 0 ≤ x.n) :
    EF pg 14 [.agg [vu nx, lst .ro 6 q (l.map Og.D), lst .ro 2 q2 (e.map En.D)]] B = some (vb (outB nx l e), B) := by
  rw [EF_call p14 rfl (by simp [F14]) (by simp (maxSteps := 1000000) +contextual -implicitDefEqProofs only [go_sem, R_c, G_c, D_c, DG_c, G_cf, G_cv, D_cf, DG_cf, E_c, E_cf, E_a, D_ap, D_mm, D_al, D_ldm, E_ap, E_mm, Nat.reduceEqDiff, Nat.reduceAdd, Nat.reduceLeDiff, Nat.reduceSub, Nat.reduceLT, Nat.reduceMul, Int.reduceToNat, Int.reduceEq, ↓reduceIte, reduceCtorEq, Bool.false_and, Bool.and_false, Bool.false_eq_true, Bool.true_or, Bool.or_true, Bool.false_or, Bool.or_false, Nat.reduceBEq, Int.reduceBEq, Int.reduceBNe, Int.reduceLT, Int.reduceLE, Int.reduceMul, Int.reduceAdd, Int.toNat_natCast, List.isEmpty_map, ])]
  cases c1 : (nx == 0) with
  | true =>
    have d1 : decide (nx > 0) = false := by simp at c1; simp; omega
    have ho : outB nx l e = false := by simp only [outB, d1, Bool.false_and]
    simp (maxSteps := 1000000) +contextual -implicitDefEqProofs only [go_sem, R_c, G_c, D_c, DG_c, G_cf, G_cv, D_cf, DG_cf, E_c, E_cf, E_a, D_ap, D_mm, D_al, D_ldm, E_ap, E_mm, Nat.reduceEqDiff, Nat.reduceAdd, Nat.reduceLeDiff, Nat.reduceSub, Nat.reduceLT, Nat.reduceMul, Int.reduceToNat, Int.reduceEq, ↓reduceIte, reduceCtorEq, Bool.false_and, Bool.and_false, Bool.false_eq_true, Bool.true_or, Bool.or_true, Bool.false_or, Bool.or_false, Nat.reduceBEq, Int.reduceBEq, Int.reduceBNe, Int.reduceLT, Int.reduceLE, Int.reduceMul, Int.reduceAdd, Int.toNat_natCast, List.isEmpty_map, F14, c14, c1, ho]
  | false =>
  have d1 : decide (nx > 0) = true := by simp at c1; simp; omega
  cases c2 : decide ((l.length : Int) > 4) with
  | true =>
    have d2 : decide ((l.length : Int) ≤ 4) = false := by simp at c2; simp; omega
    have ho : outB nx l e = false := by simp only [outB, d2, Bool.and_false, Bool.false_and]
    simp (maxSteps := 1000000) +contextual -implicitDefEqProofs only [go_sem, R_c, G_c, D_c, DG_c, G_cf, G_cv, D_cf, DG_cf, E_c, E_cf, E_a, D_ap, D_mm, D_al, D_ldm, E_ap, E_mm, Nat.reduceEqDiff, Nat.reduceAdd, Nat.reduceLeDiff, Nat.reduceSub, Nat.reduceLT, Nat.reduceMul, Int.reduceToNat, Int.reduceEq, ↓reduceIte, reduceCtorEq, Bool.false_and, Bool.and_false, Bool.false_eq_true, Bool.true_or, Bool.or_true, Bool.false_or, Bool.or_false, Nat.reduceBEq, Int.reduceBEq, Int.reduceBNe, Int.reduceLT, Int.reduceLE, Int.reduceMul, Int.reduceAdd, Int.toNat_natCast, List.isEmpty_map, F14, c14, c1, c2, ho]
  | false =>
  have d2 : decide ((l.length : Int) ≤ 4) = true := by simp at c2; simp; omega
  cases c3 : decide ((e.length : Int) > 16) with
  | true =>
    have d3 : decide ((e.length : Int) ≤ 16) = false := by simp at c3; simp; omega
    have ho : outB nx l e = false := by simp only [outB, d3, Bool.and_false, Bool.false_and]
    simp (maxSteps := 1000000) +contextual -implicitDefEqProofs only [go_sem, R_c, G_c, D_c, DG_c, G_cf, G_cv, D_cf, DG_cf, E_c, E_cf, E_a, D_ap, D_mm, D_al, D_ldm, E_ap, E_mm, Nat.reduceEqDiff, Nat.reduceAdd, Nat.reduceLeDiff, Nat.reduceSub, Nat.reduceLT, Nat.reduceMul, Int.reduceToNat, Int.reduceEq, ↓reduceIte, reduceCtorEq, Bool.false_and, Bool.and_false, Bool.false_eq_true, Bool.true_or, Bool.or_true, Bool.false_or, Bool.or_false, Nat.reduceBEq, Int.reduceBEq, Int.reduceBNe, Int.reduceLT, Int.reduceLE, Int.reduceMul, Int.reduceAdd, Int.toNat_natCast, List.isEmpty_map, F14, c14, c1, c2, c3, ho]
  | false =>
  have d3 : decide ((e.length : Int) ≤ 16) = true := by simp at c3; simp; omega
  have hout : outB nx l e = (sndsB nx l 0 l.length && e.all (endB nx)) := by simp only [outB, d1, d2, d3, Bool.true_and]
  simp (maxSteps := 1000000) +contextual -implicitDefEqProofs only [go_sem, R_c, G_c, D_c, DG_c, G_cf, G_cv, D_cf, DG_cf, E_c, E_cf, E_a, D_ap, D_mm, D_al, D_ldm, E_ap, E_mm, Nat.reduceEqDiff, Nat.reduceAdd, Nat.reduceLeDiff, Nat.reduceSub, Nat.reduceLT, Nat.reduceMul, Int.reduceToNat, Int.reduceEq, ↓reduceIte, reduceCtorEq, Bool.false_and, Bool.and_false, Bool.false_eq_true, Bool.true_or, Bool.or_true, Bool.false_or, Bool.or_false, Nat.reduceBEq, Int.reduceBEq, Int.reduceBNe, Int.reduceLT, Int.reduceLE, Int.reduceMul, Int.reduceAdd, Int.toNat_natCast, List.isEmpty_map, F14, c14, c1, c2, c3]
  generalize hz : evC (EF pg) l14x0 _ = z
  obtain ⟨s', rfl, g1, g2, g3⟩ := l14a nx l q B (lst .ro 2 q2 (e.map En.D)) (by simp (maxSteps := 1000000) +contextual -implicitDefEqProofs only [go_sem, R_c, G_c, D_c, DG_c, G_cf, G_cv, D_cf, DG_cf, E_c, E_cf, E_a, D_ap, D_mm, D_al, D_ldm, E_ap, E_mm, Nat.reduceEqDiff, Nat.reduceAdd, Nat.reduceLeDiff, Nat.reduceSub, Nat.reduceLT, Nat.reduceMul, Int.reduceToNat, Int.reduceEq, ↓reduceIte, reduceCtorEq, Bool.false_and, Bool.and_false, Bool.false_eq_true, Bool.true_or, Bool.or_true, Bool.false_or, Bool.or_false, Nat.reduceBEq, Int.reduceBEq, Int.reduceBNe, Int.reduceLT, Int.reduceLE, Int.reduceMul, Int.reduceAdd, Int.toNat_natCast, List.isEmpty_map, ]) hl hb hc hn l.length 0 hz rfl (by omega) rfl rfl rfl
  cases hs : sndsB nx l 0 l.length with
  | false =>
    have g3 := g3 hs
    rw [hs, Bool.false_and] at hout
    simp (maxSteps := 1000000) +contextual -implicitDefEqProofs only [go_sem, R_c, G_c, D_c, DG_c, G_cf, G_cv, D_cf, DG_cf, E_c, E_cf, E_a, D_ap, D_mm, D_al, D_ldm, E_ap, E_mm, Nat.reduceEqDiff, Nat.reduceAdd, Nat.reduceLeDiff, Nat.reduceSub, Nat.reduceLT, Nat.reduceMul, Int.reduceToNat, Int.reduceEq, ↓reduceIte, reduceCtorEq, Bool.false_and, Bool.and_false, Bool.false_eq_true, Bool.true_or, Bool.or_true, Bool.false_or, Bool.or_false, Nat.reduceBEq, Int.reduceBEq, Int.reduceBNe, Int.reduceLT, Int.reduceLE, Int.reduceMul, Int.reduceAdd, Int.toNat_natCast, List.isEmpty_map, hs, g1, g3, hout]
  | true =>
    obtain ⟨g4, g5⟩ := g2 hs
    rw [hs, Bool.true_and] at hout
    simp (maxSteps := 1000000) +contextual -implicitDefEqProofs only [go_sem, R_c, G_c, D_c, DG_c, G_cf, G_cv, D_cf, DG_cf, E_c, E_cf, E_a, D_ap, D_mm, D_al, D_ldm, E_ap, E_mm, Nat.reduceEqDiff, Nat.reduceAdd, Nat.reduceLeDiff, Nat.reduceSub, Nat.reduceLT, Nat.reduceMul, Int.reduceToNat, Int.reduceEq, ↓reduceIte, reduceCtorEq, Bool.false_and, Bool.and_false, Bool.false_eq_true, Bool.true_or, Bool.or_true, Bool.false_or, Bool.or_false, Nat.reduceBEq, Int.reduceBEq, Int.reduceBNe, Int.reduceLT, Int.reduceLE, Int.reduceMul, Int.reduceAdd, Int.toNat_natCast, List.isEmpty_map, hs, g1, g4, g5]
    generalize hz : evC (EF pg) l14x1 _ = z
    obtain ⟨s'', rfl, g6, g7⟩ := l14b nx q2 B e he hne (lst .ro 6 q (l.map Og.D)) (by simp (maxSteps := 1000000) +contextual -implicitDefEqProofs only [go_sem, R_c, G_c, D_c, DG_c, G_cf, G_cv, D_cf, DG_cf, E_c, E_cf, E_a, D_ap, D_mm, D_al, D_ldm, E_ap, E_mm, Nat.reduceEqDiff, Nat.reduceAdd, Nat.reduceLeDiff, Nat.reduceSub, Nat.reduceLT, Nat.reduceMul, Int.reduceToNat, Int.reduceEq, ↓reduceIte, reduceCtorEq, Bool.false_and, Bool.and_false, Bool.false_eq_true, Bool.true_or, Bool.or_true, Bool.false_or, Bool.or_false, Nat.reduceBEq, Int.reduceBEq, Int.reduceBNe, Int.reduceLT, Int.reduceLE, Int.reduceMul, Int.reduceAdd, Int.toNat_natCast, List.isEmpty_map, ]) e.length 0 hz (by simp (maxSteps := 1000000) +contextual -implicitDefEqProofs only [go_sem, R_c, G_c, D_c, DG_c, G_cf, G_cv, D_cf, DG_cf, E_c, E_cf, E_a, D_ap, D_mm, D_al, D_ldm, E_ap, E_mm, Nat.reduceEqDiff, Nat.reduceAdd, Nat.reduceLeDiff, Nat.reduceSub, Nat.reduceLT, Nat.reduceMul, Int.reduceToNat, Int.reduceEq, ↓reduceIte, reduceCtorEq, Bool.false_and, Bool.and_false, Bool.false_eq_true, Bool.true_or, Bool.or_true, Bool.false_or, Bool.or_false, Nat.reduceBEq, Int.reduceBEq, Int.reduceBNe, Int.reduceLT, Int.reduceLE, Int.reduceMul, Int.reduceAdd, Int.toNat_natCast, List.isEmpty_map, g1]) (by omega) (by first | rfl | simp (maxSteps := 1000000) +contextual -implicitDefEqProofs only [go_sem, R_c, G_c, D_c, DG_c, G_cf, G_cv, D_cf, DG_cf, E_c, E_cf, E_a, D_ap, D_mm, D_al, D_ldm, E_ap, E_mm, Nat.reduceEqDiff, Nat.reduceAdd, Nat.reduceLeDiff, Nat.reduceSub, Nat.reduceLT, Nat.reduceMul, Int.reduceToNat, Int.reduceEq, ↓reduceIte, reduceCtorEq, Bool.false_and, Bool.and_false, Bool.false_eq_true, Bool.true_or, Bool.or_true, Bool.false_or, Bool.or_false, Nat.reduceBEq, Int.reduceBEq, Int.reduceBNe, Int.reduceLT, Int.reduceLE, Int.reduceMul, Int.reduceAdd, Int.toNat_natCast, List.isEmpty_map, g1, g4, g5]) (by first | rfl | simp (maxSteps := 1000000) +contextual -implicitDefEqProofs only [go_sem, R_c, G_c, D_c, DG_c, G_cf, G_cv, D_cf, DG_cf, E_c, E_cf, E_a, D_ap, D_mm, D_al, D_ldm, E_ap, E_mm, Nat.reduceEqDiff, Nat.reduceAdd, Nat.reduceLeDiff, Nat.reduceSub, Nat.reduceLT, Nat.reduceMul, Int.reduceToNat, Int.reduceEq, ↓reduceIte, reduceCtorEq, Bool.false_and, Bool.and_false, Bool.false_eq_true, Bool.true_or, Bool.or_true, Bool.false_or, Bool.or_false, Nat.reduceBEq, Int.reduceBEq, Int.reduceBNe, Int.reduceLT, Int.reduceLE, Int.reduceMul, Int.reduceAdd, Int.toNat_natCast, List.isEmpty_map, g1, g4, g5]) (by first | rfl | simp (maxSteps := 1000000) +contextual -implicitDefEqProofs only [go_sem, R_c, G_c, D_c, DG_c, G_cf, G_cv, D_cf, DG_cf, E_c, E_cf, E_a, D_ap, D_mm, D_al, D_ldm, E_ap, E_mm, Nat.reduceEqDiff, Nat.reduceAdd, Nat.reduceLeDiff, Nat.reduceSub, Nat.reduceLT, Nat.reduceMul, Int.reduceToNat, Int.reduceEq, ↓reduceIte, reduceCtorEq, Bool.false_and, Bool.and_false, Bool.false_eq_true, Bool.true_or, Bool.or_true, Bool.false_or, Bool.or_false, Nat.reduceBEq, Int.reduceBEq, Int.reduceBNe, Int.reduceLT, Int.reduceLE, Int.reduceMul, Int.reduceAdd, Int.toNat_natCast, List.isEmpty_map, g1, g4, g5])
    rw [List.drop_zero] at g7 ⊢
    cases ha : e.all (endB nx) with
    | false =>
      have g7 := g7 ha
      rw [ha] at hout
      simp (maxSteps := 1000000) +contextual -implicitDefEqProofs only [go_sem, R_c, G_c, D_c, DG_c, G_cf, G_cv, D_cf, DG_cf, E_c, E_cf, E_a, D_ap, D_mm, D_al, D_ldm, E_ap, E_mm, Nat.reduceEqDiff, Nat.reduceAdd, Nat.reduceLeDiff, Nat.reduceSub, Nat.reduceLT, Nat.reduceMul, Int.reduceToNat, Int.reduceEq, ↓reduceIte, reduceCtorEq, Bool.false_and, Bool.and_false, Bool.false_eq_true, Bool.true_or, Bool.or_true, Bool.false_or, Bool.or_false, Nat.reduceBEq, Int.reduceBEq, Int.reduceBNe, Int.reduceLT, Int.reduceLE, Int.reduceMul, Int.reduceAdd, Int.toNat_natCast, List.isEmpty_map, ha, g6, g7, hout]
    | true =>
      rw [ha] at hout
      simp (maxSteps := 1000000) +contextual -implicitDefEqProofs only [go_sem, R_c, G_c, D_c, DG_c, G_cf, G_cv, D_cf, DG_cf, E_c, E_cf, E_a, D_ap, D_mm, D_al, D_ldm, E_ap, E_mm, Nat.reduceEqDiff, Nat.reduceAdd, Nat.reduceLeDiff, Nat.reduceSub, Nat.reduceLT, Nat.reduceMul, Int.reduceToNat, Int.reduceEq, ↓reduceIte, reduceCtorEq, Bool.false_and, Bool.and_false, Bool.false_eq_true, Bool.true_or, Bool.or_true, Bool.false_or, Bool.or_false, Nat.reduceBEq, Int.reduceBEq, Int.reduceBNe, Int.reduceLT, Int.reduceLE, Int.reduceMul, Int.reduceAdd, Int.toNat_natCast, List.isEmpty_map, ha, g6, hout]
theorem q14 (e : List En) (h0 : 0 ≤ nx) (hl : l.length < 1000000) (hb : ∀ x ∈ l, x.b.length < 1000000) (hc : ∀ x ∈ l, ∀ c ∈ x.b, c < 256) (hn : ∀ x ∈ l, 0 ≤ x.n) (he : e.length < 1000000) (hne : ∀ x ∈ e, 0 ≤ x.n) :
    qv (EF pg) 14 [.agg [vu nx, lst .ro 6 q (l.map Og.D), lst .ro 2 q2 (e.map En.D)]] = some (vb (outB nx l e)) := qv_of fun B => w14 nx l q q2 B e h0 hl hb hc hn he hne
end
end Go.Proofs.Ytlhjdikklmkihaa.Ev
