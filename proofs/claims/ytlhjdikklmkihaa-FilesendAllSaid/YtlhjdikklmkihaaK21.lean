/- What is large; the same sendings. Conditions: none. -/
import Derived.Test.YtlhjdikklmkihaaJ21
set_option linter.all false
namespace Go.Proofs.Ytlhjdikklmkihaa.Ev
open Go
def bigB (x : Og) : Bool := decide ((x.b.length : Int) > 5000) || decide ((x.nm.size : Int) > 1000)
section
variable (B : List Bx)
theorem l8 (z : List Og) (hl : z.length < 1000000) : ∀ (k i : Nat) {s : S} {r : Option (Ex × S)}, evC (EF pg) l8x0 s = r → s.o = B → i + k = z.length → get 22 s.e = .sl .app 6 (z.map Og.D) → get 23 s.e = vi z.length → get 24 s.e = vi i →
    ∃ s', r = some (if (z.drop i).any bigB = true then .rt else .ex 0, s') ∧ s'.o = B ∧ ((z.drop i).any bigB = true → get 4 s'.e = vb true) := by
  intro k
  induction k with
  | zero =>
    intro i s r hr ho hi h22 h23 h24
    have hd : decide ((i : Int) < (z.length : Int)) = false := decide_eq_false (by omega)
    rw [lp_n (L := l8x0) rfl] at hr
    simp (maxSteps := 1000000) +contextual -implicitDefEqProofs only [go_sem, R_c, G_c, D_c, DG_c, G_cf, G_cv, D_cf, DG_cf, E_c, E_cf, E_a, D_ap, D_mm, D_al, D_ldm, E_ap, E_mm, Nat.reduceEqDiff, Nat.reduceAdd, Nat.reduceLeDiff, Nat.reduceSub, Nat.reduceLT, Nat.reduceMul, Int.reduceToNat, Int.reduceEq, ↓reduceIte, reduceCtorEq, Bool.false_and, Bool.and_false, Bool.false_eq_true, Bool.true_or, Bool.or_true, Bool.false_or, Bool.or_false, Nat.reduceBEq, Int.reduceBEq, Int.reduceBNe, Int.reduceLT, Int.reduceLE, Int.reduceMul, Int.reduceAdd, Int.toNat_natCast, List.isEmpty_map, b8x0, h22, h23, h24, ho, hd] at hr
    subst hr
    rw [List.drop_of_length_le (by omega)]
    exact ⟨_, rfl, rfl, fun h => by cases h⟩
  | succ k ih =>
    intro i s r hr ho hi h22 h23 h24
    have hd : decide ((i : Int) < (z.length : Int)) = true := decide_eq_true (by omega)
    have hw : IntKind.i64.wrap ((i : Int) + 1) = ((i + 1 : Nat) : Int) := by rw [wi64 (by omega)]; omega
    obtain ⟨x, hx⟩ : ∃ x, z[i]? = some x := ⟨_, List.getElem?_eq_getElem (by omega)⟩
    have hdr : z.drop i = x :: z.drop (i + 1) := (List.drop_eq_getElem_cons (by omega)).trans (by rw [(List.getElem?_eq_some_iff.1 hx).2])
    rw [hdr, List.any_cons]
    rw [lp_n (L := l8x0) rfl] at hr
    cases c1 : decide ((x.b.length : Int) > 5000) with
    | true =>
      simp (maxSteps := 1000000) +contextual -implicitDefEqProofs only [go_sem, R_c, G_c, D_c, DG_c, G_cf, G_cv, D_cf, DG_cf, E_c, E_cf, E_a, D_ap, D_mm, D_al, D_ldm, E_ap, E_mm, Nat.reduceEqDiff, Nat.reduceAdd, Nat.reduceLeDiff, Nat.reduceSub, Nat.reduceLT, Nat.reduceMul, Int.reduceToNat, Int.reduceEq, ↓reduceIte, reduceCtorEq, Bool.false_and, Bool.and_false, Bool.false_eq_true, Bool.true_or, Bool.or_true, Bool.false_or, Bool.or_false, Nat.reduceBEq, Int.reduceBEq, Int.reduceBNe, Int.reduceLT, Int.reduceLE, Int.reduceMul, Int.reduceAdd, Int.toNat_natCast, List.isEmpty_map, b8x0, h22, h23, h24, ho, hd, hx, hw, List.getElem?_map, Og.D, c1] at hr
      rw [show bigB x = true by simp only [bigB, c1, Bool.true_or], Bool.true_or]
      exact ⟨_, hr.symm, rfl, fun _ => rfl⟩
    | false =>
    cases c2 : decide ((x.nm.size : Int) > 1000) with
    | true =>
      simp (maxSteps := 1000000) +contextual -implicitDefEqProofs only [go_sem, R_c, G_c, D_c, DG_c, G_cf, G_cv, D_cf, DG_cf, E_c, E_cf, E_a, D_ap, D_mm, D_al, D_ldm, E_ap, E_mm, Nat.reduceEqDiff, Nat.reduceAdd, Nat.reduceLeDiff, Nat.reduceSub, Nat.reduceLT, Nat.reduceMul, Int.reduceToNat, Int.reduceEq, ↓reduceIte, reduceCtorEq, Bool.false_and, Bool.and_false, Bool.false_eq_true, Bool.true_or, Bool.or_true, Bool.false_or, Bool.or_false, Nat.reduceBEq, Int.reduceBEq, Int.reduceBNe, Int.reduceLT, Int.reduceLE, Int.reduceMul, Int.reduceAdd, Int.toNat_natCast, List.isEmpty_map, b8x0, h22, h23, h24, ho, hd, hx, hw, List.getElem?_map, Og.D, c1, c2] at hr
      rw [show bigB x = true by simp only [bigB, c2, Bool.or_true], Bool.true_or]
      exact ⟨_, hr.symm, rfl, fun _ => rfl⟩
    | false =>
      simp (maxSteps := 1000000) +contextual -implicitDefEqProofs only [go_sem, R_c, G_c, D_c, DG_c, G_cf, G_cv, D_cf, DG_cf, E_c, E_cf, E_a, D_ap, D_mm, D_al, D_ldm, E_ap, E_mm, Nat.reduceEqDiff, Nat.reduceAdd, Nat.reduceLeDiff, Nat.reduceSub, Nat.reduceLT, Nat.reduceMul, Int.reduceToNat, Int.reduceEq, ↓reduceIte, reduceCtorEq, Bool.false_and, Bool.and_false, Bool.false_eq_true, Bool.true_or, Bool.or_true, Bool.false_or, Bool.or_false, Nat.reduceBEq, Int.reduceBEq, Int.reduceBNe, Int.reduceLT, Int.reduceLE, Int.reduceMul, Int.reduceAdd, Int.toNat_natCast, List.isEmpty_map, b8x0, h22, h23, h24, ho, hd, hx, hw, List.getElem?_map, Og.D, c1, c2] at hr
      rw [show bigB x = false by simp only [bigB, c1, c2, Bool.or_false], Bool.false_or]
      exact ih (i + 1) hr rfl (by omega) rfl rfl rfl
def largeB (l : List Og) (e : Nat) (x : Og) : Bool := decide ((l.length : Int) > 20) || decide ((e : Int) > 100) || (l ++ [x]).any bigB
theorem w8 (nx : Int) (l : List Og) (e : List D) (q q2 : Bool) (x : Og) : EF pg 8 [.agg [vu nx, lst .ro 6 q (l.map Og.D), lst .ro 2 q2 e], .sl .ro 6 [.agg [vu x.n, vi x.d, vs x.nm, lst .ro 1 x.q (x.b.map un), vi x.s, vi x.u]]] B = some (vb (largeB l e.length x), B) := by
  rw [EF_call p8 rfl (by simp [F8]) (by simp (maxSteps := 1000000) +contextual -implicitDefEqProofs only [go_sem, R_c, G_c, D_c, DG_c, G_cf, G_cv, D_cf, DG_cf, E_c, E_cf, E_a, D_ap, D_mm, D_al, D_ldm, E_ap, E_mm, Nat.reduceEqDiff, Nat.reduceAdd, Nat.reduceLeDiff, Nat.reduceSub, Nat.reduceLT, Nat.reduceMul, Int.reduceToNat, Int.reduceEq, ↓reduceIte, reduceCtorEq, Bool.false_and, Bool.and_false, Bool.false_eq_true, Bool.true_or, Bool.or_true, Bool.false_or, Bool.or_false, Nat.reduceBEq, Int.reduceBEq, Int.reduceBNe, Int.reduceLT, Int.reduceLE, Int.reduceMul, Int.reduceAdd, Int.toNat_natCast, List.isEmpty_map, ])]
  unfold largeB
  cases c1 : decide ((l.length : Int) > 20) with
  | true => simp (maxSteps := 1000000) +contextual -implicitDefEqProofs only [go_sem, R_c, G_c, D_c, DG_c, G_cf, G_cv, D_cf, DG_cf, E_c, E_cf, E_a, D_ap, D_mm, D_al, D_ldm, E_ap, E_mm, Nat.reduceEqDiff, Nat.reduceAdd, Nat.reduceLeDiff, Nat.reduceSub, Nat.reduceLT, Nat.reduceMul, Int.reduceToNat, Int.reduceEq, ↓reduceIte, reduceCtorEq, Bool.false_and, Bool.and_false, Bool.false_eq_true, Bool.true_or, Bool.or_true, Bool.false_or, Bool.or_false, Nat.reduceBEq, Int.reduceBEq, Int.reduceBNe, Int.reduceLT, Int.reduceLE, Int.reduceMul, Int.reduceAdd, Int.toNat_natCast, List.isEmpty_map, F8, c8, c1]
  | false =>
  cases c2 : decide ((e.length : Int) > 100) with
  | true => simp (maxSteps := 1000000) +contextual -implicitDefEqProofs only [go_sem, R_c, G_c, D_c, DG_c, G_cf, G_cv, D_cf, DG_cf, E_c, E_cf, E_a, D_ap, D_mm, D_al, D_ldm, E_ap, E_mm, Nat.reduceEqDiff, Nat.reduceAdd, Nat.reduceLeDiff, Nat.reduceSub, Nat.reduceLT, Nat.reduceMul, Int.reduceToNat, Int.reduceEq, ↓reduceIte, reduceCtorEq, Bool.false_and, Bool.and_false, Bool.false_eq_true, Bool.true_or, Bool.or_true, Bool.false_or, Bool.or_false, Nat.reduceBEq, Int.reduceBEq, Int.reduceBNe, Int.reduceLT, Int.reduceLE, Int.reduceMul, Int.reduceAdd, Int.toNat_natCast, List.isEmpty_map, F8, c8, c1, c2]
  | false =>
    have hl : l.length ≤ 20 := by have := of_decide_eq_false c1; omega
    have hle : l.length * 72 ≤ 140737488355328 := by omega
    have hle2 : (l.length + 1) * 72 ≤ 140737488355328 := by omega
    have hap : l.map Og.D ++ [.agg [vu x.n, vi x.d, vs x.nm, lst .ro 1 x.q (x.b.map un), vi x.s, vi x.u]] = (l ++ [x]).map Og.D := by rw [List.map_append]; rfl
    simp (maxSteps := 1000000) +contextual -implicitDefEqProofs only [go_sem, R_c, G_c, D_c, DG_c, G_cf, G_cv, D_cf, DG_cf, E_c, E_cf, E_a, D_ap, D_mm, D_al, D_ldm, E_ap, E_mm, Nat.reduceEqDiff, Nat.reduceAdd, Nat.reduceLeDiff, Nat.reduceSub, Nat.reduceLT, Nat.reduceMul, Int.reduceToNat, Int.reduceEq, ↓reduceIte, reduceCtorEq, Bool.false_and, Bool.and_false, Bool.false_eq_true, Bool.true_or, Bool.or_true, Bool.false_or, Bool.or_false, Nat.reduceBEq, Int.reduceBEq, Int.reduceBNe, Int.reduceLT, Int.reduceLE, Int.reduceMul, Int.reduceAdd, Int.toNat_natCast, List.isEmpty_map, F8, c8, c1, c2, hle, hle2, hap]
    generalize hz : evC (EF pg) l8x0 _ = z
    obtain ⟨s', rfl, g1, g2⟩ := l8 B (l ++ [x]) (by simp; omega) (l ++ [x]).length 0 hz rfl (by omega) rfl (by rw [List.length_append]; rfl) rfl
    rw [List.drop_zero] at g2 ⊢
    cases ha : (l ++ [x]).any bigB with
    | true =>
      have g2 := g2 ha
      simp (maxSteps := 1000000) +contextual -implicitDefEqProofs only [go_sem, R_c, G_c, D_c, DG_c, G_cf, G_cv, D_cf, DG_cf, E_c, E_cf, E_a, D_ap, D_mm, D_al, D_ldm, E_ap, E_mm, Nat.reduceEqDiff, Nat.reduceAdd, Nat.reduceLeDiff, Nat.reduceSub, Nat.reduceLT, Nat.reduceMul, Int.reduceToNat, Int.reduceEq, ↓reduceIte, reduceCtorEq, Bool.false_and, Bool.and_false, Bool.false_eq_true, Bool.true_or, Bool.or_true, Bool.false_or, Bool.or_false, Nat.reduceBEq, Int.reduceBEq, Int.reduceBNe, Int.reduceLT, Int.reduceLE, Int.reduceMul, Int.reduceAdd, Int.toNat_natCast, List.isEmpty_map, ha, g1, g2]
    | false => simp (maxSteps := 1000000) +contextual -implicitDefEqProofs only [go_sem, R_c, G_c, D_c, DG_c, G_cf, G_cv, D_cf, DG_cf, E_c, E_cf, E_a, D_ap, D_mm, D_al, D_ldm, E_ap, E_mm, Nat.reduceEqDiff, Nat.reduceAdd, Nat.reduceLeDiff, Nat.reduceSub, Nat.reduceLT, Nat.reduceMul, Int.reduceToNat, Int.reduceEq, ↓reduceIte, reduceCtorEq, Bool.false_and, Bool.and_false, Bool.false_eq_true, Bool.true_or, Bool.or_true, Bool.false_or, Bool.or_false, Nat.reduceBEq, Int.reduceBEq, Int.reduceBNe, Int.reduceLT, Int.reduceLE, Int.reduceMul, Int.reduceAdd, Int.toNat_natCast, List.isEmpty_map, ha, g1]
theorem w16 : EF pg 16 [] B = some (.agg [vu 1, .sl .nl 0 [], .sl .nl 0 []], B) := by
  rw [EF_call p16 rfl (by simp [F16]) (by simp (maxSteps := 1000000) +contextual -implicitDefEqProofs only [go_sem, R_c, G_c, D_c, DG_c, G_cf, G_cv, D_cf, DG_cf, E_c, E_cf, E_a, D_ap, D_mm, D_al, D_ldm, E_ap, E_mm, Nat.reduceEqDiff, Nat.reduceAdd, Nat.reduceLeDiff, Nat.reduceSub, Nat.reduceLT, Nat.reduceMul, Int.reduceToNat, Int.reduceEq, ↓reduceIte, reduceCtorEq, Bool.false_and, Bool.and_false, Bool.false_eq_true, Bool.true_or, Bool.or_true, Bool.false_or, Bool.or_false, Nat.reduceBEq, Int.reduceBEq, Int.reduceBNe, Int.reduceLT, Int.reduceLE, Int.reduceMul, Int.reduceAdd, Int.toNat_natCast, List.isEmpty_map, ])]
  simp (maxSteps := 1000000) +contextual -implicitDefEqProofs only [go_sem, R_c, G_c, D_c, DG_c, G_cf, G_cv, D_cf, DG_cf, E_c, E_cf, E_a, D_ap, D_mm, D_al, D_ldm, E_ap, E_mm, Nat.reduceEqDiff, Nat.reduceAdd, Nat.reduceLeDiff, Nat.reduceSub, Nat.reduceLT, Nat.reduceMul, Int.reduceToNat, Int.reduceEq, ↓reduceIte, reduceCtorEq, Bool.false_and, Bool.and_false, Bool.false_eq_true, Bool.true_or, Bool.or_true, Bool.false_or, Bool.or_false, Nat.reduceBEq, Int.reduceBEq, Int.reduceBNe, Int.reduceLT, Int.reduceLE, Int.reduceMul, Int.reduceAdd, Int.toNat_natCast, List.isEmpty_map, F16, c16]
theorem cp_eq {x y : Og} (h : x.cp = y.cp) : y = { x with q := y.q } := by
  cases x; cases y
  simp only [Og.cp, Og.mk.injEq] at h ⊢
  obtain ⟨h1, h2, h3, h4, h5, h6, h7⟩ := h
  exact ⟨h1.symm, h2.symm, h3.symm, trivial, h5.symm, h6.symm, h7.symm⟩
theorem l15a (nx : Int) (l l' : List Og) (q q' : Bool) (eD eD' : D) (h1 : eD.in1 B.length [2, 3] = true) (h2 : eD'.in1 B.length [2, 3] = true) (hl : l.length < 1000000) (hb : ∀ x ∈ l, x.b.length < 1000000) (he : l.map Og.cp = l'.map Og.cp) : ∀ (k i : Nat) {s : S} {r : Option (Ex × S)}, evC (EF pg) l15x0 s = r → s.o = B → i + k = l.length → get 2 s.e = .ptr B.length 2 0 → get 3 s.e = .ptr B.length 3 0 → get 5 s.e = vi i →
    lk 2 s.l = some [vu nx, lst .ro 6 q (l.map Og.D), eD] → lk 3 s.l = some [vu nx, lst .ro 6 q' (l'.map Og.D), eD'] →
    ∃ s', r = some (.ex 0, s') ∧ s'.o = B ∧ get 2 s'.e = .ptr B.length 2 0 ∧ get 3 s'.e = .ptr B.length 3 0 ∧ s'.l = [(2, [vu nx, lst .ro 6 q (l.map Og.D), eD]), (3, [vu nx, lst .ro 6 q' (l'.map Og.D), eD'])] := by
  have hll : l.length = l'.length := by have := congrArg List.length he; simpa using this
  intro k
  induction k with
  | zero =>
    intro i s r hr ho hi g2 g3 g5 k2 k3
    have hd : decide ((i : Int) < (l.length : Int)) = false := decide_eq_false (by omega)
    rw [lp_n (L := l15x0) rfl] at hr
    simp (maxSteps := 1000000) +contextual -implicitDefEqProofs only [go_sem, R_c, G_c, D_c, DG_c, G_cf, G_cv, D_cf, DG_cf, E_c, E_cf, E_a, D_ap, D_mm, D_al, D_ldm, E_ap, E_mm, Nat.reduceEqDiff, Nat.reduceAdd, Nat.reduceLeDiff, Nat.reduceSub, Nat.reduceLT, Nat.reduceMul, Int.reduceToNat, Int.reduceEq, ↓reduceIte, reduceCtorEq, Bool.false_and, Bool.and_false, Bool.false_eq_true, Bool.true_or, Bool.or_true, Bool.false_or, Bool.or_false, Nat.reduceBEq, Int.reduceBEq, Int.reduceBNe, Int.reduceLT, Int.reduceLE, Int.reduceMul, Int.reduceAdd, Int.toNat_natCast, List.isEmpty_map, b15x0, g2, g3, g5, k2, k3, h1, h2, ho, hd] at hr
    subst hr
    exact ⟨_, rfl, rfl, rfl, rfl, rfl⟩
  | succ k ih =>
    intro i s r hr ho hi g2 g3 g5 k2 k3
    have hd : decide ((i : Int) < (l.length : Int)) = true := decide_eq_true (by omega)
    have hw : IntKind.i64.wrap ((i : Int) + 1) = ((i + 1 : Nat) : Int) := by rw [wi64 (by omega)]; omega
    obtain ⟨x, hx⟩ : ∃ x, l[i]? = some x := ⟨_, List.getElem?_eq_getElem (by omega)⟩
    obtain ⟨y, hy⟩ : ∃ y, l'[i]? = some y := ⟨_, List.getElem?_eq_getElem (by omega)⟩
    have hxy : x.cp = y.cp := by
      have := congrArg (fun z => z[i]?) he
      simpa [hx, hy] using this
    rw [cp_eq hxy] at hy
    have hxb := hb x (List.mem_of_getElem? hx)
    have h32 := fun B => w32 x.b x.b (by omega) x.q y.q B
    simp only [decide_true] at h32
    rw [lp_n (L := l15x0) rfl] at hr
    simp (maxSteps := 1000000) +contextual -implicitDefEqProofs only [go_sem, R_c, G_c, D_c, DG_c, G_cf, G_cv, D_cf, DG_cf, E_c, E_cf, E_a, D_ap, D_mm, D_al, D_ldm, E_ap, E_mm, Nat.reduceEqDiff, Nat.reduceAdd, Nat.reduceLeDiff, Nat.reduceSub, Nat.reduceLT, Nat.reduceMul, Int.reduceToNat, Int.reduceEq, ↓reduceIte, reduceCtorEq, Bool.false_and, Bool.and_false, Bool.false_eq_true, Bool.true_or, Bool.or_true, Bool.false_or, Bool.or_false, Nat.reduceBEq, Int.reduceBEq, Int.reduceBNe, Int.reduceLT, Int.reduceLE, Int.reduceMul, Int.reduceAdd, Int.toNat_natCast, List.isEmpty_map, b15x0, g2, g3, g5, k2, k3, h1, h2, ho, hd, hx, hy, hw, List.getElem?_map, Og.D, h32, bne_self_eq_false, Bool.bne_true] at hr
    exact ih (i + 1) hr rfl (by omega) rfl rfl rfl rfl rfl
theorem l15b (nx : Int) (e : List En) (q q' : Bool) (lD lD' : D) (h1 : lD.in1 B.length [2, 3] = true) (h2 : lD'.in1 B.length [2, 3] = true) (he : e.length < 1000000) : ∀ (k i : Nat) {s : S} {r : Option (Ex × S)}, evC (EF pg) l15x1 s = r → s.o = B → i + k = e.length → get 2 s.e = .ptr B.length 2 0 → get 3 s.e = .ptr B.length 3 0 → get 8 s.e = vi i →
    lk 2 s.l = some [vu nx, lD, lst .ro 2 q (e.map En.D)] → lk 3 s.l = some [vu nx, lD', lst .ro 2 q' (e.map En.D)] →
    ∃ s', r = some (.ex 2, s') ∧ s'.o = B := by
  intro k
  induction k with
  | zero =>
    intro i s r hr ho hi g2 g3 g5 k2 k3
    have hd : decide ((i : Int) < (e.length : Int)) = false := decide_eq_false (by omega)
    rw [lp_n (L := l15x1) rfl] at hr
    simp (maxSteps := 1000000) +contextual -implicitDefEqProofs only [go_sem, R_c, G_c, D_c, DG_c, G_cf, G_cv, D_cf, DG_cf, E_c, E_cf, E_a, D_ap, D_mm, D_al, D_ldm, E_ap, E_mm, Nat.reduceEqDiff, Nat.reduceAdd, Nat.reduceLeDiff, Nat.reduceSub, Nat.reduceLT, Nat.reduceMul, Int.reduceToNat, Int.reduceEq, ↓reduceIte, reduceCtorEq, Bool.false_and, Bool.and_false, Bool.false_eq_true, Bool.true_or, Bool.or_true, Bool.false_or, Bool.or_false, Nat.reduceBEq, Int.reduceBEq, Int.reduceBNe, Int.reduceLT, Int.reduceLE, Int.reduceMul, Int.reduceAdd, Int.toNat_natCast, List.isEmpty_map, b15x1, g2, g3, g5, k2, k3, h1, h2, ho, hd] at hr
    subst hr
    exact ⟨_, rfl, rfl⟩
  | succ k ih =>
    intro i s r hr ho hi g2 g3 g5 k2 k3
    have hd : decide ((i : Int) < (e.length : Int)) = true := decide_eq_true (by omega)
    have hw : IntKind.i64.wrap ((i : Int) + 1) = ((i + 1 : Nat) : Int) := by rw [wi64 (by omega)]; omega
    obtain ⟨x, hx⟩ : ∃ x, e[i]? = some x := ⟨_, List.getElem?_eq_getElem (by omega)⟩
    rw [lp_n (L := l15x1) rfl] at hr
    simp (maxSteps := 1000000) +contextual -implicitDefEqProofs only [go_sem, R_c, G_c, D_c, DG_c, G_cf, G_cv, D_cf, DG_cf, E_c, E_cf, E_a, D_ap, D_mm, D_al, D_ldm, E_ap, E_mm, Nat.reduceEqDiff, Nat.reduceAdd, Nat.reduceLeDiff, Nat.reduceSub, Nat.reduceLT, Nat.reduceMul, Int.reduceToNat, Int.reduceEq, ↓reduceIte, reduceCtorEq, Bool.false_and, Bool.and_false, Bool.false_eq_true, Bool.true_or, Bool.or_true, Bool.false_or, Bool.or_false, Nat.reduceBEq, Int.reduceBEq, Int.reduceBNe, Int.reduceLT, Int.reduceLE, Int.reduceMul, Int.reduceAdd, Int.toNat_natCast, List.isEmpty_map, b15x1, g2, g3, g5, k2, k3, h1, h2, ho, hd, hx, hw, List.getElem?_map, En.D, veqs, veq, bne_self_eq_false, Bool.bne_true] at hr
    exact ih (i + 1) hr rfl (by omega) rfl rfl rfl rfl rfl
/-- Those that differ in where their bytes stand alone are the same. -/
theorem w15 (nx : Int) (l l' : List Og) (e : List En) (q q' q2 q2' : Bool) (hl : l.length < 1000000) (hb : ∀ x ∈ l, x.b.length < 1000000) (he : e.length < 1000000) (hll : l.map Og.cp = l'.map Og.cp) : EF pg 15 [.agg [vu nx, lst .ro 6 q (l.map Og.D), lst .ro 2 q2 (e.map En.D)], .agg [vu nx, lst .ro 6 q' (l'.map Og.D), lst .ro 2 q2' (e.map En.D)]] B = some (vb true, B) := by
  rw [EF_call p15 rfl (by simp [F15]) (by simp (maxSteps := 1000000) +contextual -implicitDefEqProofs only [go_sem, R_c, G_c, D_c, DG_c, G_cf, G_cv, D_cf, DG_cf, E_c, E_cf, E_a, D_ap, D_mm, D_al, D_ldm, E_ap, E_mm, Nat.reduceEqDiff, Nat.reduceAdd, Nat.reduceLeDiff, Nat.reduceSub, Nat.reduceLT, Nat.reduceMul, Int.reduceToNat, Int.reduceEq, ↓reduceIte, reduceCtorEq, Bool.false_and, Bool.and_false, Bool.false_eq_true, Bool.true_or, Bool.or_true, Bool.false_or, Bool.or_false, Nat.reduceBEq, Int.reduceBEq, Int.reduceBNe, Int.reduceLT, Int.reduceLE, Int.reduceMul, Int.reduceAdd, Int.toNat_natCast, List.isEmpty_map, ])]
  have hlen : l'.length = l.length := by have := congrArg List.length hll; simpa using this.symm
  simp (maxSteps := 1000000) +contextual -implicitDefEqProofs only [go_sem, R_c, G_c, D_c, DG_c, G_cf, G_cv, D_cf, DG_cf, E_c, E_cf, E_a, D_ap, D_mm, D_al, D_ldm, E_ap, E_mm, Nat.reduceEqDiff, Nat.reduceAdd, Nat.reduceLeDiff, Nat.reduceSub, Nat.reduceLT, Nat.reduceMul, Int.reduceToNat, Int.reduceEq, ↓reduceIte, reduceCtorEq, Bool.false_and, Bool.and_false, Bool.false_eq_true, Bool.true_or, Bool.or_true, Bool.false_or, Bool.or_false, Nat.reduceBEq, Int.reduceBEq, Int.reduceBNe, Int.reduceLT, Int.reduceLE, Int.reduceMul, Int.reduceAdd, Int.toNat_natCast, List.isEmpty_map, F15, c15, hlen, bne_self_eq_false]
  generalize hz : evC (EF pg) l15x0 _ = z
  obtain ⟨s', rfl, g1, g2, g3, g4⟩ := l15a B nx l l' q q' (lst .ro 2 q2 (e.map En.D)) (lst .ro 2 q2' (e.map En.D)) (by simp (maxSteps := 1000000) +contextual -implicitDefEqProofs only [go_sem, R_c, G_c, D_c, DG_c, G_cf, G_cv, D_cf, DG_cf, E_c, E_cf, E_a, D_ap, D_mm, D_al, D_ldm, E_ap, E_mm, Nat.reduceEqDiff, Nat.reduceAdd, Nat.reduceLeDiff, Nat.reduceSub, Nat.reduceLT, Nat.reduceMul, Int.reduceToNat, Int.reduceEq, ↓reduceIte, reduceCtorEq, Bool.false_and, Bool.and_false, Bool.false_eq_true, Bool.true_or, Bool.or_true, Bool.false_or, Bool.or_false, Nat.reduceBEq, Int.reduceBEq, Int.reduceBNe, Int.reduceLT, Int.reduceLE, Int.reduceMul, Int.reduceAdd, Int.toNat_natCast, List.isEmpty_map, ]) (by simp (maxSteps := 1000000) +contextual -implicitDefEqProofs only [go_sem, R_c, G_c, D_c, DG_c, G_cf, G_cv, D_cf, DG_cf, E_c, E_cf, E_a, D_ap, D_mm, D_al, D_ldm, E_ap, E_mm, Nat.reduceEqDiff, Nat.reduceAdd, Nat.reduceLeDiff, Nat.reduceSub, Nat.reduceLT, Nat.reduceMul, Int.reduceToNat, Int.reduceEq, ↓reduceIte, reduceCtorEq, Bool.false_and, Bool.and_false, Bool.false_eq_true, Bool.true_or, Bool.or_true, Bool.false_or, Bool.or_false, Nat.reduceBEq, Int.reduceBEq, Int.reduceBNe, Int.reduceLT, Int.reduceLE, Int.reduceMul, Int.reduceAdd, Int.toNat_natCast, List.isEmpty_map, ]) hl hb hll l.length 0 hz rfl (by omega) rfl rfl rfl rfl rfl
  simp (maxSteps := 1000000) +contextual -implicitDefEqProofs only [go_sem, R_c, G_c, D_c, DG_c, G_cf, G_cv, D_cf, DG_cf, E_c, E_cf, E_a, D_ap, D_mm, D_al, D_ldm, E_ap, E_mm, Nat.reduceEqDiff, Nat.reduceAdd, Nat.reduceLeDiff, Nat.reduceSub, Nat.reduceLT, Nat.reduceMul, Int.reduceToNat, Int.reduceEq, ↓reduceIte, reduceCtorEq, Bool.false_and, Bool.and_false, Bool.false_eq_true, Bool.true_or, Bool.or_true, Bool.false_or, Bool.or_false, Nat.reduceBEq, Int.reduceBEq, Int.reduceBNe, Int.reduceLT, Int.reduceLE, Int.reduceMul, Int.reduceAdd, Int.toNat_natCast, List.isEmpty_map, g1, g2, g3, g4]
  generalize hz : evC (EF pg) l15x1 _ = z
  obtain ⟨s'', rfl, g5⟩ := l15b B nx e q2 q2' (lst .ro 6 q (l.map Og.D)) (lst .ro 6 q' (l'.map Og.D)) (by simp (maxSteps := 1000000) +contextual -implicitDefEqProofs only [go_sem, R_c, G_c, D_c, DG_c, G_cf, G_cv, D_cf, DG_cf, E_c, E_cf, E_a, D_ap, D_mm, D_al, D_ldm, E_ap, E_mm, Nat.reduceEqDiff, Nat.reduceAdd, Nat.reduceLeDiff, Nat.reduceSub, Nat.reduceLT, Nat.reduceMul, Int.reduceToNat, Int.reduceEq, ↓reduceIte, reduceCtorEq, Bool.false_and, Bool.and_false, Bool.false_eq_true, Bool.true_or, Bool.or_true, Bool.false_or, Bool.or_false, Nat.reduceBEq, Int.reduceBEq, Int.reduceBNe, Int.reduceLT, Int.reduceLE, Int.reduceMul, Int.reduceAdd, Int.toNat_natCast, List.isEmpty_map, ]) (by simp (maxSteps := 1000000) +contextual -implicitDefEqProofs only [go_sem, R_c, G_c, D_c, DG_c, G_cf, G_cv, D_cf, DG_cf, E_c, E_cf, E_a, D_ap, D_mm, D_al, D_ldm, E_ap, E_mm, Nat.reduceEqDiff, Nat.reduceAdd, Nat.reduceLeDiff, Nat.reduceSub, Nat.reduceLT, Nat.reduceMul, Int.reduceToNat, Int.reduceEq, ↓reduceIte, reduceCtorEq, Bool.false_and, Bool.and_false, Bool.false_eq_true, Bool.true_or, Bool.or_true, Bool.false_or, Bool.or_false, Nat.reduceBEq, Int.reduceBEq, Int.reduceBNe, Int.reduceLT, Int.reduceLE, Int.reduceMul, Int.reduceAdd, Int.toNat_natCast, List.isEmpty_map, ]) he e.length 0 hz (by simp (maxSteps := 1000000) +contextual -implicitDefEqProofs only [go_sem, R_c, G_c, D_c, DG_c, G_cf, G_cv, D_cf, DG_cf, E_c, E_cf, E_a, D_ap, D_mm, D_al, D_ldm, E_ap, E_mm, Nat.reduceEqDiff, Nat.reduceAdd, Nat.reduceLeDiff, Nat.reduceSub, Nat.reduceLT, Nat.reduceMul, Int.reduceToNat, Int.reduceEq, ↓reduceIte, reduceCtorEq, Bool.false_and, Bool.and_false, Bool.false_eq_true, Bool.true_or, Bool.or_true, Bool.false_or, Bool.or_false, Nat.reduceBEq, Int.reduceBEq, Int.reduceBNe, Int.reduceLT, Int.reduceLE, Int.reduceMul, Int.reduceAdd, Int.toNat_natCast, List.isEmpty_map, g1]) (by omega) (by first | rfl | simp (maxSteps := 1000000) +contextual -implicitDefEqProofs only [go_sem, R_c, G_c, D_c, DG_c, G_cf, G_cv, D_cf, DG_cf, E_c, E_cf, E_a, D_ap, D_mm, D_al, D_ldm, E_ap, E_mm, Nat.reduceEqDiff, Nat.reduceAdd, Nat.reduceLeDiff, Nat.reduceSub, Nat.reduceLT, Nat.reduceMul, Int.reduceToNat, Int.reduceEq, ↓reduceIte, reduceCtorEq, Bool.false_and, Bool.and_false, Bool.false_eq_true, Bool.true_or, Bool.or_true, Bool.false_or, Bool.or_false, Nat.reduceBEq, Int.reduceBEq, Int.reduceBNe, Int.reduceLT, Int.reduceLE, Int.reduceMul, Int.reduceAdd, Int.toNat_natCast, List.isEmpty_map, g1, g2, g3, g4]) (by first | rfl | simp (maxSteps := 1000000) +contextual -implicitDefEqProofs only [go_sem, R_c, G_c, D_c, DG_c, G_cf, G_cv, D_cf, DG_cf, E_c, E_cf, E_a, D_ap, D_mm, D_al, D_ldm, E_ap, E_mm, Nat.reduceEqDiff, Nat.reduceAdd, Nat.reduceLeDiff, Nat.reduceSub, Nat.reduceLT, Nat.reduceMul, Int.reduceToNat, Int.reduceEq, ↓reduceIte, reduceCtorEq, Bool.false_and, Bool.and_false, Bool.false_eq_true, Bool.true_or, Bool.or_true, Bool.false_or, Bool.or_false, Nat.reduceBEq, Int.reduceBEq, Int.reduceBNe, Int.reduceLT, Int.reduceLE, Int.reduceMul, Int.reduceAdd, Int.toNat_natCast, List.isEmpty_map, g1, g2, g3, g4]) (by first | rfl | simp (maxSteps := 1000000) +contextual -implicitDefEqProofs only [go_sem, R_c, G_c, D_c, DG_c, G_cf, G_cv, D_cf, DG_cf, E_c, E_cf, E_a, D_ap, D_mm, D_al, D_ldm, E_ap, E_mm, Nat.reduceEqDiff, Nat.reduceAdd, Nat.reduceLeDiff, Nat.reduceSub, Nat.reduceLT, Nat.reduceMul, Int.reduceToNat, Int.reduceEq, ↓reduceIte, reduceCtorEq, Bool.false_and, Bool.and_false, Bool.false_eq_true, Bool.true_or, Bool.or_true, Bool.false_or, Bool.or_false, Nat.reduceBEq, Int.reduceBEq, Int.reduceBNe, Int.reduceLT, Int.reduceLE, Int.reduceMul, Int.reduceAdd, Int.toNat_natCast, List.isEmpty_map, g1, g2, g3, g4]) (by first | rfl | simp (maxSteps := 1000000) +contextual -implicitDefEqProofs only [go_sem, R_c, G_c, D_c, DG_c, G_cf, G_cv, D_cf, DG_cf, E_c, E_cf, E_a, D_ap, D_mm, D_al, D_ldm, E_ap, E_mm, Nat.reduceEqDiff, Nat.reduceAdd, Nat.reduceLeDiff, Nat.reduceSub, Nat.reduceLT, Nat.reduceMul, Int.reduceToNat, Int.reduceEq, ↓reduceIte, reduceCtorEq, Bool.false_and, Bool.and_false, Bool.false_eq_true, Bool.true_or, Bool.or_true, Bool.false_or, Bool.or_false, Nat.reduceBEq, Int.reduceBEq, Int.reduceBNe, Int.reduceLT, Int.reduceLE, Int.reduceMul, Int.reduceAdd, Int.toNat_natCast, List.isEmpty_map, g1, g2, g3, g4]) (by first | rfl | simp (maxSteps := 1000000) +contextual -implicitDefEqProofs only [go_sem, R_c, G_c, D_c, DG_c, G_cf, G_cv, D_cf, DG_cf, E_c, E_cf, E_a, D_ap, D_mm, D_al, D_ldm, E_ap, E_mm, Nat.reduceEqDiff, Nat.reduceAdd, Nat.reduceLeDiff, Nat.reduceSub, Nat.reduceLT, Nat.reduceMul, Int.reduceToNat, Int.reduceEq, ↓reduceIte, reduceCtorEq, Bool.false_and, Bool.and_false, Bool.false_eq_true, Bool.true_or, Bool.or_true, Bool.false_or, Bool.or_false, Nat.reduceBEq, Int.reduceBEq, Int.reduceBNe, Int.reduceLT, Int.reduceLE, Int.reduceMul, Int.reduceAdd, Int.toNat_natCast, List.isEmpty_map, g1, g2, g3, g4])
  simp (maxSteps := 1000000) +contextual -implicitDefEqProofs only [go_sem, R_c, G_c, D_c, DG_c, G_cf, G_cv, D_cf, DG_cf, E_c, E_cf, E_a, D_ap, D_mm, D_al, D_ldm, E_ap, E_mm, Nat.reduceEqDiff, Nat.reduceAdd, Nat.reduceLeDiff, Nat.reduceSub, Nat.reduceLT, Nat.reduceMul, Int.reduceToNat, Int.reduceEq, ↓reduceIte, reduceCtorEq, Bool.false_and, Bool.and_false, Bool.false_eq_true, Bool.true_or, Bool.or_true, Bool.false_or, Bool.or_false, Nat.reduceBEq, Int.reduceBEq, Int.reduceBNe, Int.reduceLT, Int.reduceLE, Int.reduceMul, Int.reduceAdd, Int.toNat_natCast, List.isEmpty_map, g5]
end
def Z3 : D := .agg [vu 0, .sl .nl 0 [], .sl .nl 0 []]
/-- 'Put'. -/
def putR (nx : Int) (l : List Og) (e : List En) (q q2 : Bool) (x : Og) : D :=
  if outB nx l e = false then .tup [Z3, vu 0, vi 310]
  else if begB x.d x.u x.nm x.b.length = false then .tup [Z3, vu 0, vi 2]
  else if (decide (l.length = 4) || decide (nx = 4294967295)) = true then .tup [Z3, vu 0, vi 6]
  else .tup [.agg [vu (nx + 1), .sl .ro 6 ((l ++ [{ x with n := nx, s := 0 }]).map Og.D), lst .ro 2 q2 (e.map En.D)], vu nx, vi 0]
theorem w18 (B : List Bx) (nx : Int) (l : List Og) (e : List En) (q q2 : Bool) (x : Og) (h0 : 0 ≤ nx ∧ nx < 4294967296) (hl : l.length < 1000000) (hb : ∀ x ∈ l, x.b.length < 1000000) (hx : x.b.length < 1000000) (he : e.length < 1000000) :
    EF pg 18 [.agg [vu nx, lst .ro 6 q (l.map Og.D), lst .ro 2 q2 (e.map En.D)], .agg [vu x.n, vi x.d, vs x.nm, lst .ro 1 x.q (x.b.map un), vi x.s, vi x.u]] B = some (putR nx l e q q2 x, B) := by
  rw [EF_call p18 rfl (by simp [F18]) (by simp (maxSteps := 1000000) +contextual -implicitDefEqProofs only [go_sem, R_c, G_c, D_c, DG_c, G_cf, G_cv, D_cf, DG_cf, E_c, E_cf, E_a, D_ap, D_mm, D_al, D_ldm, E_ap, E_mm, Nat.reduceEqDiff, Nat.reduceAdd, Nat.reduceLeDiff, Nat.reduceSub, Nat.reduceLT, Nat.reduceMul, Int.reduceToNat, Int.reduceEq, ↓reduceIte, reduceCtorEq, Bool.false_and, Bool.and_false, Bool.false_eq_true, Bool.true_or, Bool.or_true, Bool.false_or, Bool.or_false, Nat.reduceBEq, Int.reduceBEq, Int.reduceBNe, Int.reduceLT, Int.reduceLE, Int.reduceMul, Int.reduceAdd, Int.toNat_natCast, List.isEmpty_map, ])]
  have h20 := fun B => w20 nx l q q2 B e hl hb he
  have h40 := fun B => w40 x.n x.d x.s x.u x.nm x.q (x.b.map un) B
  simp only [List.length_map] at h40
  unfold putR
  cases c1 : outB nx l e with
  | false =>
    rw [c1] at h20
    simp (maxSteps := 1000000) +contextual -implicitDefEqProofs only [go_sem, R_c, G_c, D_c, DG_c, G_cf, G_cv, D_cf, DG_cf, E_c, E_cf, E_a, D_ap, D_mm, D_al, D_ldm, E_ap, E_mm, Nat.reduceEqDiff, Nat.reduceAdd, Nat.reduceLeDiff, Nat.reduceSub, Nat.reduceLT, Nat.reduceMul, Int.reduceToNat, Int.reduceEq, ↓reduceIte, reduceCtorEq, Bool.false_and, Bool.and_false, Bool.false_eq_true, Bool.true_or, Bool.or_true, Bool.false_or, Bool.or_false, Nat.reduceBEq, Int.reduceBEq, Int.reduceBNe, Int.reduceLT, Int.reduceLE, Int.reduceMul, Int.reduceAdd, Int.toNat_natCast, List.isEmpty_map, F18, c18, h20]
    rfl
  | true =>
  rw [c1] at h20
  cases c2 : begB x.d x.u x.nm x.b.length with
  | false =>
    rw [c2] at h40
    simp (maxSteps := 1000000) +contextual -implicitDefEqProofs only [go_sem, R_c, G_c, D_c, DG_c, G_cf, G_cv, D_cf, DG_cf, E_c, E_cf, E_a, D_ap, D_mm, D_al, D_ldm, E_ap, E_mm, Nat.reduceEqDiff, Nat.reduceAdd, Nat.reduceLeDiff, Nat.reduceSub, Nat.reduceLT, Nat.reduceMul, Int.reduceToNat, Int.reduceEq, ↓reduceIte, reduceCtorEq, Bool.false_and, Bool.and_false, Bool.false_eq_true, Bool.true_or, Bool.or_true, Bool.false_or, Bool.or_false, Nat.reduceBEq, Int.reduceBEq, Int.reduceBNe, Int.reduceLT, Int.reduceLE, Int.reduceMul, Int.reduceAdd, Int.toNat_natCast, List.isEmpty_map, F18, c18, h20, h40]
    rfl
  | true =>
  rw [c2] at h40
  have e3 : decide (l.length = 4) = ((l.length : Int) == 4) := by rw [Bool.eq_iff_iff]; simp; omega
  have e4 : decide (nx = 4294967295) = (nx == 4294967295) := by rw [Bool.eq_iff_iff]; simp
  rw [e3, e4]
  cases c3 : ((l.length : Int) == 4) with
  | true =>
    simp (maxSteps := 1000000) +contextual -implicitDefEqProofs only [go_sem, R_c, G_c, D_c, DG_c, G_cf, G_cv, D_cf, DG_cf, E_c, E_cf, E_a, D_ap, D_mm, D_al, D_ldm, E_ap, E_mm, Nat.reduceEqDiff, Nat.reduceAdd, Nat.reduceLeDiff, Nat.reduceSub, Nat.reduceLT, Nat.reduceMul, Int.reduceToNat, Int.reduceEq, ↓reduceIte, reduceCtorEq, Bool.false_and, Bool.and_false, Bool.false_eq_true, Bool.true_or, Bool.or_true, Bool.false_or, Bool.or_false, Nat.reduceBEq, Int.reduceBEq, Int.reduceBNe, Int.reduceLT, Int.reduceLE, Int.reduceMul, Int.reduceAdd, Int.toNat_natCast, List.isEmpty_map, F18, c18, h20, h40, c3]
    rfl
  | false =>
  cases c4 : (nx == 4294967295) with
  | true =>
    simp (maxSteps := 1000000) +contextual -implicitDefEqProofs only [go_sem, R_c, G_c, D_c, DG_c, G_cf, G_cv, D_cf, DG_cf, E_c, E_cf, E_a, D_ap, D_mm, D_al, D_ldm, E_ap, E_mm, Nat.reduceEqDiff, Nat.reduceAdd, Nat.reduceLeDiff, Nat.reduceSub, Nat.reduceLT, Nat.reduceMul, Int.reduceToNat, Int.reduceEq, ↓reduceIte, reduceCtorEq, Bool.false_and, Bool.and_false, Bool.false_eq_true, Bool.true_or, Bool.or_true, Bool.false_or, Bool.or_false, Nat.reduceBEq, Int.reduceBEq, Int.reduceBNe, Int.reduceLT, Int.reduceLE, Int.reduceMul, Int.reduceAdd, Int.toNat_natCast, List.isEmpty_map, F18, c18, h20, h40, c3, c4]
    rfl
  | false =>
    have hnx : nx ≠ 4294967295 := by simpa using c4
    have hw : IntKind.u32.wrap (nx + 1) = nx + 1 := wu32 (by omega)
    have h33 := fun B => w33 nx l hl (fun x hx => by have := hb x hx; omega) q q2 (e.map En.D) (by simpa using he) B
    have h41 := q41 x.q (x.b.map un) (by simp; omega)
    have hle : (l.length + 1) * 72 ≤ 140737488355328 := by omega
    have hap : l.map Og.D ++ [.agg [vu nx, vi x.d, vs x.nm, lst .ro 1 x.q (x.b.map un), vi 0, vi x.u]] = (l ++ [{ x with n := nx, s := 0 }]).map Og.D := by rw [List.map_append]; rfl
    simp (maxSteps := 1000000) +contextual -implicitDefEqProofs only [go_sem, R_c, G_c, D_c, DG_c, G_cf, G_cv, D_cf, DG_cf, E_c, E_cf, E_a, D_ap, D_mm, D_al, D_ldm, E_ap, E_mm, Nat.reduceEqDiff, Nat.reduceAdd, Nat.reduceLeDiff, Nat.reduceSub, Nat.reduceLT, Nat.reduceMul, Int.reduceToNat, Int.reduceEq, ↓reduceIte, reduceCtorEq, Bool.false_and, Bool.and_false, Bool.false_eq_true, Bool.true_or, Bool.or_true, Bool.false_or, Bool.or_false, Nat.reduceBEq, Int.reduceBEq, Int.reduceBNe, Int.reduceLT, Int.reduceLE, Int.reduceMul, Int.reduceAdd, Int.toNat_natCast, List.isEmpty_map, F18, c18, h20, h40, c3, c4, h33, h41, hw, hle, hap]
    rw [lst_ne (by simp)]
theorem q18 (nx : Int) (l : List Og) (e : List En) (q q2 : Bool) (x : Og) (h0 : 0 ≤ nx ∧ nx < 4294967296) (hl : l.length < 1000000) (hb : ∀ x ∈ l, x.b.length < 1000000) (hx : x.b.length < 1000000) (he : e.length < 1000000) :
    qv (EF pg) 18 [.agg [vu nx, lst .ro 6 q (l.map Og.D), lst .ro 2 q2 (e.map En.D)], .agg [vu x.n, vi x.d, vs x.nm, lst .ro 1 x.q (x.b.map un), vi x.s, vi x.u]] = some (putR nx l e q q2 x) := qv_of fun B => w18 B nx l e q q2 x h0 hl hb hx he
/-- The sending by which the layer is woken. -/
def wkO (n s : Int) : Og := ⟨n, 2, ⟨#[97]⟩, false, List.replicate 300 0, s, 50⟩
theorem wk_len (n s : Int) : (wkO n s).b.length = 300 := List.length_replicate ..
theorem wk_beg (n s : Int) : begB (wkO n s).d (wkO n s).u (wkO n s).nm (wkO n s).b.length = true := by rw [wk_len]; rfl
theorem wk_put : qv (EF pg) 18 [.agg [vu 1, .sl .nl 0 [], .sl .nl 0 []], .agg [vu 0, vi 2, vs ⟨#[97]⟩, .sl .ro 1 ((List.replicate 300 0).map un), vi 0, vi 50]] = some (.tup [.agg [vu 2, .sl .ro 6 [(wkO 1 0).D], .sl .nl 0 []], vu 1, vi 0]) := by
  have h := q18 1 [] [] true true (wkO 0 0) (by omega) (by simp) (fun x hx => by cases hx) (by rw [wk_len]; omega) (by simp)
  have h1 : outB 1 [] [] = true := rfl
  rw [putR, h1, wk_beg] at h
  exact h
theorem wk_step (B : List Bx) : EF pg 12 [.agg [vu 2, .sl .ro 6 [(wkO 1 0).D], .sl .nl 0 []]] B = some (.tup [.agg [vu 2, .sl .ro 6 [(wkO 1 1).D], .sl .nl 0 []], vi 2, (mMeta (wkO 1 0)).D, vb true], B) := by
  have h1 : outB 2 [wkO 1 0] [] = true := by
    simp only [outB, List.length_cons, List.length_nil, sndsB, List.getElem?_cons_zero, sndB, prevN, wk_beg, wk_len]
    rfl
  have h2 : idxO [wkO 1 0] 0 = ((0 : Nat) : Int) := by
    simp only [idxO, more, wk_len]
    rfl
  have h := w12d 2 [wkO 1 0] B 0 (wkO 1 0) false true [] (by simp) (fun x hx => by rw [List.mem_singleton.1 hx, wk_len]; omega) (fun x hx c hc => by
    rw [List.mem_singleton.1 hx] at hc
    have := List.eq_of_mem_replicate hc
    omega) (by simp) h1 h2 rfl 0 rfl (mMeta (wkO 1 0)) rfl
  exact h
theorem wk_D (n s : Int) : (wkO n s).D = .agg [vu n, vi 2, vs ⟨#[97]⟩, .sl .ro 1 ((List.replicate 300 0).map un), vi s, vi 50] := by
  show D.agg [vu n, vi 2, vs ⟨#[97]⟩, lst .ro 1 false ((List.replicate 300 0).map un), vi s, vi 50] = _
  rw [lst_f]
theorem w7 (B : List Bx) : EF pg 7 [] B = some (vb true, B) := by
  rw [EF_call p7 rfl (by simp [F7]) (by simp (maxSteps := 1000000) +contextual -implicitDefEqProofs only [go_sem, R_c, G_c, D_c, DG_c, G_cf, G_cv, D_cf, DG_cf, E_c, E_cf, E_a, D_ap, D_mm, D_al, D_ldm, E_ap, E_mm, Nat.reduceEqDiff, Nat.reduceAdd, Nat.reduceLeDiff, Nat.reduceSub, Nat.reduceLT, Nat.reduceMul, Int.reduceToNat, Int.reduceEq, ↓reduceIte, reduceCtorEq, Bool.false_and, Bool.and_false, Bool.false_eq_true, Bool.true_or, Bool.or_true, Bool.false_or, Bool.or_false, Nat.reduceBEq, Int.reduceBEq, Int.reduceBNe, Int.reduceLT, Int.reduceLE, Int.reduceMul, Int.reduceAdd, Int.toNat_natCast, List.isEmpty_map, ])]
  have h16 : qv (EF pg) 16 [] = some (.agg [vu 1, .sl .nl 0 [], .sl .nl 0 []]) := qv_of fun B => w16 B
  have hrep : List.replicate 300 (D.v (.int .u8 0)) = (List.replicate 300 0).map un := by rw [List.map_replicate]; rfl
  have hs := fun B => wk_step B
  have hm : (mMeta (wkO 1 0)).D = .agg [vi 1, vu 1, vs ⟨#[97]⟩, vi 300, vi 0, vu 0, vi 0, .sl .nl 0 []] := by rw [mMeta_D, wk_len]; rfl
  rw [hm] at hs
  have hput := wk_put
  rw [← hrep] at hput
  have n1 : ((1 : Nat) : Int) = 1 := rfl
  have hi0 : ∀ (k : IntKind), iaO 6 (.sl .ro 6 [(wkO 1 1).D]) (.v (.int k 0)) = some (.fptr (wkO 1 1).D.cells 0) := fun k => rfl
  have hc : (wkO 1 1).D.cells = [vu 1, vi 2, vs ⟨#[97]⟩, .sl .ro 1 ((List.replicate 300 0).map un), vi 1, vi 50] := by rw [wk_D]; rfl
  simp (maxSteps := 1000000) +contextual -implicitDefEqProofs only [go_sem, R_c, G_c, D_c, DG_c, G_cf, G_cv, D_cf, DG_cf, E_c, E_cf, E_a, D_ap, D_mm, D_al, D_ldm, E_ap, E_mm, Nat.reduceEqDiff, Nat.reduceAdd, Nat.reduceLeDiff, Nat.reduceSub, Nat.reduceLT, Nat.reduceMul, Int.reduceToNat, Int.reduceEq, ↓reduceIte, reduceCtorEq, Bool.false_and, Bool.and_false, Bool.false_eq_true, Bool.true_or, Bool.or_true, Bool.false_or, Bool.or_false, Nat.reduceBEq, Int.reduceBEq, Int.reduceBNe, Int.reduceLT, Int.reduceLE, Int.reduceMul, Int.reduceAdd, Int.toNat_natCast, List.isEmpty_map, F7, c7, h16, hput, hs, n1, hi0, hc]
end Go.Proofs.Ytlhjdikklmkihaa.Ev
