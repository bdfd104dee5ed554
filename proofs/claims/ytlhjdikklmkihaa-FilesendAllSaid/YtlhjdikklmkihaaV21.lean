/- The law FilesendAll at the evaluator: all sendings. Conditions: none. -/
import Derived.Test.YtlhjdikklmkihaaU21
set_option linter.all false
namespace Go.Proofs.Ytlhjdikklmkihaa.Ev
open Go
section
variable (B : List Bx)
def Done6 (B : List Bx) (nx : Int) (L G : List Og) (j : Nat) (x : Og) (s' : S) : Prop := s'.o = B ∧ get 3 s'.e = .ptr B.length 3 0 ∧ get 4 s'.e = lst .app 6 true (G.map Og.D) ∧ get 57 s'.e = lst .ro 6 true (G.map Og.D) ∧ get 58 s'.e = vi G.length ∧ get 59 s'.e = vi j ∧ lk 3 s'.l = some [vu nx, lst .ro 6 true ((L.set j { x with s := (nData x + 2 : Nat) }).map Og.D), .sl .nl 0 []]
theorem r6_rest {nx : Int} {G : List Og} {j : Nat} {x : Og} : ∀ (k i : Nat) {L : List Og} {s : S} {r : Option (Ex × S)}, i + k = nData x → P6 nx L j x (i + 1) → evC (EF pg) l6x1 s = r → R6 B nx L G j x (i + 1) s → ∃ s', r = some (.ex 4, s') ∧ Done6 B nx L G j x s'
  | 0, i, L, s, r, hi, h, hr, hs => by
    obtain rfl : i = nData x := hi
    obtain ⟨s', h1, h2⟩ := r6_end B h hr hs
    exact ⟨s', h1, h2⟩
  | k + 1, i, L, s, r, hi, h, hr, hs => by
    obtain ⟨s', h1, h2⟩ := r6_data B (by omega) h hr hs
    obtain ⟨s2, h3, h4⟩ := r6_rest k (i + 1) (by omega) (h.succ (by simp only [tot]; omega)) h1 h2
    refine ⟨s2, h3, ?_⟩
    unfold Done6 at h4 ⊢
    rw [List.set_set] at h4
    exact h4
theorem r6_all {nx : Int} {L G : List Og} {j : Nat} {x : Og} {s : S} {r : Option (Ex × S)} (h : P6 nx L j x 0) (hr : evC (EF pg) l6x1 s = r) (hs : R6 B nx L G j x 0 s) : ∃ s', r = some (.ex 4, s') ∧ Done6 B nx L G j x s' := by
  obtain ⟨s', h1, h2⟩ := r6_meta B h hr hs
  obtain ⟨s2, h3, h4⟩ := r6_rest B (nData x) 0 (by omega) (h.succ (by simp only [tot]; omega)) h1 h2
  refine ⟨s2, h3, ?_⟩
  unfold Done6 at h4 ⊢
  rw [List.set_set] at h4
  exact h4
def dn (x : Og) : Og := { x with s := (nData x + 2 : Nat) }
theorem more_dn (x : Og) : more (dn x) = false := by
  unfold more dn
  refine decide_eq_false ?_
  simp only [nData]
  omega
/-- The sendings up to a place are done, the others are not begun. -/
structure I6 (nx : Int) (L G : List Og) (j : Nat) : Prop where
  out : outB nx L [] = true
  hc : ∀ y ∈ G, ∀ c ∈ y.b, c < 256
  len : L.length = G.length
  lo : ∀ i, i < j → L[i]? = (G[i]?).map dn
  hi : ∀ i, j ≤ i → L[i]? = (G[i]?).map z0
theorem I6.p {nx : Int} {L G : List Og} {j : Nat} {x : Og} (h : I6 nx L G j) (hx : G[j]? = some x) : P6 nx L j x 0 where
  out := h.out
  hc := fun y hy => by
    obtain ⟨i, hi⟩ := List.mem_iff_getElem?.1 hy
    rcases Nat.lt_or_ge i j with e | e
    · rw [h.lo i e] at hi
      obtain ⟨z, hz, rfl⟩ := Option.map_eq_some_iff.1 hi
      exact h.hc z (List.mem_of_getElem? hz)
    · rw [h.hi i e] at hi
      obtain ⟨z, hz, rfl⟩ := Option.map_eq_some_iff.1 hi
      exact h.hc z (List.mem_of_getElem? hz)
  at_ := by rw [h.hi j (Nat.le_refl _), hx]; rfl
  fst := fun i hi y hy => by
    rw [h.lo i hi] at hy
    obtain ⟨z, hz, rfl⟩ := Option.map_eq_some_iff.1 hy
    exact more_dn z
  lt := by simp only [tot]; omega
theorem I6.next {nx : Int} {L G : List Og} {j : Nat} {x : Og} (h : I6 nx L G j) (hx : G[j]? = some x) : I6 nx (L.set j (dn x)) G (j + 1) where
  out := by
    have hp := h.p hx
    exact out_set (y := { x with s := ((0 : Nat) : Int) }) (s := ((nData x + 2 : Nat) : Int)) hp.out hp.at_ ⟨by omega, by show ((nData x + 2 : Nat) : Int) ≤ 2 + ((x.b.length : Int) + 255) / 256; simp only [nData]; omega⟩
  hc := h.hc
  len := by rw [List.length_set]; exact h.len
  lo := fun i hi => by
    rw [List.getElem?_set]
    by_cases e : j = i
    · subst e
      rw [if_pos rfl, if_pos (by rw [h.len]; exact getq_lt hx), hx]; rfl
    · rw [if_neg e]; exact h.lo i (by omega)
  hi := fun i hi => by
    rw [List.getElem?_set_ne (by omega)]
    exact h.hi i (by omega)
theorem l6b (nx : Int) (G : List Og) : ∀ (k j : Nat) (L : List Og) {s : S} {r : Option (Ex × S)}, evC (EF pg) l6x2 s = r → s.o = B → j + k = G.length → I6 nx L G j →
    get 3 s.e = .ptr B.length 3 0 → get 4 s.e = lst .app 6 true (G.map Og.D) → get 57 s.e = lst .ro 6 true (G.map Og.D) → get 58 s.e = vi G.length → get 59 s.e = vi j →
    lk 3 s.l = some [vu nx, lst .ro 6 true (L.map Og.D), .sl .nl 0 []] →
    ∃ (s' : S) (L' : List Og), r = some (.ex 2, s') ∧ s'.o = B ∧ I6 nx L' G G.length ∧ get 3 s'.e = .ptr B.length 3 0 ∧ get 4 s'.e = lst .app 6 true (G.map Og.D) ∧ s'.l = [(3, [vu nx, lst .ro 6 true (L'.map Og.D), .sl .nl 0 []])] := by
  intro k
  induction k with
  | zero =>
    intro j L s r hr ho hj hI g3 g4 g57 g58 g59 k3
    have hd : decide ((j : Int) < (G.length : Int)) = false := decide_eq_false (by omega)
    rw [lp_n (L := l6x2) rfl] at hr
    simp (maxSteps := 1000000) +contextual -implicitDefEqProofs only [go_sem, R_c, G_c, D_c, DG_c, G_cf, G_cv, D_cf, DG_cf, E_c, E_cf, E_a, D_ap, D_mm, D_al, D_ldm, E_ap, E_mm, Nat.reduceEqDiff, Nat.reduceAdd, Nat.reduceLeDiff, Nat.reduceSub, Nat.reduceLT, Nat.reduceMul, Int.reduceToNat, Int.reduceEq, ↓reduceIte, reduceCtorEq, Bool.false_and, Bool.and_false, Bool.false_eq_true, Bool.true_or, Bool.or_true, Bool.false_or, Bool.or_false, Nat.reduceBEq, Int.reduceBEq, Int.reduceBNe, Int.reduceLT, Int.reduceLE, Int.reduceMul, Int.reduceAdd, Int.toNat_natCast, List.isEmpty_map, b6x2, g3, g4, g57, g58, g59, k3, ho, hd] at hr
    subst hr
    obtain rfl : j = G.length := hj
    exact ⟨_, L, rfl, rfl, hI, rfl, rfl, rfl⟩
  | succ k ih =>
    intro j L s r hr ho hj hI g3 g4 g57 g58 g59 k3
    have hd : decide ((j : Int) < (G.length : Int)) = true := decide_eq_true (by omega)
    obtain ⟨x, hx⟩ : ∃ x, G[j]? = some x := ⟨_, List.getElem?_eq_getElem (by omega)⟩
    have h4 := (out_iff.1 hI.out).2.1
    have hlG := hI.len
    have hw : IntKind.i64.wrap ((j : Int) + 1) = ((j + 1 : Nat) : Int) := by rw [wi64 (by omega)]; omega
    rw [lp_n (L := l6x2) rfl] at hr
    simp (maxSteps := 1000000) +contextual -implicitDefEqProofs only [go_sem, R_c, G_c, D_c, DG_c, G_cf, G_cv, D_cf, DG_cf, E_c, E_cf, E_a, D_ap, D_mm, D_al, D_ldm, E_ap, E_mm, Nat.reduceEqDiff, Nat.reduceAdd, Nat.reduceLeDiff, Nat.reduceSub, Nat.reduceLT, Nat.reduceMul, Int.reduceToNat, Int.reduceEq, ↓reduceIte, reduceCtorEq, Bool.false_and, Bool.and_false, Bool.false_eq_true, Bool.true_or, Bool.or_true, Bool.false_or, Bool.or_false, Nat.reduceBEq, Int.reduceBEq, Int.reduceBNe, Int.reduceLT, Int.reduceLE, Int.reduceMul, Int.reduceAdd, Int.toNat_natCast, List.isEmpty_map, b6x2, g3, g4, g57, g58, g59, k3, ho, hd, hx, List.getElem?_map, Og.D] at hr
    generalize hz : evC (EF pg) l6x1 _ = z at hr
    obtain ⟨s', rfl, k0, f3, f4, f57, f58, f59, kk⟩ := r6_all B (nx := nx) (L := L) (G := G) (hI.p hx) hz ⟨rfl, rfl, rfl, rfl, rfl, rfl, rfl, rfl, rfl, rfl, rfl⟩
    simp (maxSteps := 1000000) +contextual -implicitDefEqProofs only [go_sem, R_c, G_c, D_c, DG_c, G_cf, G_cv, D_cf, DG_cf, E_c, E_cf, E_a, D_ap, D_mm, D_al, D_ldm, E_ap, E_mm, Nat.reduceEqDiff, Nat.reduceAdd, Nat.reduceLeDiff, Nat.reduceSub, Nat.reduceLT, Nat.reduceMul, Int.reduceToNat, Int.reduceEq, ↓reduceIte, reduceCtorEq, Bool.false_and, Bool.and_false, Bool.false_eq_true, Bool.true_or, Bool.or_true, Bool.false_or, Bool.or_false, Nat.reduceBEq, Int.reduceBEq, Int.reduceBNe, Int.reduceLT, Int.reduceLE, Int.reduceMul, Int.reduceAdd, Int.toNat_natCast, List.isEmpty_map, k0, f3, f4, f57, f58, f59, kk, hw] at hr
    exact ih (j + 1) (L.set j (dn x)) hr (by first | exact k0 | simp (maxSteps := 1000000) +contextual -implicitDefEqProofs only [go_sem, R_c, G_c, D_c, DG_c, G_cf, G_cv, D_cf, DG_cf, E_c, E_cf, E_a, D_ap, D_mm, D_al, D_ldm, E_ap, E_mm, Nat.reduceEqDiff, Nat.reduceAdd, Nat.reduceLeDiff, Nat.reduceSub, Nat.reduceLT, Nat.reduceMul, Int.reduceToNat, Int.reduceEq, ↓reduceIte, reduceCtorEq, Bool.false_and, Bool.and_false, Bool.false_eq_true, Bool.true_or, Bool.or_true, Bool.false_or, Bool.or_false, Nat.reduceBEq, Int.reduceBEq, Int.reduceBNe, Int.reduceLT, Int.reduceLE, Int.reduceMul, Int.reduceAdd, Int.toNat_natCast, List.isEmpty_map, k0]) (by omega) (hI.next hx) (by simp (maxSteps := 1000000) +contextual -implicitDefEqProofs only [go_sem, R_c, G_c, D_c, DG_c, G_cf, G_cv, D_cf, DG_cf, E_c, E_cf, E_a, D_ap, D_mm, D_al, D_ldm, E_ap, E_mm, Nat.reduceEqDiff, Nat.reduceAdd, Nat.reduceLeDiff, Nat.reduceSub, Nat.reduceLT, Nat.reduceMul, Int.reduceToNat, Int.reduceEq, ↓reduceIte, reduceCtorEq, Bool.false_and, Bool.and_false, Bool.false_eq_true, Bool.true_or, Bool.or_true, Bool.false_or, Bool.or_false, Nat.reduceBEq, Int.reduceBEq, Int.reduceBNe, Int.reduceLT, Int.reduceLE, Int.reduceMul, Int.reduceAdd, Int.toNat_natCast, List.isEmpty_map, f3]) (by simp (maxSteps := 1000000) +contextual -implicitDefEqProofs only [go_sem, R_c, G_c, D_c, DG_c, G_cf, G_cv, D_cf, DG_cf, E_c, E_cf, E_a, D_ap, D_mm, D_al, D_ldm, E_ap, E_mm, Nat.reduceEqDiff, Nat.reduceAdd, Nat.reduceLeDiff, Nat.reduceSub, Nat.reduceLT, Nat.reduceMul, Int.reduceToNat, Int.reduceEq, ↓reduceIte, reduceCtorEq, Bool.false_and, Bool.and_false, Bool.false_eq_true, Bool.true_or, Bool.or_true, Bool.false_or, Bool.or_false, Nat.reduceBEq, Int.reduceBEq, Int.reduceBNe, Int.reduceLT, Int.reduceLE, Int.reduceMul, Int.reduceAdd, Int.toNat_natCast, List.isEmpty_map, f4]) (by simp (maxSteps := 1000000) +contextual -implicitDefEqProofs only [go_sem, R_c, G_c, D_c, DG_c, G_cf, G_cv, D_cf, DG_cf, E_c, E_cf, E_a, D_ap, D_mm, D_al, D_ldm, E_ap, E_mm, Nat.reduceEqDiff, Nat.reduceAdd, Nat.reduceLeDiff, Nat.reduceSub, Nat.reduceLT, Nat.reduceMul, Int.reduceToNat, Int.reduceEq, ↓reduceIte, reduceCtorEq, Bool.false_and, Bool.and_false, Bool.false_eq_true, Bool.true_or, Bool.or_true, Bool.false_or, Bool.or_false, Nat.reduceBEq, Int.reduceBEq, Int.reduceBNe, Int.reduceLT, Int.reduceLE, Int.reduceMul, Int.reduceAdd, Int.toNat_natCast, List.isEmpty_map, f57]) (by simp (maxSteps := 1000000) +contextual -implicitDefEqProofs only [go_sem, R_c, G_c, D_c, DG_c, G_cf, G_cv, D_cf, DG_cf, E_c, E_cf, E_a, D_ap, D_mm, D_al, D_ldm, E_ap, E_mm, Nat.reduceEqDiff, Nat.reduceAdd, Nat.reduceLeDiff, Nat.reduceSub, Nat.reduceLT, Nat.reduceMul, Int.reduceToNat, Int.reduceEq, ↓reduceIte, reduceCtorEq, Bool.false_and, Bool.and_false, Bool.false_eq_true, Bool.true_or, Bool.or_true, Bool.false_or, Bool.or_false, Nat.reduceBEq, Int.reduceBEq, Int.reduceBNe, Int.reduceLT, Int.reduceLE, Int.reduceMul, Int.reduceAdd, Int.toNat_natCast, List.isEmpty_map, f58]) (by simp (maxSteps := 1000000) +contextual -implicitDefEqProofs only [go_sem, R_c, G_c, D_c, DG_c, G_cf, G_cv, D_cf, DG_cf, E_c, E_cf, E_a, D_ap, D_mm, D_al, D_ldm, E_ap, E_mm, Nat.reduceEqDiff, Nat.reduceAdd, Nat.reduceLeDiff, Nat.reduceSub, Nat.reduceLT, Nat.reduceMul, Int.reduceToNat, Int.reduceEq, ↓reduceIte, reduceCtorEq, Bool.false_and, Bool.and_false, Bool.false_eq_true, Bool.true_or, Bool.or_true, Bool.false_or, Bool.or_false, Nat.reduceBEq, Int.reduceBEq, Int.reduceBNe, Int.reduceLT, Int.reduceLE, Int.reduceMul, Int.reduceAdd, Int.toNat_natCast, List.isEmpty_map, ]) (by simp (maxSteps := 1000000) +contextual -implicitDefEqProofs only [go_sem, R_c, G_c, D_c, DG_c, G_cf, G_cv, D_cf, DG_cf, E_c, E_cf, E_a, D_ap, D_mm, D_al, D_ldm, E_ap, E_mm, Nat.reduceEqDiff, Nat.reduceAdd, Nat.reduceLeDiff, Nat.reduceSub, Nat.reduceLT, Nat.reduceMul, Int.reduceToNat, Int.reduceEq, ↓reduceIte, reduceCtorEq, Bool.false_and, Bool.and_false, Bool.false_eq_true, Bool.true_or, Bool.or_true, Bool.false_or, Bool.or_false, Nat.reduceBEq, Int.reduceBEq, Int.reduceBNe, Int.reduceLT, Int.reduceLE, Int.reduceMul, Int.reduceAdd, Int.toNat_natCast, List.isEmpty_map, kk]; rfl)
end
end Go.Proofs.Ytlhjdikklmkihaa.Ev
