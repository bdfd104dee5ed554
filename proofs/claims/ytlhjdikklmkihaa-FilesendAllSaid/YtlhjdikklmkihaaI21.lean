/- What is the same; what is large; the first one of which something holds. Conditions: none. -/
import Derived.Test.YtlhjdikklmkihaaH21
set_option linter.all false
namespace Go.Proofs.Ytlhjdikklmkihaa.Ev
open Go
theorem beq_list {α : Type} [BEq α] [ReflBEq α] {l : List α} : (l == l) = true := beq_self_eq_true l
/-- A message is the same as itself. -/
theorem w11 (k n : Int) (nm : ByteArray) (sz off sum code : Int) (q q' : Bool) (b : List Nat) (hb : b.length < 1000000) (B : List Bx) :
    EF pg 11 [.agg [vi k, vu n, vs nm, vi sz, vi off, vu sum, vi code, lst .ro 1 q (b.map un)], .agg [vi k, vu n, vs nm, vi sz, vi off, vu sum, vi code, lst .ro 1 q' (b.map un)]] B = some (vb true, B) := by
  rw [EF_call p11 rfl (by simp [F11]) (by simp (maxSteps := 1000000) +contextual -implicitDefEqProofs only [go_sem, R_c, G_c, D_c, DG_c, G_cf, G_cv, D_cf, DG_cf, E_c, E_cf, E_a, D_ap, D_mm, D_al, D_ldm, E_ap, E_mm, Nat.reduceEqDiff, Nat.reduceAdd, Nat.reduceLeDiff, Nat.reduceSub, Nat.reduceLT, Nat.reduceMul, Int.reduceToNat, Int.reduceEq, ↓reduceIte, reduceCtorEq, Bool.false_and, Bool.and_false, Bool.false_eq_true, Bool.true_or, Bool.or_true, Bool.false_or, Bool.or_false, Nat.reduceBEq, Int.reduceBEq, Int.reduceBNe, Int.reduceLT, Int.reduceLE, Int.reduceMul, Int.reduceAdd, Int.toNat_natCast, List.isEmpty_map, ])]
  have h32 := fun B => w32 b b (by omega) q q' B
  simp only [decide_true] at h32
  simp (maxSteps := 1000000) +contextual -implicitDefEqProofs only [go_sem, R_c, G_c, D_c, DG_c, G_cf, G_cv, D_cf, DG_cf, E_c, E_cf, E_a, D_ap, D_mm, D_al, D_ldm, E_ap, E_mm, Nat.reduceEqDiff, Nat.reduceAdd, Nat.reduceLeDiff, Nat.reduceSub, Nat.reduceLT, Nat.reduceMul, Int.reduceToNat, Int.reduceEq, ↓reduceIte, reduceCtorEq, Bool.false_and, Bool.and_false, Bool.false_eq_true, Bool.true_or, Bool.or_true, Bool.false_or, Bool.or_false, Nat.reduceBEq, Int.reduceBEq, Int.reduceBNe, Int.reduceLT, Int.reduceLE, Int.reduceMul, Int.reduceAdd, Int.toNat_natCast, List.isEmpty_map, F11, c11, h32, beq_list, Bool.bne_false]
theorem w35 (x : Og) (hb : x.b.length < 1000000) (B : List Bx) : EF pg 35 [.agg [vu x.n, vi x.d, vs x.nm, lst .ro 1 x.q (x.b.map un), vi x.s, vi x.u]] B = some (vb (decide (x.s < 2 + (x.b.length + 255) / 256)), B) := by
  rw [EF_call p35 rfl (by simp [F35]) (by simp (maxSteps := 1000000) +contextual -implicitDefEqProofs only [go_sem, R_c, G_c, D_c, DG_c, G_cf, G_cv, D_cf, DG_cf, E_c, E_cf, E_a, D_ap, D_mm, D_al, D_ldm, E_ap, E_mm, Nat.reduceEqDiff, Nat.reduceAdd, Nat.reduceLeDiff, Nat.reduceSub, Nat.reduceLT, Nat.reduceMul, Int.reduceToNat, Int.reduceEq, ↓reduceIte, reduceCtorEq, Bool.false_and, Bool.and_false, Bool.false_eq_true, Bool.true_or, Bool.or_true, Bool.false_or, Bool.or_false, Nat.reduceBEq, Int.reduceBEq, Int.reduceBNe, Int.reduceLT, Int.reduceLE, Int.reduceMul, Int.reduceAdd, Int.toNat_natCast, List.isEmpty_map, ])]
  have h36 : qv (EF pg) 36 [.agg [vu x.n, vi x.d, vs x.nm, lst .ro 1 x.q (x.b.map un), vi x.s, vi x.u]] = some (vi (2 + (x.b.length + 255) / 256)) := by
    have := q36 x.n x.d x.s x.u x.nm x.q (x.b.map un) (by simpa using hb)
    rwa [List.length_map] at this
  simp (maxSteps := 1000000) +contextual -implicitDefEqProofs only [go_sem, R_c, G_c, D_c, DG_c, G_cf, G_cv, D_cf, DG_cf, E_c, E_cf, E_a, D_ap, D_mm, D_al, D_ldm, E_ap, E_mm, Nat.reduceEqDiff, Nat.reduceAdd, Nat.reduceLeDiff, Nat.reduceSub, Nat.reduceLT, Nat.reduceMul, Int.reduceToNat, Int.reduceEq, ↓reduceIte, reduceCtorEq, Bool.false_and, Bool.and_false, Bool.false_eq_true, Bool.true_or, Bool.or_true, Bool.false_or, Bool.or_false, Nat.reduceBEq, Int.reduceBEq, Int.reduceBNe, Int.reduceLT, Int.reduceLE, Int.reduceMul, Int.reduceAdd, Int.toNat_natCast, List.isEmpty_map, F35, c35, h36]
/-- The cells of a row of sendings. -/
def cellsO (l : List Og) : List D := (l.map Og.D).flatMap D.cells
theorem cellsO_cons (x : Og) (l : List Og) : cellsO (x :: l) = [vu x.n, vi x.d, vs x.nm, lst .ro 1 x.q (x.b.map un), vi x.s, vi x.u] ++ cellsO l := rfl
theorem cellsO_len : ∀ (l : List Og), (cellsO l).length = l.length * 6
  | [] => rfl
  | x :: l => by rw [cellsO_cons, List.length_append, cellsO_len l, List.length_cons]; simp; omega
theorem cellsO_at : ∀ {l : List Og} {i : Nat} {x : Og}, l[i]? = some x → ((cellsO l).drop (i * 6)).take 6 = [vu x.n, vi x.d, vs x.nm, lst .ro 1 x.q (x.b.map un), vi x.s, vi x.u]
  | [], i, x, h => by simp at h
  | y :: l, 0, x, h => by simp at h; subst h; rw [cellsO_cons]; rfl
  | y :: l, i + 1, x, h => by
    rw [cellsO_cons, show (i + 1) * 6 = 6 + i * 6 by omega, ← List.drop_drop]
    exact cellsO_at (l := l) (i := i) (by simpa using h)
/-- The first sending that has not sent all. -/
def more (x : Og) : Bool := decide (x.s < 2 + (x.b.length + 255) / 256)
def idxO : List Og → Nat → Int
  | [], _ => -1
  | x :: l, i => if more x = true then i else idxO l (i + 1)
theorem l56 (l : List Og) (hl : l.length < 1000000) (hb : ∀ x ∈ l, x.b.length < 1000000) (f : Nat) (O : List Bx) (hf : f < O.length) (hL : (O[f]?).bind (lk 500101) = some (cellsO l)) : ∀ (k i : Nat) {s : S} {r : Option (Ex × S)}, evC (EF pg) l56x0 s = r → s.o = O → i + k = l.length →
    get 0 s.e = .ref f 500101 0 l.length 6 → get 1 s.e = .clo 35 [] → get 7 s.e = vi l.length → get 8 s.e = vi i →
    ∃ s', r = some (if idxO (l.drop i) i = -1 then .ex 0 else .rt, s') ∧ s'.o = O ∧ (idxO (l.drop i) i ≠ -1 → get 4 s'.e = vi (idxO (l.drop i) i)) := by
  intro k
  induction k with
  | zero =>
    intro i s r hr ho hi h0 h1 h7 h8
    have hd : decide ((i : Int) < (l.length : Int)) = false := by simp; omega
    have hne : ¬ f = O.length := by omega
    have hfd : decide (f < O.length) = true := decide_eq_true hf
    rw [lp_n (L := l56x0) rfl] at hr
    simp (maxSteps := 1000000) +contextual -implicitDefEqProofs only [go_sem, R_c, G_c, D_c, DG_c, G_cf, G_cv, D_cf, DG_cf, E_c, E_cf, E_a, D_ap, D_mm, D_al, D_ldm, E_ap, E_mm, Nat.reduceEqDiff, Nat.reduceAdd, Nat.reduceLeDiff, Nat.reduceSub, Nat.reduceLT, Nat.reduceMul, Int.reduceToNat, Int.reduceEq, ↓reduceIte, reduceCtorEq, Bool.false_and, Bool.and_false, Bool.false_eq_true, Bool.true_or, Bool.or_true, Bool.false_or, Bool.or_false, Nat.reduceBEq, Int.reduceBEq, Int.reduceBNe, Int.reduceLT, Int.reduceLE, Int.reduceMul, Int.reduceAdd, Int.toNat_natCast, List.isEmpty_map, b56x0, h0, h1, h7, h8, ho, hne, hfd, hd] at hr
    subst hr
    rw [List.drop_of_length_le (by omega)]
    exact ⟨_, rfl, rfl, fun h => absurd rfl h⟩
  | succ k ih =>
    intro i s r hr ho hi h0 h1 h7 h8
    have hd : decide ((i : Int) < (l.length : Int)) = true := by simp; omega
    have hw : IntKind.i64.wrap ((i : Int) + 1) = ((i + 1 : Nat) : Int) := by rw [wi64 (by omega)]; omega
    obtain ⟨x, hx⟩ : ∃ x, l[i]? = some x := ⟨_, List.getElem?_eq_getElem (by omega)⟩
    have hdr : l.drop i = x :: l.drop (i + 1) := (List.drop_eq_getElem_cons (by omega)).trans (by rw [(List.getElem?_eq_some_iff.1 hx).2])
    have hia : ∀ k : IntKind, iaO 6 (.ref f 500101 0 l.length 6) (.v (.int k (i : Int))) = some (.ptr f 500101 (0 + i * 6)) := fun k => ia_r (by omega)
    have hle : i * 6 + 6 ≤ (cellsO l).length := by rw [cellsO_len]; omega
    have h35 := fun B => w35 x (hb x (List.mem_of_getElem? hx)) B
    rw [hdr]
    have hne : ¬ f = O.length := by omega
    have hfd : decide (f < O.length) = true := decide_eq_true hf
    rw [lp_n (L := l56x0) rfl] at hr
    cases hm : more x with
    | true =>
      have hm' : decide (x.s < 2 + ((x.b.length : Int) + 255) / 256) = true := hm
      simp (maxSteps := 1000000) +contextual -implicitDefEqProofs only [go_sem, R_c, G_c, D_c, DG_c, G_cf, G_cv, D_cf, DG_cf, E_c, E_cf, E_a, D_ap, D_mm, D_al, D_ldm, E_ap, E_mm, Nat.reduceEqDiff, Nat.reduceAdd, Nat.reduceLeDiff, Nat.reduceSub, Nat.reduceLT, Nat.reduceMul, Int.reduceToNat, Int.reduceEq, ↓reduceIte, reduceCtorEq, Bool.false_and, Bool.and_false, Bool.false_eq_true, Bool.true_or, Bool.or_true, Bool.false_or, Bool.or_false, Nat.reduceBEq, Int.reduceBEq, Int.reduceBNe, Int.reduceLT, Int.reduceLE, Int.reduceMul, Int.reduceAdd, Int.toNat_natCast, List.isEmpty_map, b56x0, h0, h1, h7, h8, ho, hne, hfd, hd, hia, hL, hle, cellsO_at hx, h35, hm'] at hr
      have hne1 : ¬ ((i : Nat) : Int) = -1 := by omega
      simp only [idxO, hm, if_true, if_neg hne1]
      exact ⟨_, hr.symm, rfl, fun _ => rfl⟩
    | false =>
      have hm' : decide (x.s < 2 + ((x.b.length : Int) + 255) / 256) = false := hm
      simp (maxSteps := 1000000) +contextual -implicitDefEqProofs only [go_sem, R_c, G_c, D_c, DG_c, G_cf, G_cv, D_cf, DG_cf, E_c, E_cf, E_a, D_ap, D_mm, D_al, D_ldm, E_ap, E_mm, Nat.reduceEqDiff, Nat.reduceAdd, Nat.reduceLeDiff, Nat.reduceSub, Nat.reduceLT, Nat.reduceMul, Int.reduceToNat, Int.reduceEq, ↓reduceIte, reduceCtorEq, Bool.false_and, Bool.and_false, Bool.false_eq_true, Bool.true_or, Bool.or_true, Bool.false_or, Bool.or_false, Nat.reduceBEq, Int.reduceBEq, Int.reduceBNe, Int.reduceLT, Int.reduceLE, Int.reduceMul, Int.reduceAdd, Int.toNat_natCast, List.isEmpty_map, b56x0, h0, h1, h7, h8, ho, hne, hfd, hd, hia, hL, hle, cellsO_at hx, h35, hm', hw] at hr
      simp only [idxO, hm, Bool.false_eq_true, if_false]
      exact ih (i + 1) hr rfl (by omega) rfl rfl rfl rfl
theorem w56 (l : List Og) (hl : l.length < 1000000) (hb : ∀ x ∈ l, x.b.length < 1000000) (f : Nat) (O : List Bx) (hf : f < O.length) (hL : (O[f]?).bind (lk 500101) = some (cellsO l)) : EF pg 56 [.ref f 500101 0 l.length 6, .clo 35 []] O = some (vi (idxO l 0), O) := by
  rw [EF_call p56 rfl (by simp [F56]) (by simp (maxSteps := 1000000) +contextual -implicitDefEqProofs only [go_sem, R_c, G_c, D_c, DG_c, G_cf, G_cv, D_cf, DG_cf, E_c, E_cf, E_a, D_ap, D_mm, D_al, D_ldm, E_ap, E_mm, Nat.reduceEqDiff, Nat.reduceAdd, Nat.reduceLeDiff, Nat.reduceSub, Nat.reduceLT, Nat.reduceMul, Int.reduceToNat, Int.reduceEq, ↓reduceIte, reduceCtorEq, Bool.false_and, Bool.and_false, Bool.false_eq_true, Bool.true_or, Bool.or_true, Bool.false_or, Bool.or_false, Nat.reduceBEq, Int.reduceBEq, Int.reduceBNe, Int.reduceLT, Int.reduceLE, Int.reduceMul, Int.reduceAdd, Int.toNat_natCast, List.isEmpty_map, ])]
  simp (maxSteps := 1000000) +contextual -implicitDefEqProofs only [go_sem, R_c, G_c, D_c, DG_c, G_cf, G_cv, D_cf, DG_cf, E_c, E_cf, E_a, D_ap, D_mm, D_al, D_ldm, E_ap, E_mm, Nat.reduceEqDiff, Nat.reduceAdd, Nat.reduceLeDiff, Nat.reduceSub, Nat.reduceLT, Nat.reduceMul, Int.reduceToNat, Int.reduceEq, ↓reduceIte, reduceCtorEq, Bool.false_and, Bool.and_false, Bool.false_eq_true, Bool.true_or, Bool.or_true, Bool.false_or, Bool.or_false, Nat.reduceBEq, Int.reduceBEq, Int.reduceBNe, Int.reduceLT, Int.reduceLE, Int.reduceMul, Int.reduceAdd, Int.toNat_natCast, List.isEmpty_map, F56, c56]
  generalize hz : evC (EF pg) l56x0 _ = z
  obtain ⟨s', rfl, g1, g2⟩ := l56 l hl hb f O hf hL l.length 0 hz rfl (by omega) rfl rfl rfl rfl
  rw [List.drop_zero] at g2 ⊢
  by_cases h : idxO l 0 = -1
  · simp (maxSteps := 1000000) +contextual -implicitDefEqProofs only [go_sem, R_c, G_c, D_c, DG_c, G_cf, G_cv, D_cf, DG_cf, E_c, E_cf, E_a, D_ap, D_mm, D_al, D_ldm, E_ap, E_mm, Nat.reduceEqDiff, Nat.reduceAdd, Nat.reduceLeDiff, Nat.reduceSub, Nat.reduceLT, Nat.reduceMul, Int.reduceToNat, Int.reduceEq, ↓reduceIte, reduceCtorEq, Bool.false_and, Bool.and_false, Bool.false_eq_true, Bool.true_or, Bool.or_true, Bool.false_or, Bool.or_false, Nat.reduceBEq, Int.reduceBEq, Int.reduceBNe, Int.reduceLT, Int.reduceLE, Int.reduceMul, Int.reduceAdd, Int.toNat_natCast, List.isEmpty_map, h, g1]
  · have g2 := g2 h
    simp (maxSteps := 1000000) +contextual -implicitDefEqProofs only [go_sem, R_c, G_c, D_c, DG_c, G_cf, G_cv, D_cf, DG_cf, E_c, E_cf, E_a, D_ap, D_mm, D_al, D_ldm, E_ap, E_mm, Nat.reduceEqDiff, Nat.reduceAdd, Nat.reduceLeDiff, Nat.reduceSub, Nat.reduceLT, Nat.reduceMul, Int.reduceToNat, Int.reduceEq, ↓reduceIte, reduceCtorEq, Bool.false_and, Bool.and_false, Bool.false_eq_true, Bool.true_or, Bool.or_true, Bool.false_or, Bool.or_false, Nat.reduceBEq, Int.reduceBEq, Int.reduceBNe, Int.reduceLT, Int.reduceLE, Int.reduceMul, Int.reduceAdd, Int.toNat_natCast, List.isEmpty_map, h, g1, g2]
theorem w34 (l : List Og) (hl : l.length < 1000000) (hb : ∀ x ∈ l, x.b.length < 1000000) (f : Nat) (O : List Bx) (hf : f < O.length) (hL : (O[f]?).bind (lk 500101) = some (cellsO l)) : EF pg 34 [.ref f 500101 0 l.length 6, .clo 35 []] O = some (vi (idxO l 0), O) := by
  rw [EF_call p34 rfl (by simp [F34]) (by simp (maxSteps := 1000000) +contextual -implicitDefEqProofs only [go_sem, R_c, G_c, D_c, DG_c, G_cf, G_cv, D_cf, DG_cf, E_c, E_cf, E_a, D_ap, D_mm, D_al, D_ldm, E_ap, E_mm, Nat.reduceEqDiff, Nat.reduceAdd, Nat.reduceLeDiff, Nat.reduceSub, Nat.reduceLT, Nat.reduceMul, Int.reduceToNat, Int.reduceEq, ↓reduceIte, reduceCtorEq, Bool.false_and, Bool.and_false, Bool.false_eq_true, Bool.true_or, Bool.or_true, Bool.false_or, Bool.or_false, Nat.reduceBEq, Int.reduceBEq, Int.reduceBNe, Int.reduceLT, Int.reduceLE, Int.reduceMul, Int.reduceAdd, Int.toNat_natCast, List.isEmpty_map, ])]
  have h56 := w56 l hl hb f (O ++ [[]]) (by simp; omega) (by rw [List.getElem?_append_left hf]; exact hL)
  simp (maxSteps := 1000000) +contextual -implicitDefEqProofs only [go_sem, R_c, G_c, D_c, DG_c, G_cf, G_cv, D_cf, DG_cf, E_c, E_cf, E_a, D_ap, D_mm, D_al, D_ldm, E_ap, E_mm, Nat.reduceEqDiff, Nat.reduceAdd, Nat.reduceLeDiff, Nat.reduceSub, Nat.reduceLT, Nat.reduceMul, Int.reduceToNat, Int.reduceEq, ↓reduceIte, reduceCtorEq, Bool.false_and, Bool.and_false, Bool.false_eq_true, Bool.true_or, Bool.or_true, Bool.false_or, Bool.or_false, Nat.reduceBEq, Int.reduceBEq, Int.reduceBNe, Int.reduceLT, Int.reduceLE, Int.reduceMul, Int.reduceAdd, Int.toNat_natCast, List.isEmpty_map, F34, c34, h56]
end Go.Proofs.Ytlhjdikklmkihaa.Ev
