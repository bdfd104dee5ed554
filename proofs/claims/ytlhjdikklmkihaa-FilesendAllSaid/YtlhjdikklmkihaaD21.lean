/- The messages of a sending. Conditions: none. -/
import Derived.Test.YtlhjdikklmkihaaC21
import Derived.Test.YtlhjdikklmkihaaEv5
set_option linter.all false
namespace Go.Proofs.Ytlhjdikklmkihaa.Ev
open Go
/-- A message. -/
structure Mg where
  (k n : Int)
  nm : ByteArray
  (sz off sum code : Int)
  q : Bool
  b : List Nat
def Mg.D (m : Mg) : D := .agg [vi m.k, vu m.n, vs m.nm, vi m.sz, vi m.off, vu m.sum, vi m.code, lst .ro 1 m.q (m.b.map un)]
def mMeta (x : Og) : Mg := ⟨1, x.n, x.nm, x.b.length, 0, 0, 0, true, []⟩
def mData (x : Og) (i : Nat) : Mg := ⟨2, x.n, ⟨#[]⟩, 0, (256 * i : Nat), 0, 0, false, (x.b.take (min (256 * i + 256) x.b.length)).drop (256 * i)⟩
def mEnd (x : Og) : Mg := ⟨3, x.n, ⟨#[]⟩, x.b.length, 0, crcN x.b, 0, true, []⟩
def nData (x : Og) : Nat := (x.b.length + 255) / 256
/-- The messages from one on. -/
def datas (x : Og) : Nat → Nat → List Mg
  | _, 0 => []
  | i, k + 1 => mData x i :: datas x (i + 1) k
def msgs (x : Og) : List Mg := mMeta x :: (datas x 0 (nData x) ++ [mEnd x])
theorem mData_D (x : Og) (i : Nat) : (mData x i).D = .agg [vi 2, vu x.n, vs ⟨#[]⟩, vi 0, vi (256 * i : Nat), vu 0, vi 0, .sl .ro 1 (((x.b.take (min (256 * i + 256) x.b.length)).drop (256 * i)).map un)] := by simp only [Mg.D, mData, lst_f]
theorem mMeta_D (x : Og) : (mMeta x).D = .agg [vi 1, vu x.n, vs x.nm, vi x.b.length, vi 0, vu 0, vi 0, .sl .nl 0 []] := rfl
theorem mEnd_D (x : Og) : (mEnd x).D = .agg [vi 3, vu x.n, vs ⟨#[]⟩, vi x.b.length, vi 0, vu (crcN x.b), vi 0, .sl .nl 0 []] := rfl
theorem datas_len (x : Og) : ∀ k i, (datas x i k).length = k
  | 0, _ => rfl
  | k + 1, i => by simp [datas, datas_len x k]
theorem msgs_len (x : Og) : (msgs x).length = nData x + 2 := by simp [msgs, datas_len]
theorem q41s (b : List D) (hb : b.length < 1099511627776) : qv (EF pg) 41 [.sl .ro 1 b] = some (.sl .ro 1 b) := by
  have := q41 false b hb
  rwa [lst_f] at this
def runC {α : Type} (go : α → Mg → Bool) (nx : α → Mg → α) : α → List Mg → α × Bool
  | a, [] => (a, true)
  | a, m :: r => if go a m = true then runC go nx (nx a m) r else (nx a m, false)
section
variable {α : Type} {st : α → List Bx} {f b rid N : Nat} {go : α → Mg → Bool} {nx : α → Mg → α} {I : Nat → α → Prop} {x : Og}
structure Yl (st : α → List Bx) (f b rid N M : Nat) (go : α → Mg → Bool) (nx : α → Mg → α) (I : Nat → α → Prop) : Prop where
  hf : f < N
  hN : ∀ a, (st a).length = N
  hr : ∀ k a, I k a → ∃ ks caps, ((st a)[f]?).bind (lk b) = some (.rcd 0 0 rid ks :: caps)
  hy : ∀ k a m, I k a → k < M → EF pg rid [.yld f b, m.D] (st a ++ [[]]) = some (vb (go a m), st (nx a m) ++ [[]])
  hI : ∀ k a m, I k a → k < M → go a m = true → I (k + 1) (nx a m)
theorem l53 (h : Yl st f b rid N (msgs x).length go nx I) (hl : x.b.length < 1000000) : ∀ (k i : Nat) (a : α) {s : S} {r : Option (Ex × S)}, evC (EF pg) l53x0 s = r → s.o = st a → i + k = nData x → I (i + 1) a →
    get 0 s.e = .yld f b → get 1 s.e = .fptr [vu x.n, vi x.d, vs x.nm, lst .ro 1 x.q (x.b.map un), vi x.s, vi x.u] 0 → get 3 s.e = vi (256 * i : Nat) →
    ∃ s', r = some (if (runC go nx a (datas x i k)).2 = true then .ex 0 else .rt, s') ∧ s'.o = st (runC go nx a (datas x i k)).1 ∧ s'.l = [] ∧ ((runC go nx a (datas x i k)).2 = true → get 0 s'.e = .yld f b ∧ get 1 s'.e = .fptr [vu x.n, vi x.d, vs x.nm, lst .ro 1 x.q (x.b.map un), vi x.s, vi x.u] 0 ∧ I (i + k + 1) (runC go nx a (datas x i k)).1) := by
  intro k
  induction k with
  | zero =>
    intro i a s r hr ho hi hI h0 h1 h3
    have hN := h.hN a
    have hne : ¬ f = (st a).length := by rw [hN]; have := h.hf; omega
    have hf : decide (f < (st a).length) = true := by rw [hN]; simpa using h.hf
    have hd : decide (((256 * i : Nat) : Int) < (x.b.length : Int)) = false := by simp only [nData] at hi; simp; omega
    rw [lp_n (L := l53x0) rfl] at hr
    simp (maxSteps := 1000000) +contextual -implicitDefEqProofs only [go_sem, R_c, G_c, D_c, DG_c, G_cf, G_cv, D_cf, DG_cf, E_c, E_cf, E_a, D_ap, D_mm, D_al, D_ldm, E_ap, E_mm, Nat.reduceEqDiff, Nat.reduceAdd, Nat.reduceLeDiff, Nat.reduceSub, Nat.reduceLT, Nat.reduceMul, Int.reduceToNat, Int.reduceEq, ↓reduceIte, reduceCtorEq, Bool.false_and, Bool.and_false, Bool.false_eq_true, Bool.true_or, Bool.or_true, Bool.false_or, Bool.or_false, Nat.reduceBEq, Int.reduceBEq, Int.reduceBNe, Int.reduceLT, Int.reduceLE, Int.reduceMul, Int.reduceAdd, Int.toNat_natCast, List.isEmpty_map, b53x0, h0, h1, h3, ho, hd, hne, hf] at hr
    subst hr
    exact ⟨_, rfl, rfl, rfl, fun _ => ⟨rfl, rfl, hI⟩⟩
  | succ k ih =>
    intro i a s r hr ho hi hI h0 h1 h3
    have hN := h.hN a
    have hne : ¬ f = (st a).length := by rw [hN]; have := h.hf; omega
    have hf : decide (f < (st a).length) = true := by rw [hN]; simpa using h.hf
    have hlt : 256 * i < x.b.length := by simp only [nData] at hi; omega
    have hd : decide (((256 * i : Nat) : Int) < (x.b.length : Int)) = true := by simp; omega
    have hw : IntKind.i64.wrap (((256 * i : Nat) : Int) + 256) = ((256 * (i + 1) : Nat) : Int) := by rw [wi64 (by omega)]; omega
    have hmin : (if (x.b.length : Int) < ((256 * (i + 1) : Nat) : Int) then (x.b.length : Int) else ((256 * (i + 1) : Nat) : Int)) = ((min (256 * i + 256) x.b.length : Nat) : Int) := by split <;> omega
    have hc : ((0 : Int) ≤ ((256 * i : Nat) : Int) ∧ ((256 * i : Nat) : Int) ≤ ((min (256 * i + 256) x.b.length : Nat) : Int) ∧ ((min (256 * i + 256) x.b.length : Nat) : Int) ≤ (x.b.length : Int)) := by omega
    have hbe : x.b.isEmpty = false := by
      cases hb : x.b with
      | nil => rw [hb] at hlt; simp at hlt
      | cons _ _ => rfl
    obtain ⟨ks, caps, hrec⟩ := h.hr _ a hI
    have hk : i + 1 < (msgs x).length := by rw [msgs_len]; omega
    have hy := h.hy _ a (mData x i) hI hk
    have hq := q41s (((x.b.take (min (256 * i + 256) x.b.length)).drop (256 * i)).map un) (by simp; omega)
    have hI2 := h.hI _ a (mData x i) hI hk
    rw [mData_D] at hy
    rw [lp_n (L := l53x0) rfl] at hr
    cases hgo : go a (mData x i) with
    | true =>
      simp (maxSteps := 1000000) +contextual -implicitDefEqProofs only [go_sem, R_c, G_c, D_c, DG_c, G_cf, G_cv, D_cf, DG_cf, E_c, E_cf, E_a, D_ap, D_mm, D_al, D_ldm, E_ap, E_mm, Nat.reduceEqDiff, Nat.reduceAdd, Nat.reduceLeDiff, Nat.reduceSub, Nat.reduceLT, Nat.reduceMul, Int.reduceToNat, Int.reduceEq, ↓reduceIte, reduceCtorEq, Bool.false_and, Bool.and_false, Bool.false_eq_true, Bool.true_or, Bool.or_true, Bool.false_or, Bool.or_false, Nat.reduceBEq, Int.reduceBEq, Int.reduceBNe, Int.reduceLT, Int.reduceLE, Int.reduceMul, Int.reduceAdd, Int.toNat_natCast, List.isEmpty_map, b53x0, h0, h1, h3, ho, hd, hne, hf, hw, hmin, hc, hbe, hq, hrec, hy, hgo, ← List.map_take, ← List.map_drop] at hr
      have := ih (i + 1) (nx a (mData x i)) hr rfl (by omega) (hI2 hgo) rfl rfl rfl
      rw [show i + 1 + k + 1 = i + (k + 1) + 1 by omega] at this
      simp only [datas, runC, hgo, if_true]
      exact this
    | false =>
      simp (maxSteps := 1000000) +contextual -implicitDefEqProofs only [go_sem, R_c, G_c, D_c, DG_c, G_cf, G_cv, D_cf, DG_cf, E_c, E_cf, E_a, D_ap, D_mm, D_al, D_ldm, E_ap, E_mm, Nat.reduceEqDiff, Nat.reduceAdd, Nat.reduceLeDiff, Nat.reduceSub, Nat.reduceLT, Nat.reduceMul, Int.reduceToNat, Int.reduceEq, ↓reduceIte, reduceCtorEq, Bool.false_and, Bool.and_false, Bool.false_eq_true, Bool.true_or, Bool.or_true, Bool.false_or, Bool.or_false, Nat.reduceBEq, Int.reduceBEq, Int.reduceBNe, Int.reduceLT, Int.reduceLE, Int.reduceMul, Int.reduceAdd, Int.toNat_natCast, List.isEmpty_map, b53x0, h0, h1, h3, ho, hd, hne, hf, hw, hmin, hc, hbe, hq, hrec, hy, hgo, ← List.map_take, ← List.map_drop] at hr
      subst hr
      simp only [datas, runC, hgo, Bool.false_eq_true, if_false]
      exact ⟨_, rfl, rfl, rfl, fun h => h.elim⟩
theorem runC_snoc {m : Mg} : ∀ {l : List Mg} {a : α}, runC go nx a (l ++ [m]) = if (runC go nx a l).2 = true then (nx (runC go nx a l).1 m, go (runC go nx a l).1 m) else runC go nx a l
  | [], a => by
    simp only [List.nil_append, runC, if_true]
    cases go a m <;> rfl
  | x :: l, a => by
    simp only [List.cons_append, runC]
    by_cases h : go a x = true
    · simp only [if_pos h]; exact runC_snoc
    · simp only [if_neg h, Bool.false_eq_true, if_false]
theorem w53 (h : Yl st f b rid N (msgs x).length go nx I) (hl : x.b.length < 1000000) (hb : ∀ c ∈ x.b, c < 256) (a : α) (hI : I 0 a) :
    EF pg 53 [.yld f b, .fptr [vu x.n, vi x.d, vs x.nm, lst .ro 1 x.q (x.b.map un), vi x.s, vi x.u] 0] (st a) = some (.tup [], st (runC go nx a (msgs x)).1) := by
  rw [EF_call p53 rfl (by simp [F53]) (by simp (maxSteps := 1000000) +contextual -implicitDefEqProofs only [go_sem, R_c, G_c, D_c, DG_c, G_cf, G_cv, D_cf, DG_cf, E_c, E_cf, E_a, D_ap, D_mm, D_al, D_ldm, E_ap, E_mm, Nat.reduceEqDiff, Nat.reduceAdd, Nat.reduceLeDiff, Nat.reduceSub, Nat.reduceLT, Nat.reduceMul, Int.reduceToNat, Int.reduceEq, ↓reduceIte, reduceCtorEq, Bool.false_and, Bool.and_false, Bool.false_eq_true, Bool.true_or, Bool.or_true, Bool.false_or, Bool.or_false, Nat.reduceBEq, Int.reduceBEq, Int.reduceBNe, Int.reduceLT, Int.reduceLE, Int.reduceMul, Int.reduceAdd, Int.toNat_natCast, List.isEmpty_map, ])]
  have hN := h.hN a
  have hne : ¬ f = (st a).length := by rw [hN]; have := h.hf; omega
  have hf : decide (f < (st a).length) = true := by rw [hN]; simpa using h.hf
  obtain ⟨ks, caps, hrec⟩ := h.hr _ a hI
  have hml := msgs_len x
  have hy := h.hy _ a (mMeta x) hI (by omega)
  rw [mMeta_D] at hy
  cases hgo : go a (mMeta x) with
  | false =>
    simp (maxSteps := 1000000) +contextual -implicitDefEqProofs only [go_sem, R_c, G_c, D_c, DG_c, G_cf, G_cv, D_cf, DG_cf, E_c, E_cf, E_a, D_ap, D_mm, D_al, D_ldm, E_ap, E_mm, Nat.reduceEqDiff, Nat.reduceAdd, Nat.reduceLeDiff, Nat.reduceSub, Nat.reduceLT, Nat.reduceMul, Int.reduceToNat, Int.reduceEq, ↓reduceIte, reduceCtorEq, Bool.false_and, Bool.and_false, Bool.false_eq_true, Bool.true_or, Bool.or_true, Bool.false_or, Bool.or_false, Nat.reduceBEq, Int.reduceBEq, Int.reduceBNe, Int.reduceLT, Int.reduceLE, Int.reduceMul, Int.reduceAdd, Int.toNat_natCast, List.isEmpty_map, F53, c53, hne, hf, hrec, hy, hgo]
    simp only [msgs, runC, hgo, Bool.false_eq_true, if_false]
  | true =>
    simp (maxSteps := 1000000) +contextual -implicitDefEqProofs only [go_sem, R_c, G_c, D_c, DG_c, G_cf, G_cv, D_cf, DG_cf, E_c, E_cf, E_a, D_ap, D_mm, D_al, D_ldm, E_ap, E_mm, Nat.reduceEqDiff, Nat.reduceAdd, Nat.reduceLeDiff, Nat.reduceSub, Nat.reduceLT, Nat.reduceMul, Int.reduceToNat, Int.reduceEq, ↓reduceIte, reduceCtorEq, Bool.false_and, Bool.and_false, Bool.false_eq_true, Bool.true_or, Bool.or_true, Bool.false_or, Bool.or_false, Nat.reduceBEq, Int.reduceBEq, Int.reduceBNe, Int.reduceLT, Int.reduceLE, Int.reduceMul, Int.reduceAdd, Int.toNat_natCast, List.isEmpty_map, F53, c53, hne, hf, hrec, hy, hgo]
    generalize hz : evC (EF pg) l53x0 _ = z
    obtain ⟨s', rfl, g1, g2, g3⟩ := l53 h hl (nData x) 0 (nx a (mMeta x)) hz rfl (by omega) (h.hI _ a _ hI (by omega) hgo) rfl rfl rfl
    simp only [msgs, runC, hgo, if_true, runC_snoc]
    cases hg : (runC go nx (nx a (mMeta x)) (datas x 0 (nData x))).2 with
    | false =>
      simp (maxSteps := 1000000) +contextual -implicitDefEqProofs only [go_sem, R_c, G_c, D_c, DG_c, G_cf, G_cv, D_cf, DG_cf, E_c, E_cf, E_a, D_ap, D_mm, D_al, D_ldm, E_ap, E_mm, Nat.reduceEqDiff, Nat.reduceAdd, Nat.reduceLeDiff, Nat.reduceSub, Nat.reduceLT, Nat.reduceMul, Int.reduceToNat, Int.reduceEq, ↓reduceIte, reduceCtorEq, Bool.false_and, Bool.and_false, Bool.false_eq_true, Bool.true_or, Bool.or_true, Bool.false_or, Bool.or_false, Nat.reduceBEq, Int.reduceBEq, Int.reduceBNe, Int.reduceLT, Int.reduceLE, Int.reduceMul, Int.reduceAdd, Int.toNat_natCast, List.isEmpty_map, g1, g2, hg]
    | true =>
      obtain ⟨g4, g5, g6⟩ := g3 hg
      generalize (runC go nx (nx a (mMeta x)) (datas x 0 (nData x))).1 = a1 at g1 g6
      have hN := h.hN a1
      have hne : ¬ f = (st a1).length := by rw [hN]; have := h.hf; omega
      obtain ⟨ks, caps, hrec⟩ := h.hr _ a1 g6
      have hy := h.hy _ a1 (mEnd x) g6 (by omega)
      rw [mEnd_D] at hy
      simp (maxSteps := 1000000) +contextual -implicitDefEqProofs only [go_sem, R_c, G_c, D_c, DG_c, G_cf, G_cv, D_cf, DG_cf, E_c, E_cf, E_a, D_ap, D_mm, D_al, D_ldm, E_ap, E_mm, Nat.reduceEqDiff, Nat.reduceAdd, Nat.reduceLeDiff, Nat.reduceSub, Nat.reduceLT, Nat.reduceMul, Int.reduceToNat, Int.reduceEq, ↓reduceIte, reduceCtorEq, Bool.false_and, Bool.and_false, Bool.false_eq_true, Bool.true_or, Bool.or_true, Bool.false_or, Bool.or_false, Nat.reduceBEq, Int.reduceBEq, Int.reduceBNe, Int.reduceLT, Int.reduceLE, Int.reduceMul, Int.reduceAdd, Int.toNat_natCast, List.isEmpty_map, g1, g2, g4, g5, hg, hne, hrec, hy, q26 x.q x.b (by omega) hb]
end
theorem w30 (x : Og) (B : List Bx) : EF pg 30 [.agg [vu x.n, vi x.d, vs x.nm, lst .ro 1 x.q (x.b.map un), vi x.s, vi x.u]] B = some (.clo 53 [.fptr [vu x.n, vi x.d, vs x.nm, lst .ro 1 x.q (x.b.map un), vi x.s, vi x.u] 0], B) := by
  rw [EF_call p30 rfl (by simp [F30]) (by simp (maxSteps := 1000000) +contextual -implicitDefEqProofs only [go_sem, R_c, G_c, D_c, DG_c, G_cf, G_cv, D_cf, DG_cf, E_c, E_cf, E_a, D_ap, D_mm, D_al, D_ldm, E_ap, E_mm, Nat.reduceEqDiff, Nat.reduceAdd, Nat.reduceLeDiff, Nat.reduceSub, Nat.reduceLT, Nat.reduceMul, Int.reduceToNat, Int.reduceEq, ↓reduceIte, reduceCtorEq, Bool.false_and, Bool.and_false, Bool.false_eq_true, Bool.true_or, Bool.or_true, Bool.false_or, Bool.or_false, Nat.reduceBEq, Int.reduceBEq, Int.reduceBNe, Int.reduceLT, Int.reduceLE, Int.reduceMul, Int.reduceAdd, Int.toNat_natCast, List.isEmpty_map, ])]
  simp (maxSteps := 1000000) +contextual -implicitDefEqProofs only [go_sem, R_c, G_c, D_c, DG_c, G_cf, G_cv, D_cf, DG_cf, E_c, E_cf, E_a, D_ap, D_mm, D_al, D_ldm, E_ap, E_mm, Nat.reduceEqDiff, Nat.reduceAdd, Nat.reduceLeDiff, Nat.reduceSub, Nat.reduceLT, Nat.reduceMul, Int.reduceToNat, Int.reduceEq, ↓reduceIte, reduceCtorEq, Bool.false_and, Bool.and_false, Bool.false_eq_true, Bool.true_or, Bool.or_true, Bool.false_or, Bool.or_false, Nat.reduceBEq, Int.reduceBEq, Int.reduceBNe, Int.reduceLT, Int.reduceLE, Int.reduceMul, Int.reduceAdd, Int.toNat_natCast, List.isEmpty_map, F30, c30]
end Go.Proofs.Ytlhjdikklmkihaa.Ev
