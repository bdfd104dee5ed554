/- The row of a sending's messages, as the program and as the document make it. Conditions: none. -/
import Derived.Test.YtlhjdikklmkihaaD21
set_option linter.all false
namespace Go.Proofs.Ytlhjdikklmkihaa.Ev
open Go
/-- The frame in which messages are gathered. -/
def L52 (k : Nat) (acc : List Mg) : Bx := [(2, [lst .app 8 true (acc.map Mg.D)]), (1000000, [.rcd 0 0 1052000 [2], .ptr k 2 0])]
theorem w52r (B : List Bx) (acc : List Mg) (m : Mg) (ha : acc.length < 1000000) : EF pg 1052000 [.yld B.length 1000000, m.D] ((B ++ [L52 B.length acc]) ++ [[]]) = some (vb true, (B ++ [L52 B.length (acc ++ [m])]) ++ [[]]) := by
  have hle : (acc.length + 1) * 88 ≤ 140737488355328 := by omega
  refine (round_ok (F := F52x0) (caps := [.ptr B.length 2 0]) (ks := [2]) p52x0 rfl (by simp (maxSteps := 1000000) +contextual -implicitDefEqProofs only [go_sem, R_c, G_c, D_c, DG_c, E_a, D_ap, D_mm, D_al, D_ldm, E_ap, E_mm, Nat.reduceEqDiff, Nat.reduceAdd, Nat.reduceLeDiff, Nat.reduceSub, Nat.reduceLT, Nat.reduceMul, Int.reduceToNat, Int.reduceEq, ↓reduceIte, reduceCtorEq, Bool.false_and, Bool.and_false, Bool.false_eq_true, Bool.true_or, Bool.or_true, Bool.false_or, Bool.or_false, Nat.reduceBEq, Int.reduceBEq, Int.reduceBNe, Int.reduceLT, Int.reduceLE, Int.reduceMul, Int.reduceAdd, Int.toNat_natCast, List.isEmpty_map, L52]) (by simp) rfl (by simp (maxSteps := 1000000) +contextual -implicitDefEqProofs only [go_sem, R_c, G_c, D_c, DG_c, E_a, D_ap, D_mm, D_al, D_ldm, E_ap, E_mm, Nat.reduceEqDiff, Nat.reduceAdd, Nat.reduceLeDiff, Nat.reduceSub, Nat.reduceLT, Nat.reduceMul, Int.reduceToNat, Int.reduceEq, ↓reduceIte, reduceCtorEq, Bool.false_and, Bool.and_false, Bool.false_eq_true, Bool.true_or, Bool.or_true, Bool.false_or, Bool.or_false, Nat.reduceBEq, Int.reduceBEq, Int.reduceBNe, Int.reduceLT, Int.reduceLE, Int.reduceMul, Int.reduceAdd, Int.toNat_natCast, List.isEmpty_map, Mg.D]) (s1 := ⟨_, _, _⟩) (by simp (maxSteps := 1000000) +contextual -implicitDefEqProofs only [go_sem, R_c, G_c, D_c, DG_c, E_a, D_ap, D_mm, D_al, D_ldm, E_ap, E_mm, Nat.reduceEqDiff, Nat.reduceAdd, Nat.reduceLeDiff, Nat.reduceSub, Nat.reduceLT, Nat.reduceMul, Int.reduceToNat, Int.reduceEq, ↓reduceIte, reduceCtorEq, Bool.false_and, Bool.and_false, Bool.false_eq_true, Bool.true_or, Bool.or_true, Bool.false_or, Bool.or_false, Nat.reduceBEq, Int.reduceBEq, Int.reduceBNe, Int.reduceLT, Int.reduceLE, Int.reduceMul, Int.reduceAdd, Int.toNat_natCast, List.isEmpty_map, L52, a52x0, Mg.D]; rfl) (by simp (maxSteps := 1000000) +contextual -implicitDefEqProofs only [go_sem, R_c, G_c, D_c, DG_c, E_a, D_ap, D_mm, D_al, D_ldm, E_ap, E_mm, Nat.reduceEqDiff, Nat.reduceAdd, Nat.reduceLeDiff, Nat.reduceSub, Nat.reduceLT, Nat.reduceMul, Int.reduceToNat, Int.reduceEq, ↓reduceIte, reduceCtorEq, Bool.false_and, Bool.and_false, Bool.false_eq_true, Bool.true_or, Bool.or_true, Bool.false_or, Bool.or_false, Nat.reduceBEq, Int.reduceBEq, Int.reduceBNe, Int.reduceLT, Int.reduceLE, Int.reduceMul, Int.reduceAdd, Int.toNat_natCast, List.isEmpty_map, L52]; rfl) (x := .nm) (s2 := ⟨_, _, _⟩) (by simp (maxSteps := 1000000) +contextual -implicitDefEqProofs only [go_sem, R_c, G_c, D_c, DG_c, E_a, D_ap, D_mm, D_al, D_ldm, E_ap, E_mm, Nat.reduceEqDiff, Nat.reduceAdd, Nat.reduceLeDiff, Nat.reduceSub, Nat.reduceLT, Nat.reduceMul, Int.reduceToNat, Int.reduceEq, ↓reduceIte, reduceCtorEq, Bool.false_and, Bool.and_false, Bool.false_eq_true, Bool.true_or, Bool.or_true, Bool.false_or, Bool.or_false, Nat.reduceBEq, Int.reduceBEq, Int.reduceBNe, Int.reduceLT, Int.reduceLE, Int.reduceMul, Int.reduceAdd, Int.toNat_natCast, List.isEmpty_map, L52, F52x0, c52x0, Mg.D, hle]; rfl) (by simp (maxSteps := 1000000) +contextual -implicitDefEqProofs only [go_sem, R_c, G_c, D_c, DG_c, E_a, D_ap, D_mm, D_al, D_ldm, E_ap, E_mm, Nat.reduceEqDiff, Nat.reduceAdd, Nat.reduceLeDiff, Nat.reduceSub, Nat.reduceLT, Nat.reduceMul, Int.reduceToNat, Int.reduceEq, ↓reduceIte, reduceCtorEq, Bool.false_and, Bool.and_false, Bool.false_eq_true, Bool.true_or, Bool.or_true, Bool.false_or, Bool.or_false, Nat.reduceBEq, Int.reduceBEq, Int.reduceBNe, Int.reduceLT, Int.reduceLE, Int.reduceMul, Int.reduceAdd, Int.toNat_natCast, List.isEmpty_map, L52]; rfl)).trans ?_
  simp (maxSteps := 1000000) +contextual -implicitDefEqProofs only [go_sem, R_c, G_c, D_c, DG_c, E_a, D_ap, D_mm, D_al, D_ldm, E_ap, E_mm, Nat.reduceEqDiff, Nat.reduceAdd, Nat.reduceLeDiff, Nat.reduceSub, Nat.reduceLT, Nat.reduceMul, Int.reduceToNat, Int.reduceEq, ↓reduceIte, reduceCtorEq, Bool.false_and, Bool.and_false, Bool.false_eq_true, Bool.true_or, Bool.or_true, Bool.false_or, Bool.or_false, Nat.reduceBEq, Int.reduceBEq, Int.reduceBNe, Int.reduceLT, Int.reduceLE, Int.reduceMul, Int.reduceAdd, Int.toNat_natCast, List.isEmpty_map, L52]
  rw [show (acc ++ [m]).map Mg.D = acc.map Mg.D ++ [m.D] by simp]
  rfl
theorem yl52 (B : List Bx) (M : Nat) (hM : M < 1000000) : Yl (fun acc => B ++ [L52 B.length acc]) B.length 1000000 1052000 (B.length + 1) M (fun _ _ => true) (fun acc m => acc ++ [m]) (fun k acc => acc.length = k) where
  hf := by omega
  hN := fun a => by simp
  hr := fun k a _ => ⟨[2], [.ptr B.length 2 0], by simp (maxSteps := 1000000) +contextual -implicitDefEqProofs only [go_sem, R_c, G_c, D_c, DG_c, E_a, D_ap, D_mm, D_al, D_ldm, E_ap, E_mm, Nat.reduceEqDiff, Nat.reduceAdd, Nat.reduceLeDiff, Nat.reduceSub, Nat.reduceLT, Nat.reduceMul, Int.reduceToNat, Int.reduceEq, ↓reduceIte, reduceCtorEq, Bool.false_and, Bool.and_false, Bool.false_eq_true, Bool.true_or, Bool.or_true, Bool.false_or, Bool.or_false, Nat.reduceBEq, Int.reduceBEq, Int.reduceBNe, Int.reduceLT, Int.reduceLE, Int.reduceMul, Int.reduceAdd, Int.toNat_natCast, List.isEmpty_map, L52]⟩
  hy := fun k a m hk hl => w52r B a m (by omega)
  hI := fun k a m hk _ _ => by simp [hk]
theorem run_all {l : List Mg} : ∀ {a : List Mg}, runC (fun _ _ => true) (fun acc m => acc ++ [m]) a l = (a ++ l, true) := by
  induction l with
  | nil => intro a; simp [runC]
  | cons m l ih => intro a; simp [runC, ih]
theorem w52 (x : Og) (hl : x.b.length < 1000000) (hb : ∀ c ∈ x.b, c < 256) (B : List Bx) : EF pg 52 [.sl .nl 0 [], .clo 53 [.fptr [vu x.n, vi x.d, vs x.nm, lst .ro 1 x.q (x.b.map un), vi x.s, vi x.u] 0]] B = some (lst .ro 8 true ((msgs x).map Mg.D), B) := by
  rw [EF_call p52 rfl (by simp [F52]) (by simp (maxSteps := 1000000) +contextual -implicitDefEqProofs only [go_sem, R_c, G_c, D_c, DG_c, E_a, D_ap, D_mm, D_al, D_ldm, E_ap, E_mm, Nat.reduceEqDiff, Nat.reduceAdd, Nat.reduceLeDiff, Nat.reduceSub, Nat.reduceLT, Nat.reduceMul, Int.reduceToNat, Int.reduceEq, ↓reduceIte, reduceCtorEq, Bool.false_and, Bool.and_false, Bool.false_eq_true, Bool.true_or, Bool.or_true, Bool.false_or, Bool.or_false, Nat.reduceBEq, Int.reduceBEq, Int.reduceBNe, Int.reduceLT, Int.reduceLE, Int.reduceMul, Int.reduceAdd, Int.toNat_natCast, List.isEmpty_map, ])]
  have h53 := w53 (yl52 B (msgs x).length (by rw [msgs_len]; simp only [nData]; omega)) hl hb [] rfl
  rw [run_all, List.nil_append] at h53
  simp (maxSteps := 1000000) +contextual -implicitDefEqProofs only [go_sem, R_c, G_c, D_c, DG_c, E_a, D_ap, D_mm, D_al, D_ldm, E_ap, E_mm, Nat.reduceEqDiff, Nat.reduceAdd, Nat.reduceLeDiff, Nat.reduceSub, Nat.reduceLT, Nat.reduceMul, Int.reduceToNat, Int.reduceEq, ↓reduceIte, reduceCtorEq, Bool.false_and, Bool.and_false, Bool.false_eq_true, Bool.true_or, Bool.or_true, Bool.false_or, Bool.or_false, Nat.reduceBEq, Int.reduceBEq, Int.reduceBNe, Int.reduceLT, Int.reduceLE, Int.reduceMul, Int.reduceAdd, Int.toNat_natCast, List.isEmpty_map, F52, c52]
  rw [rf_run (fn := 53) (caps0 := [.fptr [vu x.n, vi x.d, vs x.nm, lst .ro 1 x.q (x.b.map un), vi x.s, vi x.u] 0]) (d := .tup []) (o' := B) (l' := L52 B.length (msgs x)) (st := 0) (jm := 0) (rid2 := 1052000) (ks2 := [2]) (caps2 := [.ptr B.length 2 0])]
  · simp (maxSteps := 1000000) +contextual -implicitDefEqProofs only [go_sem, R_c, G_c, D_c, DG_c, E_a, D_ap, D_mm, D_al, D_ldm, E_ap, E_mm, Nat.reduceEqDiff, Nat.reduceAdd, Nat.reduceLeDiff, Nat.reduceSub, Nat.reduceLT, Nat.reduceMul, Int.reduceToNat, Int.reduceEq, ↓reduceIte, reduceCtorEq, Bool.false_and, Bool.and_false, Bool.false_eq_true, Bool.true_or, Bool.or_true, Bool.false_or, Bool.or_false, Nat.reduceBEq, Int.reduceBEq, Int.reduceBNe, Int.reduceLT, Int.reduceLE, Int.reduceMul, Int.reduceAdd, Int.toNat_natCast, List.isEmpty_map, L52, exOf]
  · rfl
  · rfl
  · simp (maxSteps := 1000000) +contextual -implicitDefEqProofs only [go_sem, R_c, G_c, D_c, DG_c, E_a, D_ap, D_mm, D_al, D_ldm, E_ap, E_mm, Nat.reduceEqDiff, Nat.reduceAdd, Nat.reduceLeDiff, Nat.reduceSub, Nat.reduceLT, Nat.reduceMul, Int.reduceToNat, Int.reduceEq, ↓reduceIte, reduceCtorEq, Bool.false_and, Bool.and_false, Bool.false_eq_true, Bool.true_or, Bool.or_true, Bool.false_or, Bool.or_false, Nat.reduceBEq, Int.reduceBEq, Int.reduceBNe, Int.reduceLT, Int.reduceLE, Int.reduceMul, Int.reduceAdd, Int.toNat_natCast, List.isEmpty_map, D.cap, yaggB_ptr]
  · exact h53
  · rfl
  · simp
theorem msgs_ne (x : Og) : lst .ro 8 true ((msgs x).map Mg.D) = .sl .ro 8 ((msgs x).map Mg.D) := by simp only [msgs, List.map_cons, lst_cons]
theorem w29 (x : Og) (hl : x.b.length < 1000000) (hb : ∀ c ∈ x.b, c < 256) (B : List Bx) : EF pg 29 [.clo 53 [.fptr [vu x.n, vi x.d, vs x.nm, lst .ro 1 x.q (x.b.map un), vi x.s, vi x.u] 0]] B = some (.sl .ro 8 ((msgs x).map Mg.D), B) := by
  rw [EF_call p29 rfl (by simp [F29]) (by simp (maxSteps := 1000000) +contextual -implicitDefEqProofs only [go_sem, R_c, G_c, D_c, DG_c, E_a, D_ap, D_mm, D_al, D_ldm, E_ap, E_mm, Nat.reduceEqDiff, Nat.reduceAdd, Nat.reduceLeDiff, Nat.reduceSub, Nat.reduceLT, Nat.reduceMul, Int.reduceToNat, Int.reduceEq, ↓reduceIte, reduceCtorEq, Bool.false_and, Bool.and_false, Bool.false_eq_true, Bool.true_or, Bool.or_true, Bool.false_or, Bool.or_false, Nat.reduceBEq, Int.reduceBEq, Int.reduceBNe, Int.reduceLT, Int.reduceLE, Int.reduceMul, Int.reduceAdd, Int.toNat_natCast, List.isEmpty_map, ])]
  simp (maxSteps := 1000000) +contextual -implicitDefEqProofs only [go_sem, R_c, G_c, D_c, DG_c, E_a, D_ap, D_mm, D_al, D_ldm, E_ap, E_mm, Nat.reduceEqDiff, Nat.reduceAdd, Nat.reduceLeDiff, Nat.reduceSub, Nat.reduceLT, Nat.reduceMul, Int.reduceToNat, Int.reduceEq, ↓reduceIte, reduceCtorEq, Bool.false_and, Bool.and_false, Bool.false_eq_true, Bool.true_or, Bool.or_true, Bool.false_or, Bool.or_false, Nat.reduceBEq, Int.reduceBEq, Int.reduceBNe, Int.reduceLT, Int.reduceLE, Int.reduceMul, Int.reduceAdd, Int.toNat_natCast, List.isEmpty_map, F29, c29, w52 x hl hb, msgs_ne x]
theorem w9 (x : Og) (hl : x.b.length < 1000000) (hb : ∀ c ∈ x.b, c < 256) (B : List Bx) : EF pg 9 [.agg [vu x.n, vi x.d, vs x.nm, lst .ro 1 x.q (x.b.map un), vi x.s, vi x.u]] B = some (if (x.n == 0 || !nmB x.nm || decide ((x.b.length : Int) > 2048)) = true then .sl .nl 0 [] else .sl .ro 8 ((msgs x).map Mg.D), B) := by
  rw [EF_call p9 rfl (by simp [F9]) (by simp (maxSteps := 1000000) +contextual -implicitDefEqProofs only [go_sem, R_c, G_c, D_c, DG_c, E_a, D_ap, D_mm, D_al, D_ldm, E_ap, E_mm, Nat.reduceEqDiff, Nat.reduceAdd, Nat.reduceLeDiff, Nat.reduceSub, Nat.reduceLT, Nat.reduceMul, Int.reduceToNat, Int.reduceEq, ↓reduceIte, reduceCtorEq, Bool.false_and, Bool.and_false, Bool.false_eq_true, Bool.true_or, Bool.or_true, Bool.false_or, Bool.or_false, Nat.reduceBEq, Int.reduceBEq, Int.reduceBNe, Int.reduceLT, Int.reduceLE, Int.reduceMul, Int.reduceAdd, Int.toNat_natCast, List.isEmpty_map, ])]
  cases h1 : (x.n == 0) with
  | true => simp (maxSteps := 1000000) +contextual -implicitDefEqProofs only [go_sem, R_c, G_c, D_c, DG_c, E_a, D_ap, D_mm, D_al, D_ldm, E_ap, E_mm, Nat.reduceEqDiff, Nat.reduceAdd, Nat.reduceLeDiff, Nat.reduceSub, Nat.reduceLT, Nat.reduceMul, Int.reduceToNat, Int.reduceEq, ↓reduceIte, reduceCtorEq, Bool.false_and, Bool.and_false, Bool.false_eq_true, Bool.true_or, Bool.or_true, Bool.false_or, Bool.or_false, Nat.reduceBEq, Int.reduceBEq, Int.reduceBNe, Int.reduceLT, Int.reduceLE, Int.reduceMul, Int.reduceAdd, Int.toNat_natCast, List.isEmpty_map, F9, c9, h1]
  | false =>
    cases h2 : nmB x.nm with
    | false => simp (maxSteps := 1000000) +contextual -implicitDefEqProofs only [go_sem, R_c, G_c, D_c, DG_c, E_a, D_ap, D_mm, D_al, D_ldm, E_ap, E_mm, Nat.reduceEqDiff, Nat.reduceAdd, Nat.reduceLeDiff, Nat.reduceSub, Nat.reduceLT, Nat.reduceMul, Int.reduceToNat, Int.reduceEq, ↓reduceIte, reduceCtorEq, Bool.false_and, Bool.and_false, Bool.false_eq_true, Bool.true_or, Bool.or_true, Bool.false_or, Bool.or_false, Nat.reduceBEq, Int.reduceBEq, Int.reduceBNe, Int.reduceLT, Int.reduceLE, Int.reduceMul, Int.reduceAdd, Int.toNat_natCast, List.isEmpty_map, F9, c9, h1, h2, w28]
    | true =>
      cases h3 : decide ((x.b.length : Int) > 2048) with
      | true => simp (maxSteps := 1000000) +contextual -implicitDefEqProofs only [go_sem, R_c, G_c, D_c, DG_c, E_a, D_ap, D_mm, D_al, D_ldm, E_ap, E_mm, Nat.reduceEqDiff, Nat.reduceAdd, Nat.reduceLeDiff, Nat.reduceSub, Nat.reduceLT, Nat.reduceMul, Int.reduceToNat, Int.reduceEq, ↓reduceIte, reduceCtorEq, Bool.false_and, Bool.and_false, Bool.false_eq_true, Bool.true_or, Bool.or_true, Bool.false_or, Bool.or_false, Nat.reduceBEq, Int.reduceBEq, Int.reduceBNe, Int.reduceLT, Int.reduceLE, Int.reduceMul, Int.reduceAdd, Int.toNat_natCast, List.isEmpty_map, F9, c9, h1, h2, h3, w28]
      | false => simp (maxSteps := 1000000) +contextual -implicitDefEqProofs only [go_sem, R_c, G_c, D_c, DG_c, E_a, D_ap, D_mm, D_al, D_ldm, E_ap, E_mm, Nat.reduceEqDiff, Nat.reduceAdd, Nat.reduceLeDiff, Nat.reduceSub, Nat.reduceLT, Nat.reduceMul, Int.reduceToNat, Int.reduceEq, ↓reduceIte, reduceCtorEq, Bool.false_and, Bool.and_false, Bool.false_eq_true, Bool.true_or, Bool.or_true, Bool.false_or, Bool.or_false, Nat.reduceBEq, Int.reduceBEq, Int.reduceBNe, Int.reduceLT, Int.reduceLE, Int.reduceMul, Int.reduceAdd, Int.toNat_natCast, List.isEmpty_map, F9, c9, h1, h2, h3, w28, w30, w29 x hl hb]
theorem datas_snoc (x : Og) : ∀ (k j : Nat), datas x j (k + 1) = datas x j k ++ [mData x (j + k)]
  | 0, j => by simp [datas]
  | k + 1, j => by rw [datas, datas_snoc x k (j + 1), datas, List.cons_append]; congr 3; congr 1; omega
theorem l10 (x : Og) (hl : x.b.length < 1000000) (B : List Bx) : ∀ (k i : Nat) {s : S} {r : Option (Ex × S)}, evC (EF pg) l10x0 s = r → s.o = B → i + k = nData x → get 1 s.e = .ptr B.length 1 0 →
    lk 1 s.l = some [vu x.n, vi x.d, vs x.nm, lst .ro 1 x.q (x.b.map un), vi x.s, vi x.u] → get 3 s.e = .sl .app 8 ((mMeta x :: datas x 0 i).map Mg.D) → get 4 s.e = vi (256 * i : Nat) →
    ∃ s', r = some (.ex 0, s') ∧ s'.o = B ∧ get 1 s'.e = .ptr B.length 1 0 ∧ s'.l = [(1, [vu x.n, vi x.d, vs x.nm, lst .ro 1 x.q (x.b.map un), vi x.s, vi x.u])] ∧ get 3 s'.e = .sl .app 8 ((mMeta x :: datas x 0 (nData x)).map Mg.D) := by
  intro k
  induction k with
  | zero =>
    intro i s r hr ho hi h1 hl1 h3 h4
    obtain rfl : i = nData x := by omega
    have hd : decide (((256 * nData x : Nat) : Int) < (x.b.length : Int)) = false := by
      have : nData x = (x.b.length + 255) / 256 := rfl
      simp; omega
    rw [lp_n (L := l10x0) rfl] at hr
    simp (maxSteps := 1000000) +contextual -implicitDefEqProofs only [go_sem, R_c, G_c, D_c, DG_c, E_a, D_ap, D_mm, D_al, D_ldm, E_ap, E_mm, Nat.reduceEqDiff, Nat.reduceAdd, Nat.reduceLeDiff, Nat.reduceSub, Nat.reduceLT, Nat.reduceMul, Int.reduceToNat, Int.reduceEq, ↓reduceIte, reduceCtorEq, Bool.false_and, Bool.and_false, Bool.false_eq_true, Bool.true_or, Bool.or_true, Bool.false_or, Bool.or_false, Nat.reduceBEq, Int.reduceBEq, Int.reduceBNe, Int.reduceLT, Int.reduceLE, Int.reduceMul, Int.reduceAdd, Int.toNat_natCast, List.isEmpty_map, b10x0, h1, h3, h4, hl1, ho, hd] at hr
    subst hr
    exact ⟨_, rfl, rfl, rfl, rfl, rfl⟩
  | succ k ih =>
    intro i s r hr ho hi h1 hl1 h3 h4
    have hlt : 256 * i < x.b.length := by simp only [nData] at hi; omega
    have hd : decide (((256 * i : Nat) : Int) < (x.b.length : Int)) = true := by simp; omega
    have hw : IntKind.i64.wrap (((256 * i : Nat) : Int) + 256) = ((256 * (i + 1) : Nat) : Int) := by rw [wi64 (by omega)]; omega
    have hbe : x.b.isEmpty = false := by
      cases hb : x.b with
      | nil => rw [hb] at hlt; simp at hlt
      | cons _ _ => rfl
    have hi2 : (mMeta x :: datas x 0 (i + 1)).map Mg.D = (mMeta x :: datas x 0 i).map Mg.D ++ [.agg [vi 2, vu x.n, vs ⟨#[]⟩, vi 0, vi (256 * i : Nat), vu 0, vi 0, .sl .ro 1 (((x.b.take (min (256 * i + 256) x.b.length)).drop (256 * i)).map un)]] := by
      rw [datas_snoc, Nat.zero_add, ← List.cons_append, List.map_append, ← mData_D]; rfl
    have hlen : ((mMeta x :: datas x 0 i).map Mg.D).length = i + 1 := by simp [datas_len]
    have hle : (((mMeta x :: datas x 0 i).map Mg.D).length + 1) * 88 ≤ 140737488355328 := by rw [hlen]; simp only [nData] at hi; omega
    generalize hA : (mMeta x :: datas x 0 i).map Mg.D = A at h3 hi2 hle
    rw [lp_n (L := l10x0) rfl] at hr
    cases hg : decide (((256 * (i + 1) : Nat) : Int) > (x.b.length : Int)) with
    | true =>
      have hmin : min (256 * i + 256) x.b.length = x.b.length := by simp at hg; omega
      have hc : ((0 : Int) ≤ ((256 * i : Nat) : Int) ∧ ((256 * i : Nat) : Int) ≤ (x.b.length : Int) ∧ (x.b.length : Int) ≤ (x.b.length : Int)) := by omega
      rw [hmin] at hi2
      simp (maxSteps := 1000000) +contextual -implicitDefEqProofs only [go_sem, R_c, G_c, D_c, DG_c, E_a, D_ap, D_mm, D_al, D_ldm, E_ap, E_mm, Nat.reduceEqDiff, Nat.reduceAdd, Nat.reduceLeDiff, Nat.reduceSub, Nat.reduceLT, Nat.reduceMul, Int.reduceToNat, Int.reduceEq, ↓reduceIte, reduceCtorEq, Bool.false_and, Bool.and_false, Bool.false_eq_true, Bool.true_or, Bool.or_true, Bool.false_or, Bool.or_false, Nat.reduceBEq, Int.reduceBEq, Int.reduceBNe, Int.reduceLT, Int.reduceLE, Int.reduceMul, Int.reduceAdd, Int.toNat_natCast, List.isEmpty_map, b10x0, h1, h3, h4, hl1, ho, hd, hw, hbe, hg, hc, hle, ← List.map_take, ← List.map_drop] at hr
      exact ih (i + 1) hr rfl (by omega) rfl rfl (by rw [hi2]; rfl) rfl
    | false =>
      have hmin : min (256 * i + 256) x.b.length = 256 * (i + 1) := by simp at hg; omega
      have hc : ((0 : Int) ≤ ((256 * i : Nat) : Int) ∧ ((256 * i : Nat) : Int) ≤ ((256 * (i + 1) : Nat) : Int) ∧ ((256 * (i + 1) : Nat) : Int) ≤ (x.b.length : Int)) := by simp at hg; omega
      rw [hmin] at hi2
      simp (maxSteps := 1000000) +contextual -implicitDefEqProofs only [go_sem, R_c, G_c, D_c, DG_c, E_a, D_ap, D_mm, D_al, D_ldm, E_ap, E_mm, Nat.reduceEqDiff, Nat.reduceAdd, Nat.reduceLeDiff, Nat.reduceSub, Nat.reduceLT, Nat.reduceMul, Int.reduceToNat, Int.reduceEq, ↓reduceIte, reduceCtorEq, Bool.false_and, Bool.and_false, Bool.false_eq_true, Bool.true_or, Bool.or_true, Bool.false_or, Bool.or_false, Nat.reduceBEq, Int.reduceBEq, Int.reduceBNe, Int.reduceLT, Int.reduceLE, Int.reduceMul, Int.reduceAdd, Int.toNat_natCast, List.isEmpty_map, b10x0, h1, h3, h4, hl1, ho, hd, hw, hbe, hg, hc, hle, ← List.map_take, ← List.map_drop] at hr
      exact ih (i + 1) hr rfl (by omega) rfl rfl (by rw [hi2]; rfl) rfl
theorem w10 (x : Og) (hl : x.b.length < 1000000) (hb : ∀ c ∈ x.b, c < 256) (B : List Bx) : EF pg 10 [.agg [vu x.n, vi x.d, vs x.nm, lst .ro 1 x.q (x.b.map un), vi x.s, vi x.u]] B = some (.sl .ro 8 ((msgs x).map Mg.D), B) := by
  rw [EF_call p10 rfl (by simp [F10]) (by simp (maxSteps := 1000000) +contextual -implicitDefEqProofs only [go_sem, R_c, G_c, D_c, DG_c, E_a, D_ap, D_mm, D_al, D_ldm, E_ap, E_mm, Nat.reduceEqDiff, Nat.reduceAdd, Nat.reduceLeDiff, Nat.reduceSub, Nat.reduceLT, Nat.reduceMul, Int.reduceToNat, Int.reduceEq, ↓reduceIte, reduceCtorEq, Bool.false_and, Bool.and_false, Bool.false_eq_true, Bool.true_or, Bool.or_true, Bool.false_or, Bool.or_false, Nat.reduceBEq, Int.reduceBEq, Int.reduceBNe, Int.reduceLT, Int.reduceLE, Int.reduceMul, Int.reduceAdd, Int.toNat_natCast, List.isEmpty_map, ])]
  simp (maxSteps := 1000000) +contextual -implicitDefEqProofs only [go_sem, R_c, G_c, D_c, DG_c, E_a, D_ap, D_mm, D_al, D_ldm, E_ap, E_mm, Nat.reduceEqDiff, Nat.reduceAdd, Nat.reduceLeDiff, Nat.reduceSub, Nat.reduceLT, Nat.reduceMul, Int.reduceToNat, Int.reduceEq, ↓reduceIte, reduceCtorEq, Bool.false_and, Bool.and_false, Bool.false_eq_true, Bool.true_or, Bool.or_true, Bool.false_or, Bool.or_false, Nat.reduceBEq, Int.reduceBEq, Int.reduceBNe, Int.reduceLT, Int.reduceLE, Int.reduceMul, Int.reduceAdd, Int.toNat_natCast, List.isEmpty_map, F10, c10]
  generalize hz : evC (EF pg) l10x0 _ = z
  obtain ⟨s', rfl, g1, g2, g3, g4⟩ := l10 x hl B (nData x) 0 hz rfl (by omega) rfl rfl rfl rfl
  have hlen : ((mMeta x :: datas x 0 (nData x)).map Mg.D).length = nData x + 1 := by simp [datas_len]
  have hle : (((mMeta x :: datas x 0 (nData x)).map Mg.D).length + 1) * 88 ≤ 140737488355328 := by rw [hlen]; simp only [nData]; omega
  have he : (msgs x).map Mg.D = (mMeta x :: datas x 0 (nData x)).map Mg.D ++ [(mEnd x).D] := by rw [msgs, ← List.cons_append, List.map_append]; rfl
  rw [mEnd_D] at he
  generalize (mMeta x :: datas x 0 (nData x)).map Mg.D = A at g4 hle he
  simp (maxSteps := 1000000) +contextual -implicitDefEqProofs only [go_sem, R_c, G_c, D_c, DG_c, E_a, D_ap, D_mm, D_al, D_ldm, E_ap, E_mm, Nat.reduceEqDiff, Nat.reduceAdd, Nat.reduceLeDiff, Nat.reduceSub, Nat.reduceLT, Nat.reduceMul, Int.reduceToNat, Int.reduceEq, ↓reduceIte, reduceCtorEq, Bool.false_and, Bool.and_false, Bool.false_eq_true, Bool.true_or, Bool.or_true, Bool.false_or, Bool.or_false, Nat.reduceBEq, Int.reduceBEq, Int.reduceBNe, Int.reduceLT, Int.reduceLE, Int.reduceMul, Int.reduceAdd, Int.toNat_natCast, List.isEmpty_map, g1, g2, g3, g4, hle, he, q31 x.q x.b (by omega) hb]
end Go.Proofs.Ytlhjdikklmkihaa.Ev
