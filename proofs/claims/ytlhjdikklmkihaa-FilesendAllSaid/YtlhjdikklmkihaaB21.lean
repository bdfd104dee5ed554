/- Copies of sendings. Conditions: none. -/
import Derived.Test.YtlhjdikklmkihaaA21
set_option linter.all false
namespace Go.Proofs.Ytlhjdikklmkihaa.Ev
open Go
/-- A sending. -/
structure Og where
  (n d : Int)
  nm : ByteArray
  q : Bool
  b : List Nat
  (s u : Int)
def Og.D (x : Og) : D := .agg [vu x.n, vi x.d, vs x.nm, lst .ro 1 x.q (x.b.map un), vi x.s, vi x.u]
/-- How one ended. -/
structure En where
  (n c : Int)
def En.D (x : En) : D := .agg [vu x.n, vi x.c]
/-- What is sent. -/
def foD (nx : Int) (l e : Ev.D) : Ev.D := .agg [vu nx, l, e]
def BIG : Nat := 1099511627776
theorem lst_ne {m : Mode} {z : Nat} {q : Bool} {xs : List D} (h : (q && xs.isEmpty) = false) : lst m z q xs = .sl m z xs := by unfold lst; rw [if_neg (by simp [h])]
theorem lst_e {m : Mode} {z : Nat} {q : Bool} {xs : List D} (h : (q && xs.isEmpty) = true) : lst m z q xs = .sl .nl 0 [] := by unfold lst; rw [if_pos h]
theorem w41 (q : Bool) (b : List D) (hb : b.length < 1099511627776) (B : List Bx) : EF pg 41 [lst .ro 1 q b] B = some (lst .ro 1 q b, B) := by
  rw [EF_call p41 rfl (by simp [F41]) (by simp (maxSteps := 1000000) +contextual -implicitDefEqProofs only [go_sem, R_c, G_c, D_c, DG_c, G_cf, G_cv, D_cf, DG_cf, E_c, E_cf, E_a, D_ap, D_mm, D_al, D_ldm, E_ap, E_mm, Nat.reduceEqDiff, Nat.reduceAdd, Nat.reduceLeDiff, Nat.reduceSub, Nat.reduceLT, Nat.reduceMul, Int.reduceToNat, Int.reduceEq, ↓reduceIte, reduceCtorEq, Bool.false_and, Bool.and_false, Bool.false_eq_true, Bool.true_or, Bool.or_true, Bool.false_or, Bool.or_false, Nat.reduceBEq, Int.reduceBEq, Int.reduceBNe, Int.reduceLT, Int.reduceLE, Int.reduceMul, Int.reduceAdd, Int.toNat_natCast, List.isEmpty_map, ])]
  have hle : b.length * 1 ≤ 140737488355328 := by omega
  cases h : (q && b.isEmpty) with
  | true => simp (maxSteps := 1000000) +contextual -implicitDefEqProofs only [go_sem, R_c, G_c, D_c, DG_c, G_cf, G_cv, D_cf, DG_cf, E_c, E_cf, E_a, D_ap, D_mm, D_al, D_ldm, E_ap, E_mm, Nat.reduceEqDiff, Nat.reduceAdd, Nat.reduceLeDiff, Nat.reduceSub, Nat.reduceLT, Nat.reduceMul, Int.reduceToNat, Int.reduceEq, ↓reduceIte, reduceCtorEq, Bool.false_and, Bool.and_false, Bool.false_eq_true, Bool.true_or, Bool.or_true, Bool.false_or, Bool.or_false, Nat.reduceBEq, Int.reduceBEq, Int.reduceBNe, Int.reduceLT, Int.reduceLE, Int.reduceMul, Int.reduceAdd, Int.toNat_natCast, List.isEmpty_map, F41, c41, h, lst_e h]
  | false =>
    simp (maxSteps := 1000000) +contextual -implicitDefEqProofs only [go_sem, R_c, G_c, D_c, DG_c, G_cf, G_cv, D_cf, DG_cf, E_c, E_cf, E_a, D_ap, D_mm, D_al, D_ldm, E_ap, E_mm, Nat.reduceEqDiff, Nat.reduceAdd, Nat.reduceLeDiff, Nat.reduceSub, Nat.reduceLT, Nat.reduceMul, Int.reduceToNat, Int.reduceEq, ↓reduceIte, reduceCtorEq, Bool.false_and, Bool.and_false, Bool.false_eq_true, Bool.true_or, Bool.or_true, Bool.false_or, Bool.or_false, Nat.reduceBEq, Int.reduceBEq, Int.reduceBNe, Int.reduceLT, Int.reduceLE, Int.reduceMul, Int.reduceAdd, Int.toNat_natCast, List.isEmpty_map, F41, c41, h, hle]
    rw [lst_ne h]
theorem q41 (q : Bool) (b : List D) (hb : b.length < 1099511627776) : qv (EF pg) 41 [lst .ro 1 q b] = some (lst .ro 1 q b) := qv_of fun B => w41 q b hb B
theorem w55 (q : Bool) (b : List D) (hb : b.length < 1099511627776) (B : List Bx) : EF pg 55 [lst .ro 2 q b] B = some (lst .app 2 q b, B) := by
  rw [EF_call p55 rfl (by simp [F55]) (by simp (maxSteps := 1000000) +contextual -implicitDefEqProofs only [go_sem, R_c, G_c, D_c, DG_c, G_cf, G_cv, D_cf, DG_cf, E_c, E_cf, E_a, D_ap, D_mm, D_al, D_ldm, E_ap, E_mm, Nat.reduceEqDiff, Nat.reduceAdd, Nat.reduceLeDiff, Nat.reduceSub, Nat.reduceLT, Nat.reduceMul, Int.reduceToNat, Int.reduceEq, ↓reduceIte, reduceCtorEq, Bool.false_and, Bool.and_false, Bool.false_eq_true, Bool.true_or, Bool.or_true, Bool.false_or, Bool.or_false, Nat.reduceBEq, Int.reduceBEq, Int.reduceBNe, Int.reduceLT, Int.reduceLE, Int.reduceMul, Int.reduceAdd, Int.toNat_natCast, List.isEmpty_map, ])]
  have hle : b.length * 16 ≤ 140737488355328 := by omega
  cases h : (q && b.isEmpty) with
  | true => simp (maxSteps := 1000000) +contextual -implicitDefEqProofs only [go_sem, R_c, G_c, D_c, DG_c, G_cf, G_cv, D_cf, DG_cf, E_c, E_cf, E_a, D_ap, D_mm, D_al, D_ldm, E_ap, E_mm, Nat.reduceEqDiff, Nat.reduceAdd, Nat.reduceLeDiff, Nat.reduceSub, Nat.reduceLT, Nat.reduceMul, Int.reduceToNat, Int.reduceEq, ↓reduceIte, reduceCtorEq, Bool.false_and, Bool.and_false, Bool.false_eq_true, Bool.true_or, Bool.or_true, Bool.false_or, Bool.or_false, Nat.reduceBEq, Int.reduceBEq, Int.reduceBNe, Int.reduceLT, Int.reduceLE, Int.reduceMul, Int.reduceAdd, Int.toNat_natCast, List.isEmpty_map, F55, c55, h, lst_e h]
  | false =>
    simp (maxSteps := 1000000) +contextual -implicitDefEqProofs only [go_sem, R_c, G_c, D_c, DG_c, G_cf, G_cv, D_cf, DG_cf, E_c, E_cf, E_a, D_ap, D_mm, D_al, D_ldm, E_ap, E_mm, Nat.reduceEqDiff, Nat.reduceAdd, Nat.reduceLeDiff, Nat.reduceSub, Nat.reduceLT, Nat.reduceMul, Int.reduceToNat, Int.reduceEq, ↓reduceIte, reduceCtorEq, Bool.false_and, Bool.and_false, Bool.false_eq_true, Bool.true_or, Bool.or_true, Bool.false_or, Bool.or_false, Nat.reduceBEq, Int.reduceBEq, Int.reduceBNe, Int.reduceLT, Int.reduceLE, Int.reduceMul, Int.reduceAdd, Int.toNat_natCast, List.isEmpty_map, F55, c55, h, hle]
    rw [lst_ne h]
theorem take_snoc {α : Type} {l : List α} {i : Nat} {x : α} (h : l[i]? = some x) : l.take (i + 1) = l.take i ++ [x] := by
  have := (List.getElem?_eq_some_iff.1 h)
  obtain ⟨h1, h2⟩ := this
  rw [List.take_succ, h]; rfl
theorem l33 (l : List Og) (hl : l.length < 1000000) (hb : ∀ x ∈ l, x.b.length < 1099511627776) (q : Bool) (nx : Int) (eD : D) (B : List Bx) (he : eD.in1 B.length [1, 2] = true) : ∀ (k i : Nat) {s : S} {r : Option (Ex × S)}, evC (EF pg) l33x0 s = r → s.o = B → i + k = l.length →
    get 1 s.e = .ptr B.length 1 0 → get 2 s.e = .ptr B.length 2 0 → get 13 s.e = lst .ro 6 q (l.map Og.D) → get 14 s.e = vi l.length → get 15 s.e = vi i → lk 1 s.l = some [vu nx, lst .mu 6 true ((l.map Og.D).take i), eD] → lk 2 s.l = some [vu 0, .sl .nl 0 [], .sl .nl 0 []] →
    ∃ s', r = some (.ex 0, s') ∧ s'.o = B ∧ get 1 s'.e = .ptr B.length 1 0 ∧ get 2 s'.e = .ptr B.length 2 0 ∧ s'.l = [(1, [vu nx, lst .mu 6 true (l.map Og.D), eD]), (2, [vu 0, .sl .nl 0 [], .sl .nl 0 []])] := by
  intro k
  induction k with
  | zero =>
    intro i s r hr ho hi h1 h2 h13 h14 h15 hl1 hl2
    rw [lp_n (L := l33x0) rfl] at hr
    have hd : decide ((i : Int) < (l.length : Int)) = false := by simp; omega
    simp (maxSteps := 1000000) +contextual -implicitDefEqProofs only [go_sem, R_c, G_c, D_c, DG_c, G_cf, G_cv, D_cf, DG_cf, E_c, E_cf, E_a, D_ap, D_mm, D_al, D_ldm, E_ap, E_mm, Nat.reduceEqDiff, Nat.reduceAdd, Nat.reduceLeDiff, Nat.reduceSub, Nat.reduceLT, Nat.reduceMul, Int.reduceToNat, Int.reduceEq, ↓reduceIte, reduceCtorEq, Bool.false_and, Bool.and_false, Bool.false_eq_true, Bool.true_or, Bool.or_true, Bool.false_or, Bool.or_false, Nat.reduceBEq, Int.reduceBEq, Int.reduceBNe, Int.reduceLT, Int.reduceLE, Int.reduceMul, Int.reduceAdd, Int.toNat_natCast, List.isEmpty_map, b33x0, h1, h2, h13, h14, h15, ho, hl1, hl2, hd, he] at hr
    subst hr
    exact ⟨_, rfl, rfl, rfl, rfl, by rw [List.take_of_length_le (by simp; omega)]; rfl⟩
  | succ k ih =>
    intro i s r hr ho hi h1 h2 h13 h14 h15 hl1 hl2
    have hd : decide ((i : Int) < (l.length : Int)) = true := by simp; omega
    obtain ⟨x, hx⟩ : ∃ x, l[i]? = some x := ⟨_, List.getElem?_eq_getElem (by omega)⟩
    have hw : IntKind.i64.wrap ((i : Int) + 1) = ((i + 1 : Nat) : Int) := by rw [wi64 (by omega)]; omega
    have hbx := hb x (List.mem_of_getElem? hx)
    have hle : (((l.map Og.D).take i).length + 1) * 72 ≤ 140737488355328 := by simp; omega
    have ht := take_snoc (l := l.map Og.D) (i := i) (x := x.D) (by simp [hx])
    rw [lp_n (L := l33x0) rfl] at hr
    simp (maxSteps := 1000000) +contextual -implicitDefEqProofs only [go_sem, R_c, G_c, D_c, DG_c, G_cf, G_cv, D_cf, DG_cf, E_c, E_cf, E_a, D_ap, D_mm, D_al, D_ldm, E_ap, E_mm, Nat.reduceEqDiff, Nat.reduceAdd, Nat.reduceLeDiff, Nat.reduceSub, Nat.reduceLT, Nat.reduceMul, Int.reduceToNat, Int.reduceEq, ↓reduceIte, reduceCtorEq, Bool.false_and, Bool.and_false, Bool.false_eq_true, Bool.true_or, Bool.or_true, Bool.false_or, Bool.or_false, Nat.reduceBEq, Int.reduceBEq, Int.reduceBNe, Int.reduceLT, Int.reduceLE, Int.reduceMul, Int.reduceAdd, Int.toNat_natCast, List.isEmpty_map, b33x0, h1, h2, h13, h14, h15, ho, hl1, hl2, hd, he, hx, hw, List.getElem?_map, Og.D, w41 x.q (x.b.map un) (by simpa using hbx), hle] at hr
    exact ih (i + 1) hr rfl (by omega) rfl rfl rfl rfl rfl (by rw [ht]; rfl) rfl
/-- What is sent, in memory of its own. -/
theorem w33 (nx : Int) (l : List Og) (hl : l.length < 1000000) (hb : ∀ x ∈ l, x.b.length < 1099511627776) (q q2 : Bool) (e : List D) (he : e.length < 1000000) (B : List Bx) :
    EF pg 33 [.agg [vu nx, lst .ro 6 q (l.map Og.D), lst .ro 2 q2 e]] B = some (.agg [vu nx, lst .mu 6 true (l.map Og.D), lst .app 2 q2 e], B) := by
  rw [EF_call p33 rfl (by simp [F33]) (by simp (maxSteps := 1000000) +contextual -implicitDefEqProofs only [go_sem, R_c, G_c, D_c, DG_c, G_cf, G_cv, D_cf, DG_cf, E_c, E_cf, E_a, D_ap, D_mm, D_al, D_ldm, E_ap, E_mm, Nat.reduceEqDiff, Nat.reduceAdd, Nat.reduceLeDiff, Nat.reduceSub, Nat.reduceLT, Nat.reduceMul, Int.reduceToNat, Int.reduceEq, ↓reduceIte, reduceCtorEq, Bool.false_and, Bool.and_false, Bool.false_eq_true, Bool.true_or, Bool.or_true, Bool.false_or, Bool.or_false, Nat.reduceBEq, Int.reduceBEq, Int.reduceBNe, Int.reduceLT, Int.reduceLE, Int.reduceMul, Int.reduceAdd, Int.toNat_natCast, List.isEmpty_map, ])]
  simp (maxSteps := 1000000) +contextual -implicitDefEqProofs only [go_sem, R_c, G_c, D_c, DG_c, G_cf, G_cv, D_cf, DG_cf, E_c, E_cf, E_a, D_ap, D_mm, D_al, D_ldm, E_ap, E_mm, Nat.reduceEqDiff, Nat.reduceAdd, Nat.reduceLeDiff, Nat.reduceSub, Nat.reduceLT, Nat.reduceMul, Int.reduceToNat, Int.reduceEq, ↓reduceIte, reduceCtorEq, Bool.false_and, Bool.and_false, Bool.false_eq_true, Bool.true_or, Bool.or_true, Bool.false_or, Bool.or_false, Nat.reduceBEq, Int.reduceBEq, Int.reduceBNe, Int.reduceLT, Int.reduceLE, Int.reduceMul, Int.reduceAdd, Int.toNat_natCast, List.isEmpty_map, F33, c33, w55 q2 e (by omega)]
  generalize hz : evC (EF pg) l33x0 _ = z
  obtain ⟨s', rfl, h2, h3, h4, h5⟩ := l33 l hl hb q nx (lst .app 2 q2 e) B (by simp (maxSteps := 1000000) +contextual -implicitDefEqProofs only [go_sem, R_c, G_c, D_c, DG_c, G_cf, G_cv, D_cf, DG_cf, E_c, E_cf, E_a, D_ap, D_mm, D_al, D_ldm, E_ap, E_mm, Nat.reduceEqDiff, Nat.reduceAdd, Nat.reduceLeDiff, Nat.reduceSub, Nat.reduceLT, Nat.reduceMul, Int.reduceToNat, Int.reduceEq, ↓reduceIte, reduceCtorEq, Bool.false_and, Bool.and_false, Bool.false_eq_true, Bool.true_or, Bool.or_true, Bool.false_or, Bool.or_false, Nat.reduceBEq, Int.reduceBEq, Int.reduceBNe, Int.reduceLT, Int.reduceLE, Int.reduceMul, Int.reduceAdd, Int.toNat_natCast, List.isEmpty_map, ]) l.length 0 hz rfl (by omega) rfl rfl rfl rfl rfl (by simp [lst_nil]; rfl) rfl
  simp (maxSteps := 1000000) +contextual -implicitDefEqProofs only [go_sem, R_c, G_c, D_c, DG_c, G_cf, G_cv, D_cf, DG_cf, E_c, E_cf, E_a, D_ap, D_mm, D_al, D_ldm, E_ap, E_mm, Nat.reduceEqDiff, Nat.reduceAdd, Nat.reduceLeDiff, Nat.reduceSub, Nat.reduceLT, Nat.reduceMul, Int.reduceToNat, Int.reduceEq, ↓reduceIte, reduceCtorEq, Bool.false_and, Bool.and_false, Bool.false_eq_true, Bool.true_or, Bool.or_true, Bool.false_or, Bool.or_false, Nat.reduceBEq, Int.reduceBEq, Int.reduceBNe, Int.reduceLT, Int.reduceLE, Int.reduceMul, Int.reduceAdd, Int.toNat_natCast, List.isEmpty_map, h2, h3, h4, h5]
def Og.cp (x : Og) : Og := { x with q := false }
theorem l13 (l : List Og) (hl : l.length < 1000000) (hb : ∀ x ∈ l, x.b.length < 1099511627776) (q : Bool) (nx : Int) (eD : D) (B : List Bx) (he : eD.in1 B.length [2, 3] = true) : ∀ (k i : Nat) {s : S} {r : Option (Ex × S)}, evC (EF pg) l13x0 s = r → s.o = B → i + k = l.length →
    get 2 s.e = .ptr B.length 2 0 → get 3 s.e = .ptr B.length 3 0 → get 14 s.e = lst .ro 6 q (l.map Og.D) → get 15 s.e = vi l.length → get 16 s.e = vi i → lk 3 s.l = some [vu nx, lst .mu 6 true (((l.map Og.cp).map Og.D).take i), eD] → lk 2 s.l = some [vu 0, .sl .nl 0 [], .sl .nl 0 []] →
    ∃ s', r = some (.ex 0, s') ∧ s'.o = B ∧ get 2 s'.e = .ptr B.length 2 0 ∧ get 3 s'.e = .ptr B.length 3 0 ∧ s'.l = [(2, [vu 0, .sl .nl 0 [], .sl .nl 0 []]), (3, [vu nx, lst .mu 6 true ((l.map Og.cp).map Og.D), eD])] := by
  intro k
  induction k with
  | zero =>
    intro i s r hr ho hi h1 h2 h13 h14 h15 hl1 hl2
    rw [lp_n (L := l13x0) rfl] at hr
    have hd : decide ((i : Int) < (l.length : Int)) = false := by simp; omega
    simp (maxSteps := 1000000) +contextual -implicitDefEqProofs only [go_sem, R_c, G_c, D_c, DG_c, G_cf, G_cv, D_cf, DG_cf, E_c, E_cf, E_a, D_ap, D_mm, D_al, D_ldm, E_ap, E_mm, Nat.reduceEqDiff, Nat.reduceAdd, Nat.reduceLeDiff, Nat.reduceSub, Nat.reduceLT, Nat.reduceMul, Int.reduceToNat, Int.reduceEq, ↓reduceIte, reduceCtorEq, Bool.false_and, Bool.and_false, Bool.false_eq_true, Bool.true_or, Bool.or_true, Bool.false_or, Bool.or_false, Nat.reduceBEq, Int.reduceBEq, Int.reduceBNe, Int.reduceLT, Int.reduceLE, Int.reduceMul, Int.reduceAdd, Int.toNat_natCast, List.isEmpty_map, b13x0, h1, h2, h13, h14, h15, ho, hl1, hl2, hd, he] at hr
    subst hr
    exact ⟨_, rfl, rfl, rfl, rfl, by rw [List.take_of_length_le (by simp; omega)]; rfl⟩
  | succ k ih =>
    intro i s r hr ho hi h1 h2 h13 h14 h15 hl1 hl2
    have hd : decide ((i : Int) < (l.length : Int)) = true := by simp; omega
    obtain ⟨x, hx⟩ : ∃ x, l[i]? = some x := ⟨_, List.getElem?_eq_getElem (by omega)⟩
    have hw : IntKind.i64.wrap ((i : Int) + 1) = ((i + 1 : Nat) : Int) := by rw [wi64 (by omega)]; omega
    have hbx := hb x (List.mem_of_getElem? hx)
    have hbx' : x.b.length * 1 ≤ 140737488355328 := by omega
    have hle : ((((l.map Og.cp).map Og.D).take i).length + 1) * 72 ≤ 140737488355328 := by simp; omega
    have ht := take_snoc (l := (l.map Og.cp).map Og.D) (i := i) (x := x.cp.D) (by simp [hx])
    rw [lp_n (L := l13x0) rfl] at hr
    simp (maxSteps := 1000000) +contextual -implicitDefEqProofs only [go_sem, R_c, G_c, D_c, DG_c, G_cf, G_cv, D_cf, DG_cf, E_c, E_cf, E_a, D_ap, D_mm, D_al, D_ldm, E_ap, E_mm, Nat.reduceEqDiff, Nat.reduceAdd, Nat.reduceLeDiff, Nat.reduceSub, Nat.reduceLT, Nat.reduceMul, Int.reduceToNat, Int.reduceEq, ↓reduceIte, reduceCtorEq, Bool.false_and, Bool.and_false, Bool.false_eq_true, Bool.true_or, Bool.or_true, Bool.false_or, Bool.or_false, Nat.reduceBEq, Int.reduceBEq, Int.reduceBNe, Int.reduceLT, Int.reduceLE, Int.reduceMul, Int.reduceAdd, Int.toNat_natCast, List.isEmpty_map, b13x0, h1, h2, h13, h14, h15, ho, hl1, hl2, hd, he, hx, hw, List.getElem?_map, Og.D, hbx', hle] at hr
    exact ih (i + 1) hr rfl (by omega) rfl rfl rfl rfl rfl (by rw [ht]; rfl) rfl
/-- Copied. -/
theorem w13 (nx : Int) (l : List Og) (hl : l.length < 1000000) (hb : ∀ x ∈ l, x.b.length < 1099511627776) (q q2 : Bool) (e : List D) (he : e.length < 1000000) (B : List Bx) :
    EF pg 13 [.agg [vu nx, lst .ro 6 q (l.map Og.D), lst .ro 2 q2 e]] B = some (.agg [vu nx, lst .mu 6 true ((l.map Og.cp).map Og.D), .sl .ro 2 e], B) := by
  rw [EF_call p13 rfl (by simp [F13]) (by simp (maxSteps := 1000000) +contextual -implicitDefEqProofs only [go_sem, R_c, G_c, D_c, DG_c, G_cf, G_cv, D_cf, DG_cf, E_c, E_cf, E_a, D_ap, D_mm, D_al, D_ldm, E_ap, E_mm, Nat.reduceEqDiff, Nat.reduceAdd, Nat.reduceLeDiff, Nat.reduceSub, Nat.reduceLT, Nat.reduceMul, Int.reduceToNat, Int.reduceEq, ↓reduceIte, reduceCtorEq, Bool.false_and, Bool.and_false, Bool.false_eq_true, Bool.true_or, Bool.or_true, Bool.false_or, Bool.or_false, Nat.reduceBEq, Int.reduceBEq, Int.reduceBNe, Int.reduceLT, Int.reduceLE, Int.reduceMul, Int.reduceAdd, Int.toNat_natCast, List.isEmpty_map, ])]
  have hle : e.length * 16 ≤ 140737488355328 := by omega
  simp (maxSteps := 1000000) +contextual -implicitDefEqProofs only [go_sem, R_c, G_c, D_c, DG_c, G_cf, G_cv, D_cf, DG_cf, E_c, E_cf, E_a, D_ap, D_mm, D_al, D_ldm, E_ap, E_mm, Nat.reduceEqDiff, Nat.reduceAdd, Nat.reduceLeDiff, Nat.reduceSub, Nat.reduceLT, Nat.reduceMul, Int.reduceToNat, Int.reduceEq, ↓reduceIte, reduceCtorEq, Bool.false_and, Bool.and_false, Bool.false_eq_true, Bool.true_or, Bool.or_true, Bool.false_or, Bool.or_false, Nat.reduceBEq, Int.reduceBEq, Int.reduceBNe, Int.reduceLT, Int.reduceLE, Int.reduceMul, Int.reduceAdd, Int.toNat_natCast, List.isEmpty_map, F13, c13, hle]
  generalize hz : evC (EF pg) l13x0 _ = z
  obtain ⟨s', rfl, h2, h3, h4, h5⟩ := l13 l hl hb q nx (.sl .ro 2 e) B (by simp (maxSteps := 1000000) +contextual -implicitDefEqProofs only [go_sem, R_c, G_c, D_c, DG_c, G_cf, G_cv, D_cf, DG_cf, E_c, E_cf, E_a, D_ap, D_mm, D_al, D_ldm, E_ap, E_mm, Nat.reduceEqDiff, Nat.reduceAdd, Nat.reduceLeDiff, Nat.reduceSub, Nat.reduceLT, Nat.reduceMul, Int.reduceToNat, Int.reduceEq, ↓reduceIte, reduceCtorEq, Bool.false_and, Bool.and_false, Bool.false_eq_true, Bool.true_or, Bool.or_true, Bool.false_or, Bool.or_false, Nat.reduceBEq, Int.reduceBEq, Int.reduceBNe, Int.reduceLT, Int.reduceLE, Int.reduceMul, Int.reduceAdd, Int.toNat_natCast, List.isEmpty_map, ]) l.length 0 hz rfl (by omega) rfl rfl rfl rfl rfl (by simp [lst_nil]; rfl) rfl
  simp (maxSteps := 1000000) +contextual -implicitDefEqProofs only [go_sem, R_c, G_c, D_c, DG_c, G_cf, G_cv, D_cf, DG_cf, E_c, E_cf, E_a, D_ap, D_mm, D_al, D_ldm, E_ap, E_mm, Nat.reduceEqDiff, Nat.reduceAdd, Nat.reduceLeDiff, Nat.reduceSub, Nat.reduceLT, Nat.reduceMul, Int.reduceToNat, Int.reduceEq, ↓reduceIte, reduceCtorEq, Bool.false_and, Bool.and_false, Bool.false_eq_true, Bool.true_or, Bool.or_true, Bool.false_or, Bool.or_false, Nat.reduceBEq, Int.reduceBEq, Int.reduceBNe, Int.reduceLT, Int.reduceLE, Int.reduceMul, Int.reduceAdd, Int.toNat_natCast, List.isEmpty_map, h2, h3, h4, h5]
end Go.Proofs.Ytlhjdikklmkihaa.Ev
