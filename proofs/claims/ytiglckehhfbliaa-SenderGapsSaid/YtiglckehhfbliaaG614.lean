/- The law SenderGaps, as it is given: it returns true whatever it is given, and leaves it as it was. Conditions: none. -/
import Derived.Test.YtiglckehhfbliaaGt14
import Derived.Test.YtiglckehhfbliaaUk
import Derived.Test.YtiglckehhfbliaaFt14
import Derived.Test.YtiglckehhfbliaaUn
import Derived.Test.YtiglckehhfbliaaRows
import Derived.KernelRfl
set_option linter.all false
namespace Go.Proofs.Ytiglckehhfbliaa.Ev.U
open Go

theorem l45 (x y : List Int) (hl : x.length = y.length) (hb : x.length < 1000000000) : ∀ k i, i + k = x.length → lpU g45x0 (x, y, (x.length : Int), (i : Int)) = some (if x.drop i = y.drop i then .inl () else .inr false)
  | 0, i, hi => by
    have hd : decide ((i : Int) < (x.length : Int)) = false := decide_eq_false (by omega)
    rw [lp_end (x := .inl ()) (by simp only [g45x0, hd, Bool.false_eq_true, if_false])]
    rw [List.drop_of_length_le (by omega), List.drop_of_length_le (by omega), if_pos rfl]
  | k + 1, i, hi => by
    have hd : decide ((i : Int) < (x.length : Int)) = true := decide_eq_true (by omega)
    have h1 : i < x.length := by omega
    have hs := eq_step hl h1
    by_cases e : x[i] = y[i]'(by omega)
    · rw [lp_next (s' := (x, y, (x.length : Int), ((i + 1 : Nat) : Int))) (by
        simp [h1, g45x0, hd, idx_some' h1, idx_some' (show i < y.length by omega), e, wnext (show i < 1000000000000 by omega)]), l45 x y hl hb k (i + 1) (by omega)]
      congr 1
      simp only [hs, e, true_and]
    · rw [lp_end (x := .inr false) (by simp [h1, g45x0, hd, idx_some' h1, idx_some' (show i < y.length by omega), e])]
      rw [if_neg fun h => e (hs.1 h).1]
theorem w45 (x y : List Int) (hb : x.length < 1000000000) : g45 x y = some (decide (x = y)) := by
  unfold g45
  cases h : ((x.length : Int) != (y.length : Int)) with
  | true => rw [if_pos rfl, decide_eq_false (len_ne h)]
  | false =>
    have hl := len_eq h
    rw [if_neg (by simp), show ((0 : Int)) = ((0 : Nat) : Int) from rfl, l45 x y hl hb x.length 0 (by omega)]
    by_cases e : x = y
    · subst e; simp
    · simp [e]

theorem l48 (x y : List Claim) (hl : x.length = y.length) (hb : x.length < 1000000000) : ∀ k i, i + k = x.length → lpU g48x0 (x, y, (x.length : Int), (i : Int)) = some (if x.drop i = y.drop i then .inl () else .inr false)
  | 0, i, hi => by
    have hd : decide ((i : Int) < (x.length : Int)) = false := decide_eq_false (by omega)
    rw [lp_end (x := .inl ()) (by simp only [g48x0, hd, Bool.false_eq_true, if_false])]
    rw [List.drop_of_length_le (by omega), List.drop_of_length_le (by omega), if_pos rfl]
  | k + 1, i, hi => by
    have hd : decide ((i : Int) < (x.length : Int)) = true := decide_eq_true (by omega)
    have h1 : i < x.length := by omega
    have hs := eq_step hl h1
    have hc : ((x[i].1 == (y[i]'(by omega)).1) && ((x[i].2 == (y[i]'(by omega)).2) && true)) = decide (x[i] = y[i]'(by omega)) := by
      rw [Bool.eq_iff_iff]; simp [Prod.ext_iff]
    by_cases e : x[i] = y[i]'(by omega)
    · rw [lp_next (s' := (x, y, (x.length : Int), ((i + 1 : Nat) : Int))) (by
        simp only [g48x0, hd, if_true, idx_some' h1, idx_some' (show i < y.length by omega), Option.bind_some, hc, decide_eq_true e, Bool.not_true, Bool.false_eq_true, if_false, wnext (show i < 1000000000000 by omega)]), l48 x y hl hb k (i + 1) (by omega)]
      congr 1
      simp only [hs, e, true_and]
    · rw [lp_end (x := .inr false) (by simp only [g48x0, hd, if_true, idx_some' h1, idx_some' (show i < y.length by omega), Option.bind_some, hc, decide_eq_false e, Bool.not_false])]
      rw [if_neg fun h => e (hs.1 h).1]
theorem w48 (x y : List Claim) (hb : x.length < 1000000000) : g48 x y = some (decide (x = y)) := by
  unfold g48
  cases h : ((x.length : Int) != (y.length : Int)) with
  | true => rw [if_pos rfl, decide_eq_false (len_ne h)]
  | false =>
    have hl := len_eq h
    rw [if_neg (by simp), show ((0 : Int)) = ((0 : Nat) : Int) from rfl, l48 x y hl hb x.length 0 (by omega)]
    by_cases e : x = y
    · subst e; simp
    · simp [e]

theorem l49 (x y : List Int) (hl : x.length = y.length) (hb : x.length < 1000000000) : ∀ k i, i + k = x.length → lpU g49x0 (x, y, (x.length : Int), (i : Int)) = some (if x.drop i = y.drop i then .inl () else .inr false)
  | 0, i, hi => by
    have hd : decide ((i : Int) < (x.length : Int)) = false := decide_eq_false (by omega)
    rw [lp_end (x := .inl ()) (by simp only [g49x0, hd, Bool.false_eq_true, if_false])]
    rw [List.drop_of_length_le (by omega), List.drop_of_length_le (by omega), if_pos rfl]
  | k + 1, i, hi => by
    have hd : decide ((i : Int) < (x.length : Int)) = true := decide_eq_true (by omega)
    have h1 : i < x.length := by omega
    have hs := eq_step hl h1
    by_cases e : x[i] = y[i]'(by omega)
    · rw [lp_next (s' := (x, y, (x.length : Int), ((i + 1 : Nat) : Int))) (by
        simp [h1, g49x0, hd, idx_some' h1, idx_some' (show i < y.length by omega), e, wnext (show i < 1000000000000 by omega)]), l49 x y hl hb k (i + 1) (by omega)]
      congr 1
      simp only [hs, e, true_and]
    · rw [lp_end (x := .inr false) (by simp [h1, g49x0, hd, idx_some' h1, idx_some' (show i < y.length by omega), e])]
      rw [if_neg fun h => e (hs.1 h).1]
theorem w49 (x y : List Int) (hb : x.length < 1000000000) : g49 x y = some (decide (x = y)) := by
  unfold g49
  cases h : ((x.length : Int) != (y.length : Int)) with
  | true => rw [if_pos rfl, decide_eq_false (len_ne h)]
  | false =>
    have hl := len_eq h
    rw [if_neg (by simp), show ((0 : Int)) = ((0 : Nat) : Int) from rfl, l49 x y hl hb x.length 0 (by omega)]
    by_cases e : x = y
    · subst e; simp
    · simp [e]

/-- Are both the same? -/
def sameS (x y : Segment) : Bool := x.1 == y.1 && x.2.1 == y.2.1 && x.2.2.1 == y.2.2.1 && x.2.2.2.1 == y.2.2.2.1 && x.2.2.2.2.1 == y.2.2.2.2.1 && x.2.2.2.2.2.1 == y.2.2.2.2.2.1 && x.2.2.2.2.2.2.1 == y.2.2.2.2.2.2.1 && x.2.2.2.2.2.2.2.1 == y.2.2.2.2.2.2.2.1 && x.2.2.2.2.2.2.2.2.1 == y.2.2.2.2.2.2.2.2.1 && x.2.2.2.2.2.2.2.2.2.1 == y.2.2.2.2.2.2.2.2.2.1 && x.2.2.2.2.2.2.2.2.2.2.1 == y.2.2.2.2.2.2.2.2.2.2.1 && decide (x.2.2.2.2.2.2.2.2.2.2.2.1 = y.2.2.2.2.2.2.2.2.2.2.2.1) && decide (x.2.2.2.2.2.2.2.2.2.2.2.2 = y.2.2.2.2.2.2.2.2.2.2.2.2)
theorem sameS_iff (x y : Segment) : sameS x y = true ↔ x = y := by
  obtain ⟨x1, x2, x3, x4, x5, x6, x7, x8, x9, x10, x11, x12, x13⟩ := x
  obtain ⟨y1, y2, y3, y4, y5, y6, y7, y8, y9, y10, y11, y12, y13⟩ := y
  simp [sameS, Prod.ext_iff, and_assoc]
theorem sameS_self (x : Segment) : sameS x x = true := (sameS_iff x x).2 rfl
/-- Segments that are gone through. -/
structure SmS (x : Segment) : Prop where
  d : x.2.2.2.2.2.2.2.2.2.2.2.1.length < 1000000
  c : x.2.2.2.2.2.2.2.2.2.2.2.2.length < 1000000
theorem w50 (x y : Segment) (h : SmS x) : g50 x y = some (sameS x y) := by
  have hd := h.d
  have hc := h.c
  obtain ⟨x1, x2, x3, x4, x5, x6, x7, x8, x9, x10, x11, x12, x13⟩ := x
  obtain ⟨y1, y2, y3, y4, y5, y6, y7, y8, y9, y10, y11, y12, y13⟩ := y
  simp only at hd hc
  have e : ((x1 == y1) && ((x2 == y2) && ((x6 == y6) && ((x7 == y7) && ((x8 == y8) && ((x9 == y9) && ((x10 == y10) && ((x3 == y3) && ((x4 == y4) && ((x5 == y5) && ((x11 == y11) && true))))))))))) = (x1 == y1 && x2 == y2 && x3 == y3 && x4 == y4 && x5 == y5 && x6 == y6 && x7 == y7 && x8 == y8 && x9 == y9 && x10 == y10 && x11 == y11) := by
    simp only [Bool.and_true, Bool.true_and, Bool.and_assoc, Bool.and_comm, Bool.and_left_comm]
  simp only [g50, h71, e, w45 x12 y12 (by omega), w48 x13 y13 (by omega), sameS]
  generalize (x1 == y1 && x2 == y2 && x3 == y3 && x4 == y4 && x5 == y5 && x6 == y6 && x7 == y7 && x8 == y8 && x9 == y9 && x10 == y10 && x11 == y11) = c, decide (x12 = y12) = c1, decide (x13 = y13) = c2
  cases c <;> cases c1 <;> cases c2 <;> rfl
theorem l22 (x1 x2 x3 x4 x5 x6 x7 x8 x9 x10 : Int) (x11 : Bool) (x12 : List Int) (x13 : List Claim) (y1 y2 y3 y4 y5 y6 y7 y8 y9 y10 : Int) (y11 : Bool) (y12 : List Int) (y13 : List Claim) (hl : x13.length = y13.length) (hb : x13.length < 1000000000) : ∀ (k i : Nat), i + k = x13.length →
    lpU g22x0 ((x13.length : Int), (i : Int), x1, x2, x3, x4, x5, x6, x7, x8, x9, x10, x11, x12, x13, y1, y2, y3, y4, y5, y6, y7, y8, y9, y10, y11, y12, y13) = some (if x13.drop i = y13.drop i then .inl (x1, x2, x3, x4, x5, x6, x7, x8, x9, x10, x11, x12, x13, y1, y2, y3, y4, y5, y6, y7, y8, y9, y10, y11, y12, y13) else .inr false)
  | 0, i, hi => by
    have hd : decide ((i : Int) < (x13.length : Int)) = false := decide_eq_false (by omega)
    rw [lp_end (x := .inl (x1, x2, x3, x4, x5, x6, x7, x8, x9, x10, x11, x12, x13, y1, y2, y3, y4, y5, y6, y7, y8, y9, y10, y11, y12, y13)) (by simp only [g22x0, hd, Bool.false_eq_true, if_false])]
    rw [List.drop_of_length_le (by omega), List.drop_of_length_le (by omega), if_pos rfl]
  | k + 1, i, hi => by
    have hd : decide ((i : Int) < (x13.length : Int)) = true := decide_eq_true (by omega)
    have h1 : i < x13.length := by omega
    have hs := eq_step hl h1
    have hc : ((x13[i].1 == (y13[i]'(by omega)).1) && ((x13[i].2 == (y13[i]'(by omega)).2) && true)) = decide (x13[i] = y13[i]'(by omega)) := by
      rw [Bool.eq_iff_iff]; simp [Prod.ext_iff]
    by_cases e : x13[i] = y13[i]'(by omega)
    · rw [lp_next (s' := ((x13.length : Int), ((i + 1 : Nat) : Int), x1, x2, x3, x4, x5, x6, x7, x8, x9, x10, x11, x12, x13, y1, y2, y3, y4, y5, y6, y7, y8, y9, y10, y11, y12, y13)) (by
        simp only [g22x0, hd, if_true, idx_some' h1, idx_some' (show i < y13.length by omega), Option.bind_some, hc, decide_eq_true e, Bool.not_true, Bool.false_eq_true, if_false, wnext (show i < 1000000000000 by omega)]), l22 x1 x2 x3 x4 x5 x6 x7 x8 x9 x10 x11 x12 x13 y1 y2 y3 y4 y5 y6 y7 y8 y9 y10 y11 y12 y13 hl hb k (i + 1) (by omega)]
      congr 1
      simp only [hs, e, true_and]
    · rw [lp_end (x := .inr false) (by simp only [g22x0, hd, if_true, idx_some' h1, idx_some' (show i < y13.length by omega), Option.bind_some, hc, decide_eq_false e, Bool.not_false])]
      rw [if_neg fun h => e (hs.1 h).1]
theorem w22 (x y : Segment) (h : SmS x) : g22 x y = some (sameS x y) := by
  have hd := h.d
  have hc := h.c
  obtain ⟨x1, x2, x3, x4, x5, x6, x7, x8, x9, x10, x11, x12, x13⟩ := x
  obtain ⟨y1, y2, y3, y4, y5, y6, y7, y8, y9, y10, y11, y12, y13⟩ := y
  simp only at hd hc
  simp only [g22, sameS]
  by_cases hl : x13.length = y13.length
  · have := l22 x1 x2 x3 x4 x5 x6 x7 x8 x9 x10 x11 x12 x13 y1 y2 y3 y4 y5 y6 y7 y8 y9 y10 y11 y12 y13 hl (by omega) x13.length 0 (by omega)
    rw [show ((0 : Nat) : Int) = 0 from rfl] at this
    have hn : ((x13.length : Int) != (y13.length : Int)) = false := by simp [hl]
    rw [this, hn]
    simp only [List.drop_zero]
    by_cases h13 : x13 = y13
    · rw [if_pos h13, decide_eq_true h13]
      have e11 : ((x11 == y11) != false) = (x11 == y11) := by cases (x11 == y11) <;> rfl
      simp only [e11, Bool.false_eq_true, if_false, Option.bind_some, Bool.and_true]
      generalize (x1 == y1) = c1, (x2 == y2) = c2, (x3 == y3) = c3, (x4 == y4) = c4, (x5 == y5) = c5, (x6 == y6) = c6, (x7 == y7) = c7, (x8 == y8) = c8, (x9 == y9) = c9, (x10 == y10) = c10, (x11 == y11) = c11, decide (x12 = y12) = c12
      cases c1 <;> try rfl
      cases c2 <;> try rfl
      cases c3 <;> try rfl
      cases c4 <;> try rfl
      cases c5 <;> try rfl
      cases c6 <;> try rfl
      cases c7 <;> try rfl
      cases c8 <;> try rfl
      cases c9 <;> try rfl
      cases c10 <;> try rfl
      cases c11 <;> rfl
    · rw [if_neg h13, decide_eq_false h13, if_neg (by simp)]
      exact congrArg some (Bool.and_false _).symm
  · have hn : ((x13.length : Int) != (y13.length : Int)) = true := by simp; omega
    have h13 : decide (x13 = y13) = false := decide_eq_false fun e => hl (by rw [e])
    rw [hn, h13, if_pos rfl]
    exact congrArg some (Bool.and_false _).symm
/-! ### Claims -/

set_option maxRecDepth 4000 in
theorem l13x0 (a1 : Int) (a2 : Int) (a3 : List Int) (a4 : Int) (a5 : Int) (a6 : Int) (a7 : List Claim) (a8 : Int) (a9 : Int) (a10 : Int) (a11 : Int) (a12 : Int) (a13 : Int) (a14 : Int) (a15 : Int) (a16 : Int) (a17 : Int) (a18 : Bool) (a19 : List Int) (a20 : List Claim) (a21 : Int) (a22 : Int) (a23 : List Int) (a24 : Int) (b1 : Int) (b2 : Int) (b3 : List Int) (b4 : Int) (b5 : Int) (b6 : Int) (b7 : List Claim) (b8 : Int) (b9 : Int) (b10 : Int) (b11 : Int) (b12 : Int) (b13 : Int) (b14 : Int) (b15 : Int) (b16 : Int) (b17 : Int) (b18 : Bool) (b19 : List Int) (b20 : List Claim) (b21 : Int) (b22 : Int) (b23 : List Int) (b24 : Int) (hl : a7.length = b7.length) (hb : a7.length < 1000000000) : ∀ (k i : Nat), i + k = a7.length →
    lpU g13x0 ((a7.length : Int), (i : Int), a1, a2, a3, a4, a5, a6, a7, a8, a9, a10, a11, a12, a13, a14, a15, a16, a17, a18, a19, a20, a21, a22, a23, a24, b1, b2, b3, b4, b5, b6, b7, b8, b9, b10, b11, b12, b13, b14, b15, b16, b17, b18, b19, b20, b21, b22, b23, b24) = some (if a7.drop i = b7.drop i then (.inl (a1, a2, a3, a4, a5, a6, a7, a8, a9, a10, a11, a12, a13, a14, a15, a16, a17, a18, a19, a20, a21, a22, a23, a24, b1, b2, b3, b4, b5, b6, b7, b8, b9, b10, b11, b12, b13, b14, b15, b16, b17, b18, b19, b20, b21, b22, b23, b24)) else .inr false)
  | 0, i, hi => by
    have hd : decide ((i : Int) < (a7.length : Int)) = false := decide_eq_false (by omega)
    rw [lp_end (x := (.inl (a1, a2, a3, a4, a5, a6, a7, a8, a9, a10, a11, a12, a13, a14, a15, a16, a17, a18, a19, a20, a21, a22, a23, a24, b1, b2, b3, b4, b5, b6, b7, b8, b9, b10, b11, b12, b13, b14, b15, b16, b17, b18, b19, b20, b21, b22, b23, b24))) (by simp only [g13x0, hd, Bool.false_eq_true, if_false])]
    rw [List.drop_of_length_le (by omega), List.drop_of_length_le (by omega), if_pos rfl]
  | k + 1, i, hi => by
    have hd : decide ((i : Int) < (a7.length : Int)) = true := decide_eq_true (by omega)
    have h1 : i < a7.length := by omega
    have hs := eq_step hl h1
    have hc : ((a7[i].1 == (b7[i]'(by omega)).1) && ((a7[i].2 == (b7[i]'(by omega)).2) && true)) = decide (a7[i] = b7[i]'(by omega)) := by
      rw [Bool.eq_iff_iff]; simp [Prod.ext_iff]
    by_cases e : a7[i] = b7[i]'(by omega)
    · rw [lp_next (s' := ((a7.length : Int), ((i + 1 : Nat) : Int), a1, a2, a3, a4, a5, a6, a7, a8, a9, a10, a11, a12, a13, a14, a15, a16, a17, a18, a19, a20, a21, a22, a23, a24, b1, b2, b3, b4, b5, b6, b7, b8, b9, b10, b11, b12, b13, b14, b15, b16, b17, b18, b19, b20, b21, b22, b23, b24)) (by
        simp only [g13x0, hd, if_true, idx_some' h1, idx_some' (show i < b7.length by omega), Option.bind_some, hc, decide_eq_true e, Bool.not_true, Bool.false_eq_true, if_false, wnext (show i < 1000000000000 by omega)]), l13x0 a1 a2 a3 a4 a5 a6 a7 a8 a9 a10 a11 a12 a13 a14 a15 a16 a17 a18 a19 a20 a21 a22 a23 a24 b1 b2 b3 b4 b5 b6 b7 b8 b9 b10 b11 b12 b13 b14 b15 b16 b17 b18 b19 b20 b21 b22 b23 b24 hl hb k (i + 1) (by omega)]
      congr 1
      simp only [hs, e, true_and]
    · rw [lp_end (x := .inr false) (by simp only [g13x0, hd, if_true, idx_some' h1, idx_some' (show i < b7.length by omega), Option.bind_some, hc, decide_eq_false e, Bool.not_false])]
      rw [if_neg fun h => e (hs.1 h).1]

set_option maxRecDepth 4000 in
theorem l13x1 (a1 : Int) (a2 : Int) (a3 : List Int) (a4 : Int) (a5 : Int) (a6 : Int) (a7 : List Claim) (a8 : Int) (a9 : Int) (a10 : Int) (a11 : Int) (a12 : Int) (a13 : Int) (a14 : Int) (a15 : Int) (a16 : Int) (a17 : Int) (a18 : Bool) (a19 : List Int) (a20 : List Claim) (a21 : Int) (a22 : Int) (a23 : List Int) (a24 : Int) (b1 : Int) (b2 : Int) (b3 : List Int) (b4 : Int) (b5 : Int) (b6 : Int) (b7 : List Claim) (b8 : Int) (b9 : Int) (b10 : Int) (b11 : Int) (b12 : Int) (b13 : Int) (b14 : Int) (b15 : Int) (b16 : Int) (b17 : Int) (b18 : Bool) (b19 : List Int) (b20 : List Claim) (b21 : Int) (b22 : Int) (b23 : List Int) (b24 : Int) (hl : a23.length = b23.length) (hb : a23.length < 1000000000) : ∀ (k i : Nat), i + k = a23.length →
    lpU g13x1 ((a23.length : Int), (i : Int), a1, a2, a3, a4, a5, a6, a7, a8, a9, a10, a11, a12, a13, a14, a15, a16, a17, a18, a19, a20, a21, a22, a23, a24, b1, b2, b3, b4, b5, b6, b7, b8, b9, b10, b11, b12, b13, b14, b15, b16, b17, b18, b19, b20, b21, b22, b23, b24) = some (if a23.drop i = b23.drop i then .inl () else .inr false)
  | 0, i, hi => by
    have hd : decide ((i : Int) < (a23.length : Int)) = false := decide_eq_false (by omega)
    rw [lp_end (x := .inl ()) (by simp only [g13x1, hd, Bool.false_eq_true, if_false])]
    rw [List.drop_of_length_le (by omega), List.drop_of_length_le (by omega), if_pos rfl]
  | k + 1, i, hi => by
    have hd : decide ((i : Int) < (a23.length : Int)) = true := decide_eq_true (by omega)
    have h1 : i < a23.length := by omega
    have hs := eq_step hl h1
    have hc : (a23[i] != b23[i]'(by omega)) = !decide (a23[i] = b23[i]'(by omega)) := by
      rw [Bool.eq_iff_iff]; simp
    by_cases e : a23[i] = b23[i]'(by omega)
    · rw [lp_next (s' := ((a23.length : Int), ((i + 1 : Nat) : Int), a1, a2, a3, a4, a5, a6, a7, a8, a9, a10, a11, a12, a13, a14, a15, a16, a17, a18, a19, a20, a21, a22, a23, a24, b1, b2, b3, b4, b5, b6, b7, b8, b9, b10, b11, b12, b13, b14, b15, b16, b17, b18, b19, b20, b21, b22, b23, b24)) (by
        simp only [g13x1, hd, if_true, idx_some' h1, idx_some' (show i < b23.length by omega), Option.bind_some, hc, decide_eq_true e, Bool.not_true, Bool.false_eq_true, if_false, wnext (show i < 1000000000000 by omega)]), l13x1 a1 a2 a3 a4 a5 a6 a7 a8 a9 a10 a11 a12 a13 a14 a15 a16 a17 a18 a19 a20 a21 a22 a23 a24 b1 b2 b3 b4 b5 b6 b7 b8 b9 b10 b11 b12 b13 b14 b15 b16 b17 b18 b19 b20 b21 b22 b23 b24 hl hb k (i + 1) (by omega)]
      congr 1
      simp only [hs, e, true_and]
    · rw [lp_end (x := .inr false) (by simp only [g13x1, hd, if_true, idx_some' h1, idx_some' (show i < b23.length by omega), Option.bind_some, hc, decide_eq_false e, Bool.not_false])]
      rw [if_neg fun h => e (hs.1 h).1]

/-- Are both the same? -/
def sameG (a b : Sending) : Bool := a.1 == b.1 && a.2.1 == b.2.1 && decide (a.2.2.1 = b.2.2.1) && a.2.2.2.1 == b.2.2.2.1 && a.2.2.2.2.1 == b.2.2.2.2.1 && a.2.2.2.2.2.1 == b.2.2.2.2.2.1 && decide (a.2.2.2.2.2.2.1 = b.2.2.2.2.2.2.1) && sameS (a.2.2.2.2.2.2.2.1, a.2.2.2.2.2.2.2.2.1, a.2.2.2.2.2.2.2.2.2.1, a.2.2.2.2.2.2.2.2.2.2.1, a.2.2.2.2.2.2.2.2.2.2.2.1, a.2.2.2.2.2.2.2.2.2.2.2.2.1, a.2.2.2.2.2.2.2.2.2.2.2.2.2.1, a.2.2.2.2.2.2.2.2.2.2.2.2.2.2.1, a.2.2.2.2.2.2.2.2.2.2.2.2.2.2.2.1, a.2.2.2.2.2.2.2.2.2.2.2.2.2.2.2.2.1, a.2.2.2.2.2.2.2.2.2.2.2.2.2.2.2.2.2.1, a.2.2.2.2.2.2.2.2.2.2.2.2.2.2.2.2.2.2.1, a.2.2.2.2.2.2.2.2.2.2.2.2.2.2.2.2.2.2.2.1) (b.2.2.2.2.2.2.2.1, b.2.2.2.2.2.2.2.2.1, b.2.2.2.2.2.2.2.2.2.1, b.2.2.2.2.2.2.2.2.2.2.1, b.2.2.2.2.2.2.2.2.2.2.2.1, b.2.2.2.2.2.2.2.2.2.2.2.2.1, b.2.2.2.2.2.2.2.2.2.2.2.2.2.1, b.2.2.2.2.2.2.2.2.2.2.2.2.2.2.1, b.2.2.2.2.2.2.2.2.2.2.2.2.2.2.2.1, b.2.2.2.2.2.2.2.2.2.2.2.2.2.2.2.2.1, b.2.2.2.2.2.2.2.2.2.2.2.2.2.2.2.2.2.1, b.2.2.2.2.2.2.2.2.2.2.2.2.2.2.2.2.2.2.1, b.2.2.2.2.2.2.2.2.2.2.2.2.2.2.2.2.2.2.2.1) && a.2.2.2.2.2.2.2.2.2.2.2.2.2.2.2.2.2.2.2.2.1 == b.2.2.2.2.2.2.2.2.2.2.2.2.2.2.2.2.2.2.2.2.1 && a.2.2.2.2.2.2.2.2.2.2.2.2.2.2.2.2.2.2.2.2.2.1 == b.2.2.2.2.2.2.2.2.2.2.2.2.2.2.2.2.2.2.2.2.2.1 && decide (a.2.2.2.2.2.2.2.2.2.2.2.2.2.2.2.2.2.2.2.2.2.2.1 = b.2.2.2.2.2.2.2.2.2.2.2.2.2.2.2.2.2.2.2.2.2.2.1) && a.2.2.2.2.2.2.2.2.2.2.2.2.2.2.2.2.2.2.2.2.2.2.2 == b.2.2.2.2.2.2.2.2.2.2.2.2.2.2.2.2.2.2.2.2.2.2.2
theorem sameG_self (a : Sending) : sameG a a = true := by
  simp [sameG, sameS_self]
/-- Sessions that are gone through. -/
structure SmG (a : Sending) : Prop where
  b : a.2.2.1.length < 1000000
  g : a.2.2.2.2.2.2.1.length < 1000000
  s : a.2.2.2.2.2.2.2.2.2.2.2.2.2.2.2.2.2.2.2.2.2.2.1.length < 1000000
  d : a.2.2.2.2.2.2.2.2.2.2.2.2.2.2.2.2.2.2.1.length < 1000000
  c : a.2.2.2.2.2.2.2.2.2.2.2.2.2.2.2.2.2.2.2.1.length < 1000000
theorem five (p c3 c7 c23 c8 : Bool) : ((if p = true then some c3 else some false).bind fun y4 => (if (if p = true then y4 else false) = true then some c7 else some false).bind fun y6 => (if (if (if p = true then y4 else false) = true then y6 else false) = true then some c23 else some false).bind fun y8 => (if (if (if (if p = true then y4 else false) = true then y6 else false) = true then y8 else false) = true then some c8 else some false).bind fun y10 => some (if (if (if (if p = true then y4 else false) = true then y6 else false) = true then y8 else false) = true then y10 else false)) = some (p && (c3 && (c7 && (c23 && c8)))) := by
  cases p <;> cases c3 <;> cases c7 <;> cases c23 <;> cases c8 <;> rfl
theorem w18 (a b : Sending) (h : SmG a) : g18 a b = some (sameG a b) := by
  have hb := h.b
  have hg := h.g
  have hs := h.s
  have hd := h.d
  have hc := h.c
  obtain ⟨a1, a2, a3, a4, a5, a6, a7, a8, a9, a10, a11, a12, a13, a14, a15, a16, a17, a18, a19, a20, a21, a22, a23, a24⟩ := a
  obtain ⟨b1, b2, b3, b4, b5, b6, b7, b8, b9, b10, b11, b12, b13, b14, b15, b16, b17, b18, b19, b20, b21, b22, b23, b24⟩ := b
  simp only at hb hg hs hd hc
  simp only [g18, h47, w45 a3 b3 (by omega), w48 a7 b7 (by omega), w49 a23 b23 (by omega), w50 (a8, a9, a10, a11, a12, a13, a14, a15, a16, a17, a18, a19, a20) (b8, b9, b10, b11, b12, b13, b14, b15, b16, b17, b18, b19, b20) ⟨hd, hc⟩]
  refine (five _ _ _ _ _).trans (congrArg some ?_)
  simp only [sameG, Bool.and_true, Bool.and_assoc]
  rw [Bool.eq_iff_iff]
  simp only [Bool.and_eq_true]
  constructor <;> (intro h; simp only [h, and_self])

theorem ite_or (A B : Bool) : (if A = true then true else B) = (A || B) := by cases A <;> rfl
theorem ref13 (X s7 n7 n23 c7 c23 : Bool) (L : Option Bool) (hL : n7 = false → n23 = false → L = some (c7 && c23)) (h7 : n7 = true → c7 = false) (h23 : n23 = true → c23 = false) : ((if (!X) = true then some s7 else some false).bind fun y18 => if (if (if (if X = true then true else (!y18)) = true then true else n7) = true then true else n23) = true then some false else L) = some (!X && (s7 && (c7 && c23))) := by
  cases X
  · cases s7
    · rfl
    · cases n7
      · cases n23
        · exact (hL rfl rfl).trans (by simp)
        · rw [h23 rfl]; simp
      · rw [h7 rfl]; simp
  · rfl
set_option maxRecDepth 4000 in
theorem w13 (a b : Sending) (h : SmG a) : g13 a b = some (sameG a b) := by
  have hb := h.b
  have hg := h.g
  have hs := h.s
  have hd := h.d
  have hc := h.c
  obtain ⟨a1, a2, a3, a4, a5, a6, a7, a8, a9, a10, a11, a12, a13, a14, a15, a16, a17, a18, a19, a20, a21, a22, a23, a24⟩ := a
  obtain ⟨b1, b2, b3, b4, b5, b6, b7, b8, b9, b10, b11, b12, b13, b14, b15, b16, b17, b18, b19, b20, b21, b22, b23, b24⟩ := b
  simp only at hb hg hs hd hc
  simp only [g13, w22 (a8, a9, a10, a11, a12, a13, a14, a15, a16, a17, a18, a19, a20) (b8, b9, b10, b11, b12, b13, b14, b15, b16, b17, b18, b19, b20) ⟨hd, hc⟩]
  refine (ref13 _ _ _ _ (decide (a7 = b7)) (decide (a23 = b23)) _ (fun q1 q2 => ?_) (fun q => decide_eq_false (len_ne q)) (fun q => decide_eq_false (len_ne q))).trans (congrArg some ?_)
  · have t0 := l13x0 a1 a2 a3 a4 a5 a6 a7 a8 a9 a10 a11 a12 a13 a14 a15 a16 a17 a18 a19 a20 a21 a22 a23 a24 b1 b2 b3 b4 b5 b6 b7 b8 b9 b10 b11 b12 b13 b14 b15 b16 b17 b18 b19 b20 b21 b22 b23 b24 (len_eq q1) (by omega) a7.length 0 (by omega)
    have t1 := l13x1 a1 a2 a3 a4 a5 a6 a7 a8 a9 a10 a11 a12 a13 a14 a15 a16 a17 a18 a19 a20 a21 a22 a23 a24 b1 b2 b3 b4 b5 b6 b7 b8 b9 b10 b11 b12 b13 b14 b15 b16 b17 b18 b19 b20 b21 b22 b23 b24 (len_eq q2) (by omega) a23.length 0 (by omega)
    rw [show ((0 : Nat) : Int) = 0 from rfl] at t0 t1
    rw [t0]
    simp only [List.drop_zero] at t1 ⊢
    by_cases e7 : a7 = b7
    · rw [if_pos e7, decide_eq_true e7]
      simp only [Option.bind_some, t1]
      by_cases e23 : a23 = b23
      · rw [if_pos e23, decide_eq_true e23]; rfl
      · rw [if_neg e23, decide_eq_false e23]; rfl
    · rw [if_neg e7, decide_eq_false e7]; rfl
  · simp only [sameG, ite_or, Bool.not_or, bne, Bool.not_not, Bool.and_assoc]
    rw [Bool.eq_iff_iff]
    simp only [Bool.and_eq_true]
    constructor <;> (intro h; simp only [h, and_self])
theorem cut_take {α : Type} (xs : List α) (n : Int) (hn : 0 ≤ n) : cut xs 0 (if n < (xs.length : Int) then n else (xs.length : Int)) = some (xs.take n.toNat) := by
  unfold cut
  split
  · rename_i h
    rw [if_pos ⟨by omega, by omega, by omega⟩]
    rfl
  · rename_i h
    rw [if_pos ⟨by omega, by omega, by omega⟩]
    rw [List.take_of_length_le (by omega), List.take_of_length_le (by omega)]
    rfl

theorem w19 (a : Sending) (h : SmG a) : g19 a = some a := by
  have hb := h.b
  have hg := h.g
  have hs := h.s
  have hd := h.d
  have hc := h.c
  unfold g19
  rw [apd_ok (show (([] : List Int).length + a.2.2.1.length) * 1 ≤ 140737488355328 by simp; omega), Option.bind_some, apd_ok (show (([] : List Claim).length + a.2.2.2.2.2.2.1.length) * 16 ≤ 140737488355328 by simp; omega), Option.bind_some, apd_ok (show (([] : List Int).length + a.2.2.2.2.2.2.2.2.2.2.2.2.2.2.2.2.2.2.2.2.2.2.1.length) * 4 ≤ 140737488355328 by simp; omega), Option.bind_some, apd_ok (show (([] : List Int).length + a.2.2.2.2.2.2.2.2.2.2.2.2.2.2.2.2.2.2.1.length) * 1 ≤ 140737488355328 by simp; omega), Option.bind_some, apd_ok (show (([] : List Claim).length + a.2.2.2.2.2.2.2.2.2.2.2.2.2.2.2.2.2.2.2.1.length) * 16 ≤ 140737488355328 by simp; omega), Option.bind_some]
  simp only [List.nil_append]
/-- Sessions that are gone through are cut. -/
theorem w17 (a : Sending) : ∃ y, g17 a = some y ∧ SmG y := by
  unfold g17
  simp only [cut_take _ _ (show (0 : Int) ≤ 600 by omega), cut_take _ _ (show (0 : Int) ≤ 300 by omega), cut_take _ _ (show (0 : Int) ≤ 40 by omega), cut_take _ _ (show (0 : Int) ≤ 200 by omega), cut_take _ _ (show (0 : Int) ≤ 30 by omega), Option.bind_some]
  have key : ∀ y, SmG y → ∃ z, ((g19 y).bind fun y16 => some y16) = some z ∧ SmG z := fun y h => ⟨y, by rw [w19 y h]; rfl, h⟩
  exact key _ ⟨by simp only [List.length_take]; omega, by simp only [List.length_take]; omega, by simp only [List.length_take]; omega, by simp only [List.length_take]; omega, by simp only [List.length_take]; omega⟩
theorem w4 (a b : Sending) : g4 a b = some true := by
  obtain ⟨y, h1, h2⟩ := w17 a
  obtain ⟨z, h3, h4⟩ := w17 b
  unfold g4
  rw [if_neg (by simp), h1, h3]
  simp only [Option.bind_some, w18 y z h2, w13 y z h2, w19 y h2, beq_self_eq_true]
  show ((g18 y y).bind fun y8 => some y8) = some true
  rw [w18 y y h2, sameG_self]; rfl

end Go.Proofs.Ytiglckehhfbliaa.Ev.U
namespace Go.Proofs.Ytiglckehhfbliaa.Ev.U
open Go
def chain (tot : Int) : Int → List Claim → Bool
  | _, [] => true
  | e, c :: r => decide (c.2 > 0) && decide (c.1 > e) && decide (c.1 ≤ tot) && decide (c.2 ≤ tot - c.1) && chain tot (c.1 + c.2) r
theorem chain_cons {tot e : Int} {c : Claim} {r : List Claim} : chain tot e (c :: r) = true ↔ 0 < c.2 ∧ e < c.1 ∧ c.1 + c.2 ≤ tot ∧ chain tot (c.1 + c.2) r = true := by
  simp only [chain, Bool.and_eq_true, decide_eq_true_eq]
  constructor
  · rintro ⟨⟨⟨⟨h1, h2⟩, h3⟩, h4⟩, h5⟩; exact ⟨by omega, by omega, by omega, h5⟩
  · rintro ⟨h1, h2, h3, h5⟩; exact ⟨⟨⟨⟨by omega, by omega⟩, by omega⟩, by omega⟩, h5⟩
def inB (x a b : Int) : Bool := decide (a ≤ x) && decide (x ≤ b)
def claimB (lo hi : Int) (l : List Claim) : Bool := decide ((l.length : Int) ≤ 20) && chain hi (lo - 1) l
theorem l69 (hi : Int) (l l0 : List Claim) (hb : l.length < 1000000000) (hh : 1 ≤ hi ∧ hi ≤ 512) : ∀ (k i : Nat) (e : Int), i + k = l.length → -1 ≤ e → lpU g69x0 (l0, hi, e, l, (l.length : Int), (i : Int)) = some (if chain hi e (l.drop i) then .inl l0 else .inr false)
  | 0, i, e, hi', he => by
    have hd : decide ((i : Int) < (l.length : Int)) = false := decide_eq_false (by omega)
    rw [lp_end (x := .inl l0) (by simp only [g69x0, hd, Bool.false_eq_true, if_false])]
    rw [List.drop_of_length_le (by omega)]; rfl
  | k + 1, i, e, hi', he => by
    have hd : decide ((i : Int) < (l.length : Int)) = true := decide_eq_true (by omega)
    have h1 : i < l.length := by omega
    obtain ⟨c, hc⟩ : ∃ c, l[i] = c := ⟨_, rfl⟩
    have hx : idx l (i : Int) = some c := by rw [idx_some' h1, hc]
    rw [drop_cons' h1, hc]
    by_cases hg : 0 < c.2 ∧ e < c.1 ∧ c.1 + c.2 ≤ hi
    · have q1 : decide (c.2 < 1) = false := decide_eq_false (by omega)
      have q2 : decide (c.1 ≤ e) = false := decide_eq_false (by omega)
      have q3 : decide (c.1 ≥ hi) = false := decide_eq_false (by omega)
      have q4 : decide (c.2 > IntKind.i64.wrap (hi - c.1)) = false := by rw [wi64 (by omega)]; exact decide_eq_false (by omega)
      rw [lp_next (s' := (l0, hi, c.1 + c.2, l, (l.length : Int), ((i + 1 : Nat) : Int))) (by
        simp only [g69x0, hd, if_true, hx, Option.bind_some, q1, q2, q3, q4, Bool.false_eq_true, if_false, wnext (show i < 1000000000000 by omega), wi64 (show -9223372036854775808 ≤ c.1 + c.2 ∧ c.1 + c.2 ≤ 9223372036854775807 by omega)]),
        l69 hi l l0 hb hh k (i + 1) (c.1 + c.2) (by omega) (by omega)]
      have : chain hi e (c :: l.drop (i + 1)) = chain hi (c.1 + c.2) (l.drop (i + 1)) := by
        simp only [chain, decide_eq_true (show c.2 > 0 by omega), decide_eq_true (show c.1 > e by omega), decide_eq_true (show c.1 ≤ hi by omega), decide_eq_true (show c.2 ≤ hi - c.1 by omega), Bool.true_and]
      rw [this]
    · have hcond : (if (if (if (decide (c.2 < (1 : Int))) then true else (decide (c.1 ≤ e))) then true else (decide (c.1 ≥ hi))) then true else (decide (c.2 > (IntKind.i64.wrap (hi - c.1))))) = true := by
        cases q1 : decide (c.2 < 1)
        · cases q2 : decide (c.1 ≤ e)
          · cases q3 : decide (c.1 ≥ hi)
            · have := of_decide_eq_false q1
              have := of_decide_eq_false q2
              have := of_decide_eq_false q3
              rw [wi64 (by omega)]
              simp only [Bool.false_eq_true, if_false]
              exact decide_eq_true (by omega)
            · rfl
          · rfl
        · rfl
      rw [lp_end (x := .inr false) (by simp only [g69x0, hd, if_true, hx, Option.bind_some, hcond])]
      have : chain hi e (c :: l.drop (i + 1)) = false := by
        cases hq : chain hi e (c :: l.drop (i + 1)) with
        | false => rfl
        | true => obtain ⟨q1, q2, q3, q4⟩ := chain_cons.1 hq; exact absurd ⟨q1, q2, q3⟩ hg
      rw [this]; rfl
theorem w69 (l : List Claim) (lo hi : Int) (hb : l.length < 1000000000) (hh : 1 ≤ hi ∧ hi ≤ 512) (hlo : 0 ≤ lo ∧ lo ≤ 512) : g69 l lo hi = some (claimB lo hi l) := by
  unfold g69
  have := l69 hi l l hb hh l.length 0 (lo - 1) (by omega) (by omega)
  rw [show ((0 : Nat) : Int) = 0 from rfl, List.drop_zero] at this
  rw [wi64 (by omega), this]
  unfold claimB
  cases chain hi (lo - 1) l
  · rw [Bool.and_false]; rfl
  · rw [Bool.and_true]; rfl
theorem w68 (x a b : Int) : h68 x a b = inB x a b := by
  show (if decide (x ≥ a) = true then decide (x ≤ b) else false) = (decide (x ≥ a) && decide (x ≤ b))
  cases decide (x ≥ a) <;> rfl
def onlyF (x : Segment) : Segment :=
  if x.1 = 1 then (x.1, x.2.1, x.2.2.1, x.2.2.2.1, 0, x.2.2.2.2.2.1, x.2.2.2.2.2.2.1, 0, 0, 0, x.2.2.2.2.2.2.2.2.2.2.1, x.2.2.2.2.2.2.2.2.2.2.2.1, [])
  else if x.1 = 2 then (x.1, x.2.1, x.2.2.1, x.2.2.2.1, x.2.2.2.2.1, 0, 0, x.2.2.2.2.2.2.2.1, x.2.2.2.2.2.2.2.2.1, 0, false, [], x.2.2.2.2.2.2.2.2.2.2.2.2)
  else if x.1 = 3 then (x.1, x.2.1, x.2.2.1, x.2.2.2.1, 0, 0, 0, 0, 0, 0, false, [], [])
  else if x.1 = 4 ∨ x.1 = 6 then (x.1, x.2.1, x.2.2.1, 0, 0, 0, 0, 0, 0, x.2.2.2.2.2.2.2.2.2.1, false, [], [])
  else (x.1, x.2.1, x.2.2.1, 0, 0, 0, 0, 0, 0, 0, false, [], [])
def kindB (x : Segment) : Bool :=
  if x.1 = 1 then inB x.2.2.2.2.2.2.1 1 512 && inB (x.2.2.2.2.2.2.2.2.2.2.2.1.length : Int) 1 100 && inB x.2.2.2.2.2.1 0 (x.2.2.2.2.2.2.1 - x.2.2.2.2.2.2.2.2.2.2.2.1.length) && (x.2.2.2.2.2.2.2.2.2.2.1 == decide (x.2.2.2.1 > 0))
  else if x.1 = 2 then decide (x.2.2.2.1 > 0) && decide (x.2.2.2.2.1 > 0) && inB x.2.2.2.2.2.2.2.2.1 1 512 && inB x.2.2.2.2.2.2.2.1 0 (x.2.2.2.2.2.2.2.2.1 - 1) && claimB x.2.2.2.2.2.2.2.1 x.2.2.2.2.2.2.2.2.1 x.2.2.2.2.2.2.2.2.2.2.2.2
  else if x.1 = 3 then decide (x.2.2.2.1 > 0)
  else if x.1 = 4 ∨ x.1 = 6 then inB x.2.2.2.2.2.2.2.2.2.1 0 255
  else decide (x.1 = 5 ∨ x.1 = 7)
def headB (x : Segment) : Bool := inB x.2.1 1 6 && decide (x.2.2.1 > 0)
def segOk (x : Segment) : Bool := headB x && kindB x && sameS x (onlyF x)
theorem fin30 (ok : Bool) (x o : Segment) (h : SmS x) : ((if (!(!ok)) = true then g50 x o else some false).bind fun y40 => if (if (!ok) = true then true else (!y40)) = true then some (200 : Int) else some 0) = some (if ok && sameS x o then 0 else 200) := by
  cases ok with
  | false => rfl
  | true =>
    rw [w50 x o h]
    cases hq : sameS x o <;> simp [hq]
theorem b33' (x : Bool) : (x != false) = x := by cases x <;> rfl
theorem if_and (a b : Bool) : (if a = true then b else false) = (a && b) := by cases a <;> rfl
theorem w44 (x : Segment) (h : SmS x) : g44 x = some (if segOk x then 0 else 200) := by
  have hd := h.d
  have hc := h.c
  have fin := fun ok o => fin30 ok x o h
  obtain ⟨x1, x2, x3, x4, x5, x6, x7, x8, x9, x10, x11, x12, x13⟩ := x
  simp only at hd hc fin
  have hh : (if inB x2 1 6 = true then decide (x3 > 0) else false) = headB (x1, x2, x3, x4, x5, x6, x7, x8, x9, x10, x11, x12, x13) := if_and _ _
  simp only [g44, w68, hh]
  unfold segOk
  generalize headB (x1, x2, x3, x4, x5, x6, x7, x8, x9, x10, x11, x12, x13) = hb
  by_cases k1 : x1 = 1
  · subst k1
    simp only [beq_self_eq_true, if_true, Option.bind_some, fin]
    simp only [kindB, onlyF, if_true, b33']
    congr 2
    rw [eq_iff_iff]
    suffices hs : (if (if (if (if hb = true then inB x7 1 512 else false) = true then inB (x12.length : Int) 1 100 else false) = true then inB x6 0 (IntKind.i64.wrap (x7 - (x12.length : Int))) else false) = true then (x11 == decide (x4 > 0)) else false) = (hb && (inB x7 1 512 && inB (x12.length : Int) 1 100 && inB x6 0 (x7 - (x12.length : Int)) && (x11 == decide (x4 > 0)))) by rw [hs]
    cases hb with
    | false => rfl
    | true =>
      cases q1 : inB x7 1 512 with
      | false => rfl
      | true =>
        simp only [inB, Bool.and_eq_true, decide_eq_true_eq] at q1
        rw [wi64 (by omega)]
        cases inB (x12.length : Int) 1 100 <;> cases inB x6 0 (x7 - (x12.length : Int)) <;> simp
  · have e1 : (x1 == 1) = false := by simpa using k1
    simp only [e1, Bool.false_eq_true, if_false, kindB, onlyF, if_neg k1]
    by_cases k2 : x1 = 2
    · subst k2
      simp only [beq_self_eq_true, if_true]
      have hx : (if (if (if (if (if hb = true then decide (x4 > 0) else false) = true then decide (x5 > 0) else false) = true then inB x9 1 512 else false) = true then inB x8 0 (IntKind.i64.wrap (x9 - 1)) else false) = true then g69 x13 x8 x9 else some false) = some ((hb && (decide (x4 > 0) && decide (x5 > 0) && inB x9 1 512 && inB x8 0 (x9 - 1))) && claimB x8 x9 x13) := by
        cases hb with
        | false => rfl
        | true =>
          cases decide (x4 > 0) with
          | false => rfl
          | true =>
            cases decide (x5 > 0) with
            | false => rfl
            | true =>
              cases q1 : inB x9 1 512 with
              | false => rfl
              | true =>
                simp only [inB, Bool.and_eq_true, decide_eq_true_eq] at q1
                rw [wi64 (by omega)]
                cases q2 : inB x8 0 (x9 - 1) with
                | false => rfl
                | true =>
                  simp only [inB, Bool.and_eq_true, decide_eq_true_eq] at q2
                  simp only [if_true, Bool.true_and]
                  exact w69 x13 x8 x9 (by omega) (by omega) (by omega)
      have hy : ∀ y : Bool, (if (if (if (if (if hb = true then decide (x4 > 0) else false) = true then decide (x5 > 0) else false) = true then inB x9 1 512 else false) = true then inB x8 0 (IntKind.i64.wrap (x9 - 1)) else false) = true then y else false) = ((hb && (decide (x4 > 0) && decide (x5 > 0) && inB x9 1 512 && inB x8 0 (x9 - 1))) && y) := by
        intro y
        cases hb with
        | false => rfl
        | true =>
          cases decide (x4 > 0) with
          | false => rfl
          | true =>
            cases decide (x5 > 0) with
            | false => rfl
            | true =>
              cases q1 : inB x9 1 512 with
              | false => rfl
              | true =>
                simp only [inB, Bool.and_eq_true, decide_eq_true_eq] at q1
                rw [wi64 (by omega)]
                cases inB x8 0 (x9 - 1) <;> rfl
      simp only [hx, hy, Option.bind_some, fin]
      congr 2
      rw [eq_iff_iff]
      generalize (decide (x4 > 0) && decide (x5 > 0) && inB x9 1 512 && inB x8 0 (x9 - 1)) = c1, claimB x8 x9 x13 = c2
      cases hb <;> cases c1 <;> cases c2 <;> simp
    · have e2 : (x1 == 2) = false := by simpa using k2
      simp only [e2, Bool.false_eq_true, if_false, if_neg k2]
      by_cases k3 : x1 = 3
      · subst k3
        simp only [beq_self_eq_true, if_true, Option.bind_some, fin, if_and]
      · have e3 : (x1 == 3) = false := by simpa using k3
        simp only [e3, Bool.false_eq_true, if_false, if_neg k3]
        by_cases k4 : x1 = 4
        · subst k4
          simp only [beq_self_eq_true, if_true, Option.bind_some, fin, if_and, true_or]
        · have e4 : (x1 == 4) = false := by simpa using k4
          simp only [e4, Bool.false_eq_true, if_false]
          by_cases k6 : x1 = 6
          · subst k6
            simp only [beq_self_eq_true, if_true, Option.bind_some, fin, if_and, or_true]
          · have e6 : (x1 == 6) = false := by simpa using k6
            simp only [e6, Option.bind_some, Bool.false_eq_true, if_false, if_neg (show ¬ (x1 = 4 ∨ x1 = 6) by omega)]
            by_cases k5 : x1 = 5
            · subst k5
              simp only [beq_self_eq_true, if_true, Option.bind_some, fin, true_or, decide_true, Bool.and_true]
            · have e5 : (x1 == 5) = false := by simpa using k5
              simp only [e5, Bool.false_eq_true, if_false]
              by_cases k7 : x1 = 7
              · subst k7
                simp only [beq_self_eq_true, if_true, Option.bind_some, fin, or_true, decide_true, Bool.and_true]
              · have e7 : (x1 == 7) = false := by simpa using k7
                simp only [e7, Bool.false_eq_true, if_false, Option.bind_some, fin]
                rw [decide_eq_false (show ¬ (x1 = 5 ∨ x1 = 7) by omega)]
                simp
end Go.Proofs.Ytiglckehhfbliaa.Ev.U
namespace Go.Proofs.Ytiglckehhfbliaa.Ev.U
open Go
theorem l43 (n : Int) (l : List Claim) (hb : l.length < 1000000000) (hn : 0 ≤ n ∧ n ≤ 1000000) : ∀ (k i : Nat) (e : Int), i + k = l.length → -1 ≤ e → lpU g43x0 (n, e, l, (l.length : Int), (i : Int)) = some (if chain n e (l.drop i) = true then .inl () else .inr false)
  | 0, i, e, hi, he => by
    have hd : decide ((i : Int) < (l.length : Int)) = false := decide_eq_false (by omega)
    rw [lp_end (x := .inl ()) (by simp only [g43x0, hd, Bool.false_eq_true, if_false])]
    rw [List.drop_of_length_le (by omega)]
    rfl
  | k + 1, i, e, hi, he => by
    have hd : decide ((i : Int) < (l.length : Int)) = true := decide_eq_true (by omega)
    have h1 : i < l.length := by omega
    rw [drop_cons' h1]
    obtain ⟨x, y, hc⟩ : ∃ x y, l[i] = (x, y) := ⟨_, _, rfl⟩
    by_cases ok : 0 < y ∧ e < x ∧ x + y ≤ n
    · have c1 : decide (y < 1) = false := decide_eq_false (by omega)
      have c2 : decide (x ≤ e) = false := decide_eq_false (by omega)
      have c3 : decide (x ≥ n) = false := decide_eq_false (by omega)
      have c4 : decide (y > IntKind.i64.wrap (n - x)) = false := by rw [wi64 (by omega)]; exact decide_eq_false (by omega)
      rw [lp_next (s' := (n, x + y, l, (l.length : Int), ((i + 1 : Nat) : Int))) (by
        simp only [g43x0, hd, if_true, idx_some' h1, Option.bind_some, hc, c1, c2, c3, c4, Bool.false_eq_true, if_false, wnext (show i < 1000000000000 by omega), wi64 (show -9223372036854775808 ≤ x + y ∧ x + y ≤ 9223372036854775807 by omega)]), l43 n l hb hn k (i + 1) (x + y) (by omega) (by omega)]
      congr 1
      have : chain n e (l[i] :: l.drop (i + 1)) = chain n (x + y) (l.drop (i + 1)) := by
        rw [Bool.eq_iff_iff, chain_cons, hc]
        simp only [ok, true_and]
      rw [this]
    · rw [lp_end (x := .inr false) (by
        have hcond : (if (if (if decide (y < 1) = true then true else decide (x ≤ e)) = true then true else decide (x ≥ n)) = true then true else decide (y > IntKind.i64.wrap (n - x))) = true := by
          by_cases q1 : y < 1
          · rw [decide_eq_true q1]; rfl
          · rw [decide_eq_false q1]
            by_cases q2 : x ≤ e
            · rw [decide_eq_true q2]; rfl
            · rw [decide_eq_false q2]
              by_cases q3 : x ≥ n
              · rw [decide_eq_true q3]; rfl
              · rw [decide_eq_false q3, wi64 (by omega)]
                exact decide_eq_true (by omega)
        simp only [g43x0, hd, if_true, idx_some' h1, Option.bind_some, hc, hcond])]
      rw [if_neg]
      rw [chain_cons, hc]
      exact fun h => ok ⟨h.1, h.2.1, h.2.2.1⟩
theorem w43 (l : List Claim) (n : Int) (hb : l.length < 1000000000) (hn : 0 ≤ n ∧ n ≤ 1000000) : g43 l n = some (chain n (-1) l) := by
  unfold g43
  have := l43 n l hb hn l.length 0 (-1) (by omega) (by omega)
  rw [show ((0 : Nat) : Int) = 0 from rfl, List.drop_zero] at this
  rw [this]
  cases chain n (-1) l <;> rfl
theorem w42 (x a b : Int) : h42 x a b = inB x a b := by
  show (if decide (x ≥ a) = true then decide (x ≤ b) else false) = (decide (x ≥ a) && decide (x ≤ b))
  cases decide (x ≥ a) <;> rfl
theorem l70 (l : List Int) (x : Int) (hb : l.length < 1000000000) : ∀ (k i : Nat), i + k = l.length → ∃ z : Unit ⊕ Int, lpU g70x0 (l, x, (l.length : Int), (i : Int)) = some z ∧ ((∃ u, z = .inl u ∧ ¬ x ∈ l.drop i) ∨ (∃ j, z = .inr j ∧ 0 ≤ j ∧ x ∈ l.drop i))
  | 0, i, hi => by
    have hd : decide ((i : Int) < (l.length : Int)) = false := decide_eq_false (by omega)
    refine ⟨Sum.inl (), lp_end (x := Sum.inl ()) (by simp only [g70x0, hd, Bool.false_eq_true, if_false]), .inl ⟨(), rfl, ?_⟩⟩
    rw [List.drop_of_length_le (by omega)]
    simp
  | k + 1, i, hi => by
    have hd : decide ((i : Int) < (l.length : Int)) = true := decide_eq_true (by omega)
    have h1 : i < l.length := by omega
    rw [drop_cons' h1]
    by_cases e : x = l[i]
    · refine ⟨Sum.inr (i : Int), lp_end (x := Sum.inr (i : Int)) ?_, .inr ⟨_, rfl, by omega, by rw [e]; exact List.mem_cons_self ..⟩⟩
      have : (x == l[i]) = true := by simpa using e
      simp only [g70x0, hd, if_true, idx_some' h1, Option.bind_some, this]
    · obtain ⟨z, z1, z2⟩ := l70 l x hb k (i + 1) (by omega)
      have hne : (x == l[i]) = false := by simpa using e
      refine ⟨z, ?_, ?_⟩
      · rw [lp_next (s' := (l, x, (l.length : Int), ((i + 1 : Nat) : Int))) (by simp only [g70x0, hd, if_true, idx_some' h1, Option.bind_some, hne, Bool.false_eq_true, if_false, wnext (show i < 1000000000000 by omega)])]
        exact z1
      · rcases z2 with ⟨u, q1, q2⟩ | ⟨j, q1, q2, q3⟩
        · exact .inl ⟨u, q1, fun h => by rcases List.mem_cons.1 h with h | h; exact e h; exact q2 h⟩
        · exact .inr ⟨j, q1, q2, List.mem_cons_of_mem _ q3⟩
theorem w46 (l : List Int) (x : Int) (hb : l.length < 1000000000) : g46 l x = some (decide (x ∈ l)) := by
  unfold g46 g70
  obtain ⟨z, z1, z2⟩ := l70 l x hb l.length 0 (by omega)
  rw [show ((0 : Nat) : Int) = 0 from rfl] at z1
  rw [z1]
  rw [List.drop_zero] at z2
  rcases z2 with ⟨u, rfl, q⟩ | ⟨j, rfl, q1, q2⟩
  · rw [decide_eq_false q]; rfl
  · rw [decide_eq_true q2]
    show some (decide (j ≥ 0)) = some true
    rw [decide_eq_true q1]
/-- May a session be? -/
noncomputable def rightG (a : Sending) : Bool := h35 (a.1, a.2.1, a.2.2.1, a.2.2.2.1, a.2.2.2.2.1) && (inB a.2.2.2.2.2.1 1 4 && (chain (a.2.2.1.length : Int) (-1) a.2.2.2.2.2.2.1 && (segOk (a.2.2.2.2.2.2.2.1, a.2.2.2.2.2.2.2.2.1, a.2.2.2.2.2.2.2.2.2.1, a.2.2.2.2.2.2.2.2.2.2.1, a.2.2.2.2.2.2.2.2.2.2.2.1, a.2.2.2.2.2.2.2.2.2.2.2.2.1, a.2.2.2.2.2.2.2.2.2.2.2.2.2.1, a.2.2.2.2.2.2.2.2.2.2.2.2.2.2.1, a.2.2.2.2.2.2.2.2.2.2.2.2.2.2.2.1, a.2.2.2.2.2.2.2.2.2.2.2.2.2.2.2.2.1, a.2.2.2.2.2.2.2.2.2.2.2.2.2.2.2.2.2.1, a.2.2.2.2.2.2.2.2.2.2.2.2.2.2.2.2.2.2.1, a.2.2.2.2.2.2.2.2.2.2.2.2.2.2.2.2.2.2.2.1) && (a.2.2.2.2.2.2.2.1 == 1 && (a.2.2.2.2.2.2.2.2.2.2.2.2.2.2.2.2.2.1 && (a.2.2.2.2.2.2.2.2.1 == a.1 && (a.2.2.2.2.2.2.2.2.2.1 == a.2.1 && (a.2.2.2.2.2.2.2.2.2.2.2.2.2.1 == (a.2.2.1.length : Int) && (decide (a.2.2.2.2.2.2.2.2.2.2.2.2.2.2.2.2.2.2.1 = (a.2.2.1.drop a.2.2.2.2.2.2.2.2.2.2.2.2.1.toNat).take a.2.2.2.2.2.2.2.2.2.2.2.2.2.2.2.2.2.2.1.length) && (inB a.2.2.2.2.2.2.2.2.2.2.2.2.2.2.2.2.2.2.2.2.1 0 1114112 && (inB a.2.2.2.2.2.2.2.2.2.2.2.2.2.2.2.2.2.2.2.2.2.1 0 a.2.2.2.2.1 && (!decide ((a.2.2.2.2.2.2.2.2.2.2.2.2.2.2.2.2.2.2.2.2.2.2.1.length : Int) > 32) && (!decide ((0 : Int) ∈ a.2.2.2.2.2.2.2.2.2.2.2.2.2.2.2.2.2.2.2.2.2.2.1) && inB a.2.2.2.2.2.2.2.2.2.2.2.2.2.2.2.2.2.2.2.2.2.2.2 0 255)))))))))))))
theorem cut_ok {α : Type} {xs : List α} {lo hi : Int} (h : 0 ≤ lo ∧ lo ≤ hi ∧ hi ≤ (xs.length : Int)) : cut xs lo hi = some ((xs.take hi.toNat).drop lo.toNat) := if_pos h
theorem fin15 (y20 q1 q2 q3 q4 q5 : Bool) : (if (!y20) = true then some (240 : Int) else
  (let x23 := !q1
  if x23 = true then (if x23 = true then some (240 : Int) else some 0) else
  (let x25 := !q2
  if x25 = true then (if x25 = true then some (240 : Int) else some 0) else
  (let x27 := q3
  if x27 = true then (if x27 = true then some (240 : Int) else some 0) else
  (some q4).bind fun y28 => if y28 = true then (if y28 = true then some (240 : Int) else some 0) else if (!q5) = true then some (240 : Int) else some 0)))) = some (if (y20 && (q1 && (q2 && (!q3 && (!q4 && q5))))) = true then 0 else 240) := by
  cases y20 <;> cases q1 <;> cases q2 <;> cases q3 <;> cases q4 <;> cases q5 <;> rfl
set_option maxRecDepth 4000 in
theorem w15 (a : Sending) (h : SmG a) : g15 a = some (if rightG a = true then 0 else 240) := by
  have hb := h.b
  have hg := h.g
  have hs := h.s
  have hd := h.d
  have hc := h.c
  obtain ⟨a1, a2, a3, a4, a5, a6, a7, a8, a9, a10, a11, a12, a13, a14, a15, a16, a17, a18, a19, a20, a21, a22, a23, a24⟩ := a
  simp only at hb hg hs hd hc
  show g15 _ = some (if (h35 (a1, a2, a3, a4, a5) && (inB a6 1 4 && (chain (a3.length : Int) (-1) a7 && (segOk (a8, a9, a10, a11, a12, a13, a14, a15, a16, a17, a18, a19, a20) && (a8 == 1 && (a18 && (a9 == a1 && (a10 == a2 && (a14 == (a3.length : Int) && (decide (a19 = (a3.drop a13.toNat).take a19.length) && (inB a21 0 1114112 && (inB a22 0 a5 && (!decide ((a23.length : Int) > 32) && (!decide ((0 : Int) ∈ a23) && inB a24 0 255)))))))))))))) = true then 0 else 240)
  unfold g15
  simp only [w42, w43 a7 (a3.length : Int) (by omega) (by omega)]
  cases q1 : h35 (a1, a2, a3, a4, a5) with
  | false => rfl
  | true =>
  cases q2 : inB a6 1 4 with
  | false => rfl
  | true =>
  cases q3 : chain (a3.length : Int) (-1) a7 with
  | false => rfl
  | true =>
  simp only [Bool.not_true, Bool.not_false, Bool.false_eq_true, if_false, if_true, Option.bind_some, w44 (a8, a9, a10, a11, a12, a13, a14, a15, a16, a17, a18, a19, a20) ⟨hd, hc⟩, Bool.true_and]
  cases q4 : segOk (a8, a9, a10, a11, a12, a13, a14, a15, a16, a17, a18, a19, a20) with
  | false => rfl
  | true =>
  cases q5 : (a8 == 1) with
  | false =>
    have : (a8 != 1) = true := by rw [bne, q5]; rfl
    simp only [Bool.not_true, Bool.false_eq_true, if_false, if_true, Option.bind_some, bne_self_eq_false, this, Bool.false_and, Bool.and_false]
  | true =>
  have q5' : (a8 != 1) = false := by rw [bne, q5]; rfl
  cases a18 with
  | false => simp only [Bool.not_true, Bool.not_false, Bool.false_eq_true, if_false, if_true, Option.bind_some, bne_self_eq_false, q5', Bool.false_and, Bool.and_false]
  | true =>
  cases q6 : (a9 == a1) with
  | false =>
    have : (a9 != a1) = true := by rw [bne, q6]; rfl
    simp only [Bool.not_true, Bool.not_false, Bool.false_eq_true, if_false, if_true, Option.bind_some, bne_self_eq_false, q5', this, Bool.false_and, Bool.and_false]
  | true =>
  have q6' : (a9 != a1) = false := by rw [bne, q6]; rfl
  cases q7 : (a10 == a2) with
  | false =>
    have : (a10 != a2) = true := by rw [bne, q7]; rfl
    simp only [Bool.not_true, Bool.not_false, Bool.false_eq_true, if_false, if_true, Option.bind_some, bne_self_eq_false, q5', q6', this, Bool.false_and, Bool.and_false]
  | true =>
  have q7' : (a10 != a2) = false := by rw [bne, q7]; rfl
  cases q8 : (a14 == (a3.length : Int)) with
  | false =>
    have : (a14 != (a3.length : Int)) = true := by rw [bne, q8]; rfl
    simp only [Bool.not_true, Bool.not_false, Bool.false_eq_true, if_false, if_true, Option.bind_some, bne_self_eq_false, q5', q6', q7', this, Bool.false_and, Bool.and_false]
  | true =>
  have q8' : (a14 != (a3.length : Int)) = false := by rw [bne, q8]; rfl
  have e8 : a8 = 1 := by simpa using q5
  have e14 : a14 = (a3.length : Int) := by simpa using q8
  have hoff : 0 ≤ a13 ∧ a13 ≤ a14 - (a19.length : Int) := by
    have h1 := q4
    simp only [segOk, Bool.and_eq_true] at h1
    replace h1 := h1.1.2
    unfold kindB at h1
    rw [if_pos e8] at h1
    simp only [Bool.and_eq_true, inB, decide_eq_true_eq] at h1
    exact h1.1.2
  simp only [Bool.not_true, Bool.not_false, Bool.false_eq_true, if_false, if_true, Option.bind_some, bne_self_eq_false, q5', q6', q7', q8', Bool.true_and]
  rw [cut_ok ⟨hoff.1, by omega, by omega⟩, Option.bind_some, cut_ok ⟨by omega, by omega, by simp; omega⟩, Option.bind_some]
  have ed : ((((a3.take (a3.length : Int).toNat).drop a13.toNat).take (a19.length : Int).toNat).drop (0 : Int).toNat) = (a3.drop a13.toNat).take a19.length := by
    rw [Int.toNat_natCast, Int.toNat_natCast, List.take_length]; rfl
  rw [ed, w45 a19 _ (by omega), Option.bind_some, w46 a23 0 (by omega)]
  exact fin15 _ _ _ _ _ _
end Go.Proofs.Ytiglckehhfbliaa.Ev.U
namespace Go.Proofs.Ytiglckehhfbliaa.Ev.U
open Go
/-! ### Gaps -/
theorem gapF_len (n : Int) : ∀ (got : List Claim) (at_ : Int), (gapF n got at_).length ≤ got.length + 1
  | [], at_ => by unfold gapF; split <;> simp
  | c :: r, at_ => by
    unfold gapF
    have := gapF_len n r (IntKind.i64.wrap (c.1 + c.2))
    rw [List.length_append, List.length_cons]
    split <;> simp <;> omega
theorem fold75 : ∀ (L s : List Claim), s.length + L.length < 1000000000 → foldU g75_r0 L s = some (.inl (s ++ L))
  | [], s, h => by simp [foldU]
  | y :: L, s, h => by
    simp only [List.length_cons] at h
    have : g75_r0 y s = some (.inl (s ++ [y])) := by
      unfold g75_r0
      rw [apd_ok (by simp only [List.length_cons, List.length_nil]; omega)]; rfl
    unfold foldU
    rw [this]
    show foldU g75_r0 L (s ++ [y]) = _
    rw [fold75 L (s ++ [y]) (by simp; omega)]
    simp
theorem w24 (a : Sending) (h : SmG a) : g24 a = some (if rightG a = true then gapF (a.2.2.1.length : Int) a.2.2.2.2.2.2.1 0 else []) := by
  unfold g24
  rw [w15 a h]
  cases rightG a with
  | false => rfl
  | true =>
    have hg := h.g
    have h1 : gapH a = some (gapF (a.2.2.1.length : Int) a.2.2.2.2.2.2.1 0) := if_pos (show a.2.2.2.2.2.2.1.length < 1000000000 by omega)
    have hl := gapF_len (a.2.2.1.length : Int) a.2.2.2.2.2.2.1 0
    have h2 : g75 [] a = some (gapF (a.2.2.1.length : Int) a.2.2.2.2.2.2.1 0) := by
      unfold g75
      rw [h1, Option.bind_some, fold75 _ [] (by simp only [List.length_nil]; omega)]
      rfl
    have h3 : g57 a = some (gapF (a.2.2.1.length : Int) a.2.2.2.2.2.2.1 0) := by unfold g57; rw [h2]; rfl
    show (if ((0 : Int) != 0) = true then some [] else ((g39 a).bind fun y3 => (g57 y3).bind fun y4 => some y4)) = _
    rw [if_neg (by simp)]
    show ((g57 a).bind fun y4 => some y4) = _
    rw [h3]; rfl
/-- What stands apart, in order. -/
def sepB : Int → List Claim → Prop
  | _, [] => True
  | e, c :: r => e < c.1 ∧ sepB (c.1 + c.2) r
/-- How many have a byte. -/
def cov : List Claim → Nat → Int
  | [], _ => 0
  | c :: r, j => (if c.1 ≤ (j : Int) ∧ (j : Int) < c.1 + c.2 then 1 else 0) + cov r j
theorem cov_app (a b : List Claim) (j : Nat) : cov (a ++ b) j = cov a j + cov b j := by
  induction a with
  | nil => simp [cov]
  | cons c a ih => simp only [List.cons_append, cov, ih]; omega
def InR (n : Int) (c : Claim) : Prop := 0 ≤ c.1 ∧ 0 < c.2 ∧ c.1 + c.2 ≤ n
theorem gap_all {n : Int} (hn : n ≤ 1000000) : ∀ {got : List Claim} {e at_ : Int}, chain n e got = true → -1 ≤ e → 0 ≤ at_ → at_ ≤ e + 1 →
    (∀ c ∈ got, InR n c) ∧ (∀ c ∈ gapF n got at_, InR n c) ∧ (∀ e', e' < at_ → sepB e' (gapF n got at_)) ∧ ∀ j : Nat, cov got j + cov (gapF n got at_) j = if at_ ≤ (j : Int) ∧ (j : Int) < n then 1 else 0
  | [], e, at_, h, he, h0, hat => by
    have hg : gapF n [] at_ = if at_ < n then [(at_, IntKind.i64.wrap (n - at_))] else [] := rfl
    refine ⟨fun c hc => (by cases hc), ?_, ?_, ?_⟩
    · intro c hc
      rw [hg] at hc
      split at hc
      · simp only [List.mem_singleton] at hc
        subst hc
        rw [wi64 (by omega)]
        exact ⟨h0, by show 0 < n - at_; omega, by show at_ + (n - at_) ≤ n; omega⟩
      · cases hc
    · intro e' he'
      rw [hg]
      split
      · exact ⟨he', trivial⟩
      · trivial
    · intro j
      rw [hg]
      split
      · rw [wi64 (by omega)]
        simp only [cov]
        rw [show at_ + (n - at_) = n by omega]
        omega
      · simp only [cov]
        rw [if_neg (by omega)]
        rfl
  | c :: r, e, at_, h, he, h0, hat => by
    obtain ⟨x, y⟩ := c
    obtain ⟨k1, k2, k3, k4⟩ := chain_cons.1 h
    simp only at k1 k2 k3 k4
    have hw : IntKind.i64.wrap (x + y) = x + y := wi64 (by omega)
    obtain ⟨i1, i2, i3, i4⟩ := gap_all hn (got := r) (e := x + y) (at_ := x + y) k4 (by omega) (by omega) (by omega)
    have hg : gapF n ((x, y) :: r) at_ = (if x > at_ then [(at_, IntKind.i64.wrap (x - at_))] else []) ++ gapF n r (x + y) := by
      show (if x > at_ then _ else _) ++ gapF n r (IntKind.i64.wrap (x + y)) = _
      rw [hw]
    refine ⟨?_, ?_, ?_, ?_⟩
    · intro c hc
      rcases List.mem_cons.1 hc with rfl | hc
      · exact ⟨by show 0 ≤ x; omega, k1, k3⟩
      · exact i1 c hc
    · intro c hc
      rw [hg] at hc
      rcases List.mem_append.1 hc with hc | hc
      · split at hc
        · simp only [List.mem_singleton] at hc
          subst hc
          rw [wi64 (by omega)]
          exact ⟨h0, by show 0 < x - at_; omega, by show at_ + (x - at_) ≤ n; omega⟩
        · cases hc
      · exact i2 c hc
    · intro e' he'
      rw [hg]
      split
      · rw [wi64 (by omega)]
        refine ⟨he', ?_⟩
        rw [show at_ + (x - at_) = x by omega]
        exact i3 x (by omega)
      · exact i3 e' (by omega)
    · intro j
      rw [hg, cov_app]
      have hj := i4 j
      by_cases hx : x > at_
      · rw [if_pos hx, wi64 (by omega)]
        simp only [cov]
        rw [show at_ + (x - at_) = x by omega]
        have e1 : (if x ≤ (j : Int) ∧ (j : Int) < x + y then (1 : Int) else 0) + cov r j + ((if at_ ≤ (j : Int) ∧ (j : Int) < x then (1 : Int) else 0) + 0 + cov (gapF n r (x + y)) j) = (if x ≤ (j : Int) ∧ (j : Int) < x + y then (1 : Int) else 0) + (if at_ ≤ (j : Int) ∧ (j : Int) < x then (1 : Int) else 0) + (if x + y ≤ (j : Int) ∧ (j : Int) < n then 1 else 0) := by rw [← hj]; omega
        rw [e1]
        split <;> split <;> split <;> split <;> omega
      · rw [if_neg hx]
        simp only [cov]
        have e1 : (if x ≤ (j : Int) ∧ (j : Int) < x + y then (1 : Int) else 0) + cov r j + (0 + cov (gapF n r (x + y)) j) = (if x ≤ (j : Int) ∧ (j : Int) < x + y then (1 : Int) else 0) + (if x + y ≤ (j : Int) ∧ (j : Int) < n then 1 else 0) := by rw [← hj]; omega
        rw [e1]
        split <;> split <;> split <;> omega
/-! ### Counting -/
def tab (n : Nat) (f : Nat → Int) : List Int := (List.range n).map f
theorem tab_len (n : Nat) (f : Nat → Int) : (tab n f).length = n := by simp [tab]
theorem tab_get {n : Nat} {f : Nat → Int} {i : Nat} (h : i < n) : idx (tab n f) (i : Int) = some (f i) := by
  rw [idx_nat]
  simp [tab, h]
theorem tab_set {n : Nat} {f : Nat → Int} {i : Nat} {v : Int} : (tab n f).set i v = tab n (fun j => if j = i then v else f j) := by
  apply List.ext_getElem?
  intro j
  rw [List.getElem?_set]
  simp only [tab, List.length_map, List.length_range, List.getElem?_map]
  by_cases hj : i = j
  · subst hj
    simp only [if_true]
    by_cases hi : i < n
    · simp [hi]
    · simp [hi]
  · rw [if_neg hj]
    by_cases hi : j < n
    · have hj' : ¬ j = i := fun h => hj h.symm
      simp [hi, hj']
    · simp [hi]
theorem l6x0 (A B : List Claim) (C E : Int) (n hi : Nat) (hn : n ≤ 1000000) (hh : hi ≤ n) (c1 c2 : Int) (hc : c1 + c2 = (hi : Int)) : ∀ (k i : Nat) (f : Nat → Int), i + k = hi → (∀ j, i ≤ j → 0 ≤ f j ∧ f j ≤ 1000000000) →
    lpU g6x0 (A, tab n f, (i : Int), B, C, E, c1, c2) = some (A, tab n (fun j => f j + if i ≤ j ∧ j < hi then 1 else 0), B, C, E)
  | 0, i, f, hik, hf => by
    have hd : decide ((i : Int) < IntKind.i64.wrap (c1 + c2)) = false := by rw [wi64 (by omega)]; exact decide_eq_false (by omega)
    rw [lp_end (x := (A, tab n f, B, C, E)) (by simp only [g6x0, hd, Bool.false_eq_true, if_false])]
    have : (fun j => f j + if i ≤ j ∧ j < hi then 1 else 0) = f := by
      funext j
      rw [if_neg (by omega)]; omega
    rw [this]
  | k + 1, i, f, hik, hf => by
    have hd : decide ((i : Int) < IntKind.i64.wrap (c1 + c2)) = true := by rw [wi64 (by omega)]; exact decide_eq_true (by omega)
    have hin : i < n := by omega
    have hchk : chkI (i : Int) ((tab n f).length : Int) = some () := chkI_some (by rw [tab_len]; omega)
    have hfi := hf i (Nat.le_refl _)
    have hset : (tab n f).set (Int.toNat (i : Int)) (IntKind.i64.wrap (f i + 1)) = tab n (fun j => if j = i then f i + 1 else f j) := by rw [Int.toNat_natCast, wi64 (by omega), tab_set]
    rw [lp_next (s' := (A, tab n (fun j => if j = i then f i + 1 else f j), ((i + 1 : Nat) : Int), B, C, E, c1, c2)) (by
      simp only [g6x0, hd, if_true, hchk, Option.bind_some, tab_get hin, eqI_self, hset, wnext (show i < 1000000000000 by omega)])]
    rw [l6x0 A B C E n hi hn hh c1 c2 hc k (i + 1) (fun j => if j = i then f i + 1 else f j) (by omega) (fun j hj => by rw [if_neg (by omega)]; exact hf j (by omega))]
    have : (fun j => (if j = i then f i + 1 else f j) + if i + 1 ≤ j ∧ j < hi then 1 else 0) = (fun j => f j + if i ≤ j ∧ j < hi then 1 else 0) := by
      funext j
      by_cases hj : j = i
      · subst hj
        rw [if_pos rfl, if_neg (by omega), if_pos (by omega)]; omega
      · rw [if_neg hj]
        congr 1
        by_cases hk : i ≤ j ∧ j < hi
        · rw [if_pos hk, if_pos (by omega)]
        · rw [if_neg hk, if_neg (by omega)]
    rw [this]
theorem l6x1 (A all : List Claim) (n : Nat) (hn : n ≤ 1000000) (hall : ∀ c ∈ all, InR (n : Int) c) (hb : all.length < 100000000) : ∀ (k i : Nat) (f : Nat → Int), i + k = all.length → (∀ j, 0 ≤ f j ∧ f j + (k : Int) ≤ 1000000000) →
    lpU g6x1 (A, tab n f, all, (all.length : Int), (i : Int)) = some (A, tab n (fun j => f j + cov (all.drop i) j))
  | 0, i, f, hik, hf => by
    have hd : decide ((i : Int) < (all.length : Int)) = false := decide_eq_false (by omega)
    rw [lp_end (x := (A, tab n f)) (by simp only [g6x1, hd, Bool.false_eq_true, if_false])]
    rw [List.drop_of_length_le (by omega)]
    have : (fun j => f j + cov [] j) = f := by funext j; show f j + 0 = f j; omega
    rw [this]
  | k + 1, i, f, hik, hf => by
    have hd : decide ((i : Int) < (all.length : Int)) = true := decide_eq_true (by omega)
    have h1 : i < all.length := by omega
    rw [drop_cons' h1]
    obtain ⟨x, y, hc⟩ : ∃ x y, all[i] = (x, y) := ⟨_, _, rfl⟩
    obtain ⟨r1, r2, r3⟩ : 0 ≤ x ∧ 0 < y ∧ x + y ≤ (n : Int) := by
      have := hall all[i] (List.getElem_mem h1)
      rw [hc] at this; exact this
    obtain ⟨xn, hxn⟩ : ∃ xn : Nat, x = (xn : Int) := ⟨x.toNat, by omega⟩
    obtain ⟨hi, hhi⟩ : ∃ hi : Nat, x + y = (hi : Int) := ⟨(x + y).toNat, by omega⟩
    have hin := l6x0 A all (all.length : Int) (i : Int) n hi hn (by omega) x y hhi (hi - xn) xn f (by omega) (fun j _ => ⟨(hf j).1, by have := (hf j).2; omega⟩)
    rw [← hxn] at hin
    rw [lp_next (s' := (A, tab n (fun j => f j + if xn ≤ j ∧ j < hi then 1 else 0), all, (all.length : Int), ((i + 1 : Nat) : Int))) (by
      simp only [g6x1, hd, if_true, idx_some' h1, Option.bind_some, hc, hin, wnext (show i < 1000000000000 by omega)])]
    rw [l6x1 A all n hn hall hb k (i + 1) _ (by omega) (fun j => by
      have := hf j
      constructor
      · split <;> omega
      · split <;> omega)]
    have : (fun j => (f j + if xn ≤ j ∧ j < hi then 1 else 0) + cov (all.drop (i + 1)) j) = (fun j => f j + cov (all[i] :: all.drop (i + 1)) j) := by
      funext j
      rw [hc]
      show _ = f j + ((if x ≤ (j : Int) ∧ (j : Int) < x + y then 1 else 0) + cov (all.drop (i + 1)) j)
      have : (if xn ≤ j ∧ j < hi then (1 : Int) else 0) = (if x ≤ (j : Int) ∧ (j : Int) < x + y then 1 else 0) := by
        by_cases hk : xn ≤ j ∧ j < hi
        · rw [if_pos hk, if_pos (by omega)]
        · rw [if_neg hk, if_neg (by omega)]
      rw [this]; omega
    rw [this]
theorem l6x2 (A : List Claim) (n : Nat) (f : Nat → Int) (hn : n ≤ 1000000) (h1 : ∀ j, j < n → f j = 1) : ∀ (k i : Nat), i + k = n → lpU g6x2 (A, tab n f, ((tab n f).length : Int), (i : Int)) = some (.inl A)
  | 0, i, hik => by
    have hd : decide ((i : Int) < ((tab n f).length : Int)) = false := by rw [tab_len]; exact decide_eq_false (by omega)
    rw [lp_end (x := .inl A) (by simp only [g6x2, hd, Bool.false_eq_true, if_false])]
  | k + 1, i, hik => by
    have hd : decide ((i : Int) < ((tab n f).length : Int)) = true := by rw [tab_len]; exact decide_eq_true (by omega)
    have hchk : chkI (i : Int) ((tab n f).length : Int) = some () := chkI_some (by rw [tab_len]; omega)
    have hf := h1 i (by omega)
    rw [lp_next (s' := (A, tab n f, ((tab n f).length : Int), ((i + 1 : Nat) : Int))) (by
      simp only [g6x2, hd, if_true, hchk, Option.bind_some, tab_get (show i < n by omega), hf, eqI_self, bne_self_eq_false, Bool.false_eq_true, if_false, wnext (show i < 1000000000000 by omega)])]
    exact l6x2 A n f hn h1 k (i + 1) (by omega)
theorem sep_at : ∀ {G : List Claim} {e : Int}, sepB e G → ∀ (i : Nat) (h : i + 1 < G.length), G[i].1 + G[i].2 < (G[i + 1]'h).1
  | [], e, h, i, hi => absurd hi (by simp)
  | [c], e, h, i, hi => absurd hi (by simp)
  | c :: d :: r, e, h, 0, hi => h.2.1
  | c :: d :: r, e, h, i + 1, hi => sep_at (G := d :: r) (e := c.1 + c.2) h.2 i (by simp at hi ⊢; omega)
theorem l6x3 (G : List Claim) (n : Int) (hn : n ≤ 1000000) (hall : ∀ c ∈ G, InR n c) (hs : ∀ (i : Nat) (h : i + 1 < G.length), G[i].1 + G[i].2 < (G[i + 1]'h).1) (hb : G.length < 100000000) : ∀ (k i : Nat), G.length ≤ i + 1 + k → lpU g6x3 (G, ((i + 1 : Nat) : Int)) = some (.inl ())
  | 0, i, hik => by
    have hd : decide (((i + 1 : Nat) : Int) < (G.length : Int)) = false := decide_eq_false (by omega)
    rw [lp_end (x := .inl ()) (by simp only [g6x3, hd, Bool.false_eq_true, if_false])]
  | k + 1, i, hik => by
    by_cases hlt : i + 1 < G.length
    · have hd : decide (((i + 1 : Nat) : Int) < (G.length : Int)) = true := decide_eq_true (by omega)
      have hp : IntKind.i64.wrap (((i + 1 : Nat) : Int) - 1) = (i : Int) := by rw [wi64 (by omega)]; omega
      have hr := hall G[i] (List.getElem_mem (by omega))
      obtain ⟨r1, r2, r3⟩ := hr
      have hcond : decide ((G[i + 1]'hlt).1 ≤ IntKind.i64.wrap (G[i].1 + G[i].2)) = false := by
        rw [wi64 (by omega)]
        have := hs i hlt
        exact decide_eq_false (by omega)
      rw [lp_next (s' := (G, ((i + 1 + 1 : Nat) : Int))) (by
        simp only [g6x3, hd, if_true, idx_some' hlt, Option.bind_some, hp, idx_some' (show i < G.length by omega), hcond, Bool.false_eq_true, if_false, wnext (show i + 1 < 1000000000000 by omega)])]
      exact l6x3 G n hn hall hs hb k (i + 1) (by omega)
    · have hd : decide (((i + 1 : Nat) : Int) < (G.length : Int)) = false := decide_eq_false (by omega)
      rw [lp_end (x := .inl ()) (by simp only [g6x3, hd, Bool.false_eq_true, if_false])]
/-- Each byte once. -/
theorem w6 (a : Sending) : g6 a = some true := by
  obtain ⟨y, h1, hy⟩ := w17 a
  unfold g6
  rw [if_neg (by simp), h1, Option.bind_some, w24 y hy, Option.bind_some, w15 y hy, Option.bind_some]
  cases hr : rightG y with
  | false => rfl
  | true =>
    have hch : chain (y.2.2.1.length : Int) (-1) y.2.2.2.2.2.2.1 = true := by
      unfold rightG at hr
      simp only [Bool.and_eq_true] at hr
      exact hr.2.2.1
    have hb := hy.b
    have hg := hy.g
    obtain ⟨a1, a2, a3, a4⟩ := gap_all (n := (y.2.2.1.length : Int)) (by omega) hch (Int.le_refl _) (Int.le_refl 0) (by omega)
    have hgl := gapF_len (y.2.2.1.length : Int) y.2.2.2.2.2.2.1 0
    have hG : (if true = true then gapF (y.2.2.1.length : Int) y.2.2.2.2.2.2.1 0 else []) = gapF (y.2.2.1.length : Int) y.2.2.2.2.2.2.1 0 := if_pos rfl
    rw [hG]
    generalize hGG : gapF (y.2.2.1.length : Int) y.2.2.2.2.2.2.1 0 = G at *
    rw [if_neg (by simp)]
    have hmk : mkl 8 (y.2.2.1.length : Int) (y.2.2.1.length : Int) (0 : Int) = some (tab y.2.2.1.length (fun _ => 0)) := by
      rw [mkl_ok (by omega) (Int.le_refl _) (by omega)]
      simp [tab, List.map_const']
    show ((mkl 8 (y.2.2.1.length : Int) (y.2.2.1.length : Int) (0 : Int)).bind fun y9 => (apd 16 [] y.2.2.2.2.2.2.1).bind fun y10 => (apd 16 y10 G).bind fun y11 => _) = _
    rw [hmk, Option.bind_some, apd_ok (by simp only [List.length_nil]; omega), Option.bind_some, List.nil_append, apd_ok (by omega), Option.bind_some]
    have hl1 := l6x1 G (y.2.2.2.2.2.2.1 ++ G) y.2.2.1.length (by omega) (fun c hc => by rcases List.mem_append.1 hc with h | h; exact a1 c h; exact a2 c h) (by rw [List.length_append]; omega) (y.2.2.2.2.2.2.1 ++ G).length 0 (fun _ => 0) (by omega) (fun j => ⟨by omega, by rw [List.length_append]; omega⟩)
    rw [show ((0 : Nat) : Int) = 0 from rfl, List.drop_zero] at hl1
    rw [hl1]
    simp only [Option.bind_some, eqI_self]
    have hl2 := l6x2 G y.2.2.1.length (fun j => 0 + cov (y.2.2.2.2.2.2.1 ++ G) j) (by omega) (fun j hj => by
      rw [cov_app, a4 j, if_pos (by omega)]; rfl) y.2.2.1.length 0 (by omega)
    rw [show ((0 : Nat) : Int) = 0 from rfl] at hl2
    rw [hl2]
    simp only [Option.bind_some]
    have hl3 := l6x3 G (y.2.2.1.length : Int) (by omega) a2 (fun i h => sep_at (a3 (-1) (by omega)) i h) (by omega) G.length 0 (by omega)
    rw [show (((0 + 1 : Nat)) : Int) = 1 from rfl] at hl3
    rw [hl3]
    rfl
end Go.Proofs.Ytiglckehhfbliaa.Ev.U
namespace Go.Proofs.Ytiglckehhfbliaa.Ev
open Go Go.ChangeShapes Go.WideShapes Go.ChangeAt Go.RowKit
theorem own : ownKnob Try.prog.godebug = none := by kernel_rfl
theorem laidOut : laidOutB Try.prog = true := by kernel_rfl
theorem rtb {g : G} {w : World} {x : Value} {b : Bool} (h : RT g w retL x (.v (.bool b))) : x = .bool b := h
def vG : Value := .agg #[.int .i64 0, .int .u32 0, .slice none 0 0, .int .i64 0, .int .i64 0, .int .i64 0, .slice none 0 0, .int .i64 0, .int .i64 0, .int .u32 0, .int .u32 0, .int .u32 0, .int .i64 0, .int .i64 0, .int .i64 0, .int .i64 0, .int .i64 0, .bool false, .slice none 0 0, .slice none 0 0, .int .i64 0, .int .i64 0, .slice none 0 0, .int .i64 0]
end Go.Proofs.Ytiglckehhfbliaa.Ev
namespace Go.Proofs.Ytiglckehhfbliaa.Ev.U
open Go
theorem ef6 {x0 : (YSending : Ty).T} {d0 : D} (r0 : RepL (EF pg) (YSending) [] x0 [d0]) : EF pg 6 [d0] [] = some (.v (.bool true), []) := by
  obtain ⟨r, h1, h2⟩ := ef_b1 (show TOK1 (EF pg) (run1 E6 (EF pg)) (.par ⟨[.v (YSending)], .b⟩ (fun x => g6 x)) from o6) (by simp) rfl (x := x0) (ds := [d0]) rfl r0 (w6 x0)
  obtain rfl := eq_of_heq h2
  exact (v6 _).trans h1
end Go.Proofs.Ytiglckehhfbliaa.Ev.U
namespace Go.Proofs.Ytiglckehhfbliaa
open Go Go.ChangeShapes Go.WideShapes Go.ChangeAt Go.RowKit Go.Proofs.Ytiglckehhfbliaa.Ev
set_option maxRecDepth 100000 in
theorem lifted6 (os : Os) (started : os.Started) (H : Type) (enc : TypeId × Value → H) :
    ReturnsInHanded {} Try.checked os 6 .any (Rows.senderGapsSpec.pre6 enc Try.prog Try.f6 Rows.senderGapsRow.domain false) (Rows.senderGapsSpec.post enc Try.prog Try.f6 false true false false) := by
  refine returnsInHanded_of_change_sized (C := Try.checked) own started (by kernel_rfl) Try.func6
    (ChangeSpec.witness6 (enc := enc) (C := Try.checked) false ⟨#[], #[vG], []⟩ 8 (by kernel_rfl) (by kernel_rfl) (by kernel_rfl) (by kernel_rfl)) ?_
  intro W base args ds gs before hval0 hW hcnd hsz0 _
  have hval : ∀ (j : Nat) t v, Try.f6.params[j]? = some t → args[j]? = some v → Value.okWide Try.prog W .any base t v := hval0
  have hW' := hW
  obtain ⟨p, q, hA0, hV, rfl, hfz, hnd⟩ := hW
  have hA : DataW.TrodAll enc Try.prog W 0 (fun _ => true) true Try.f6.params.toList args.toList ds p := hA0
  rw [Try.params6] at hA hval
  obtain ⟨v0, vs0, d0, ds0, p0, q0, hargs, rfl, rfl, h0, r0⟩ := trodAll_cons hA
  obtain ⟨rfl, rfl, rfl⟩ := trodAll_nil r0
  obtain rfl : args = #[v0] := by cases args; simp_all
  obtain ⟨rfl, rfl⟩ := trodVars_none hV
  have lt0 : ∀ x ∈ p0, x.block < W.heap.size := by obtain ⟨m, hm⟩ := h0; exact DataW.trod_lt m _ _ _ hm
  obtain ⟨c0, g0, k0⟩ := open_arg (k := 8) (fun _ => rfl) (by kernel_rfl) (hval 0 32 v0 rfl rfl) h0
  obtain ⟨x0, e0⟩ := U.arg_u (P := EF U.pg) 8 (U.YSending) (by kernel_rfl) g0
  clear hA0 hval0 hsz0
  refine (run0 U.pg_ok (f := 6) (by decide) (U.ef6 e0) (W := W) (vs := #[v0]) rfl (fun i d hi => ?_)).mono fun e W' ⟨x, g', he, hr, bel⟩ => ?_
  · match i with
    | 0 => simp at hi; subst hi; exact ⟨v0, rfl, k0⟩
    | i + 1 => simp at hi
  · obtain rfl := rtb hr
    subst he
    exact ⟨_, rfl, _, _, _, [], _, [], hW', trodAll_mk1 (shut_bool Try.underlying4 _), trodAll_cons_mk (Below.trod laidOut (by kernel_rfl) (of_decide_eq_true (by kernel_rfl)) h0 bel lt0) trodAll_mk0, rfl, bel.frame _, fun h => by cases h⟩
/-- The law SenderGaps holds for every input. -/
theorem senderGaps_holds : Rows.SenderGapsSaid :=
  OpenClaim.holds_of_wide 6 Try.f6 rfl rfl rfl rfl rfl rfl rfl ⟨rfl, rfl, rfl, rfl, rfl⟩ rfl rfl rfl rfl rfl (by kernel_rfl) Try.func6 (by kernel_rfl)
    (of_decide_eq_true (by kernel_rfl)) (by unfold Func.isWrapper; first | (rw [if_pos (by decide +kernel)]; kernel_rfl) | (rw [if_neg (by decide +kernel)]; exact ⟨rfl, rfl⟩))
    (fun os started H enc _ => lifted6 os started H enc)
#print axioms senderGaps_holds
end Go.Proofs.Ytiglckehhfbliaa
