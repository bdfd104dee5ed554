/- The law SenderSame, as it is given: it returns true whatever it is given, and leaves it as it was. Conditions: none. -/
import Derived.Test.YtiglckehhfbliaaUk
import Derived.Test.YtiglckehhfbliaaFt14
import Derived.Test.YtiglckehhfbliaaUn
import Derived.Test.YtiglckehhfbliaaRows
import Derived.KernelRfl
set_option linter.all false
namespace Go.Proofs.Ytiglckehhfbliaa.Ev.U
open Go

theorem l45 (x y : List Int) (hl : x.length = y.length) (hb : x.length < 1000000000) : ∀ k i, i + k = x.length → lpU g45x0 (x, y, (x.length : Int), (i : Int)) = some (if x.drop i = y.drop i then .inl () else .inr false)
  | 0, i, hi => by
    have hd : decide ((i : Int) < (x.length : Int)) = false := decide_eq_false (by omega)
    rw [lp_end (x := .inl ()) (by simp only [g45x0, hd, Bool.false_eq_true, if_false])]
    rw [List.drop_of_length_le (by omega), List.drop_of_length_le (by omega), if_pos rfl]
  | k + 1, i, hi => by
    have hd : decide ((i : Int) < (x.length : Int)) = true := decide_eq_true (by omega)
    have h1 : i < x.length := by omega
    have hs := eq_step hl h1
    by_cases e : x[i] = y[i]'(by omega)
    · rw [lp_next (s' := (x, y, (x.length : Int), ((i + 1 : Nat) : Int))) (by
        simp [h1, g45x0, hd, idx_some' h1, idx_some' (show i < y.length by omega), e, wnext (show i < 1000000000000 by omega)]), l45 x y hl hb k (i + 1) (by omega)]
      congr 1
      simp only [hs, e, true_and]
    · rw [lp_end (x := .inr false) (by simp [h1, g45x0, hd, idx_some' h1, idx_some' (show i < y.length by omega), e])]
      rw [if_neg fun h => e (hs.1 h).1]
theorem w45 (x y : List Int) (hb : x.length < 1000000000) : g45 x y = some (decide (x = y)) := by
  unfold g45
  cases h : ((x.length : Int) != (y.length : Int)) with
  | true => rw [if_pos rfl, decide_eq_false (len_ne h)]
  | false =>
    have hl := len_eq h
    rw [if_neg (by simp), show ((0 : Int)) = ((0 : Nat) : Int) from rfl, l45 x y hl hb x.length 0 (by omega)]
    by_cases e : x = y
    · subst e; simp
    · simp [e]

theorem l48 (x y : List Claim) (hl : x.length = y.length) (hb : x.length < 1000000000) : ∀ k i, i + k = x.length → lpU g48x0 (x, y, (x.length : Int), (i : Int)) = some (if x.drop i = y.drop i then .inl () else .inr false)
  | 0, i, hi => by
    have hd : decide ((i : Int) < (x.length : Int)) = false := decide_eq_false (by omega)
    rw [lp_end (x := .inl ()) (by simp only [g48x0, hd, Bool.false_eq_true, if_false])]
    rw [List.drop_of_length_le (by omega), List.drop_of_length_le (by omega), if_pos rfl]
  | k + 1, i, hi => by
    have hd : decide ((i : Int) < (x.length : Int)) = true := decide_eq_true (by omega)
    have h1 : i < x.length := by omega
    have hs := eq_step hl h1
    have hc : ((x[i].1 == (y[i]'(by omega)).1) && ((x[i].2 == (y[i]'(by omega)).2) && true)) = decide (x[i] = y[i]'(by omega)) := by
      rw [Bool.eq_iff_iff]; simp [Prod.ext_iff]
    by_cases e : x[i] = y[i]'(by omega)
    · rw [lp_next (s' := (x, y, (x.length : Int), ((i + 1 : Nat) : Int))) (by
        simp only [g48x0, hd, if_true, idx_some' h1, idx_some' (show i < y.length by omega), Option.bind_some, hc, decide_eq_true e, Bool.not_true, Bool.false_eq_true, if_false, wnext (show i < 1000000000000 by omega)]), l48 x y hl hb k (i + 1) (by omega)]
      congr 1
      simp only [hs, e, true_and]
    · rw [lp_end (x := .inr false) (by simp only [g48x0, hd, if_true, idx_some' h1, idx_some' (show i < y.length by omega), Option.bind_some, hc, decide_eq_false e, Bool.not_false])]
      rw [if_neg fun h => e (hs.1 h).1]
theorem w48 (x y : List Claim) (hb : x.length < 1000000000) : g48 x y = some (decide (x = y)) := by
  unfold g48
  cases h : ((x.length : Int) != (y.length : Int)) with
  | true => rw [if_pos rfl, decide_eq_false (len_ne h)]
  | false =>
    have hl := len_eq h
    rw [if_neg (by simp), show ((0 : Int)) = ((0 : Nat) : Int) from rfl, l48 x y hl hb x.length 0 (by omega)]
    by_cases e : x = y
    · subst e; simp
    · simp [e]

theorem l49 (x y : List Int) (hl : x.length = y.length) (hb : x.length < 1000000000) : ∀ k i, i + k = x.length → lpU g49x0 (x, y, (x.length : Int), (i : Int)) = some (if x.drop i = y.drop i then .inl () else .inr false)
  | 0, i, hi => by
    have hd : decide ((i : Int) < (x.length : Int)) = false := decide_eq_false (by omega)
    rw [lp_end (x := .inl ()) (by simp only [g49x0, hd, Bool.false_eq_true, if_false])]
    rw [List.drop_of_length_le (by omega), List.drop_of_length_le (by omega), if_pos rfl]
  | k + 1, i, hi => by
    have hd : decide ((i : Int) < (x.length : Int)) = true := decide_eq_true (by omega)
    have h1 : i < x.length := by omega
    have hs := eq_step hl h1
    by_cases e : x[i] = y[i]'(by omega)
    · rw [lp_next (s' := (x, y, (x.length : Int), ((i + 1 : Nat) : Int))) (by
        simp [h1, g49x0, hd, idx_some' h1, idx_some' (show i < y.length by omega), e, wnext (show i < 1000000000000 by omega)]), l49 x y hl hb k (i + 1) (by omega)]
      congr 1
      simp only [hs, e, true_and]
    · rw [lp_end (x := .inr false) (by simp [h1, g49x0, hd, idx_some' h1, idx_some' (show i < y.length by omega), e])]
      rw [if_neg fun h => e (hs.1 h).1]
theorem w49 (x y : List Int) (hb : x.length < 1000000000) : g49 x y = some (decide (x = y)) := by
  unfold g49
  cases h : ((x.length : Int) != (y.length : Int)) with
  | true => rw [if_pos rfl, decide_eq_false (len_ne h)]
  | false =>
    have hl := len_eq h
    rw [if_neg (by simp), show ((0 : Int)) = ((0 : Nat) : Int) from rfl, l49 x y hl hb x.length 0 (by omega)]
    by_cases e : x = y
    · subst e; simp
    · simp [e]

/-- Are both the same? -/
def sameS (x y : Segment) : Bool := x.1 == y.1 && x.2.1 == y.2.1 && x.2.2.1 == y.2.2.1 && x.2.2.2.1 == y.2.2.2.1 && x.2.2.2.2.1 == y.2.2.2.2.1 && x.2.2.2.2.2.1 == y.2.2.2.2.2.1 && x.2.2.2.2.2.2.1 == y.2.2.2.2.2.2.1 && x.2.2.2.2.2.2.2.1 == y.2.2.2.2.2.2.2.1 && x.2.2.2.2.2.2.2.2.1 == y.2.2.2.2.2.2.2.2.1 && x.2.2.2.2.2.2.2.2.2.1 == y.2.2.2.2.2.2.2.2.2.1 && x.2.2.2.2.2.2.2.2.2.2.1 == y.2.2.2.2.2.2.2.2.2.2.1 && decide (x.2.2.2.2.2.2.2.2.2.2.2.1 = y.2.2.2.2.2.2.2.2.2.2.2.1) && decide (x.2.2.2.2.2.2.2.2.2.2.2.2 = y.2.2.2.2.2.2.2.2.2.2.2.2)
theorem sameS_iff (x y : Segment) : sameS x y = true ↔ x = y := by
  obtain ⟨x1, x2, x3, x4, x5, x6, x7, x8, x9, x10, x11, x12, x13⟩ := x
  obtain ⟨y1, y2, y3, y4, y5, y6, y7, y8, y9, y10, y11, y12, y13⟩ := y
  simp [sameS, Prod.ext_iff, and_assoc]
theorem sameS_self (x : Segment) : sameS x x = true := (sameS_iff x x).2 rfl
/-- Segments that are gone through. -/
structure SmS (x : Segment) : Prop where
  d : x.2.2.2.2.2.2.2.2.2.2.2.1.length < 1000000
  c : x.2.2.2.2.2.2.2.2.2.2.2.2.length < 1000000
theorem w50 (x y : Segment) (h : SmS x) : g50 x y = some (sameS x y) := by
  have hd := h.d
  have hc := h.c
  obtain ⟨x1, x2, x3, x4, x5, x6, x7, x8, x9, x10, x11, x12, x13⟩ := x
  obtain ⟨y1, y2, y3, y4, y5, y6, y7, y8, y9, y10, y11, y12, y13⟩ := y
  simp only at hd hc
  have e : ((x1 == y1) && ((x2 == y2) && ((x6 == y6) && ((x7 == y7) && ((x8 == y8) && ((x9 == y9) && ((x10 == y10) && ((x3 == y3) && ((x4 == y4) && ((x5 == y5) && ((x11 == y11) && true))))))))))) = (x1 == y1 && x2 == y2 && x3 == y3 && x4 == y4 && x5 == y5 && x6 == y6 && x7 == y7 && x8 == y8 && x9 == y9 && x10 == y10 && x11 == y11) := by
    simp only [Bool.and_true, Bool.true_and, Bool.and_assoc, Bool.and_comm, Bool.and_left_comm]
  simp only [g50, h71, e, w45 x12 y12 (by omega), w48 x13 y13 (by omega), sameS]
  generalize (x1 == y1 && x2 == y2 && x3 == y3 && x4 == y4 && x5 == y5 && x6 == y6 && x7 == y7 && x8 == y8 && x9 == y9 && x10 == y10 && x11 == y11) = c, decide (x12 = y12) = c1, decide (x13 = y13) = c2
  cases c <;> cases c1 <;> cases c2 <;> rfl
theorem l22 (x1 x2 x3 x4 x5 x6 x7 x8 x9 x10 : Int) (x11 : Bool) (x12 : List Int) (x13 : List Claim) (y1 y2 y3 y4 y5 y6 y7 y8 y9 y10 : Int) (y11 : Bool) (y12 : List Int) (y13 : List Claim) (hl : x13.length = y13.length) (hb : x13.length < 1000000000) : ∀ (k i : Nat), i + k = x13.length →
    lpU g22x0 ((x13.length : Int), (i : Int), x1, x2, x3, x4, x5, x6, x7, x8, x9, x10, x11, x12, x13, y1, y2, y3, y4, y5, y6, y7, y8, y9, y10, y11, y12, y13) = some (if x13.drop i = y13.drop i then .inl (x1, x2, x3, x4, x5, x6, x7, x8, x9, x10, x11, x12, x13, y1, y2, y3, y4, y5, y6, y7, y8, y9, y10, y11, y12, y13) else .inr false)
  | 0, i, hi => by
    have hd : decide ((i : Int) < (x13.length : Int)) = false := decide_eq_false (by omega)
    rw [lp_end (x := .inl (x1, x2, x3, x4, x5, x6, x7, x8, x9, x10, x11, x12, x13, y1, y2, y3, y4, y5, y6, y7, y8, y9, y10, y11, y12, y13)) (by simp only [g22x0, hd, Bool.false_eq_true, if_false])]
    rw [List.drop_of_length_le (by omega), List.drop_of_length_le (by omega), if_pos rfl]
  | k + 1, i, hi => by
    have hd : decide ((i : Int) < (x13.length : Int)) = true := decide_eq_true (by omega)
    have h1 : i < x13.length := by omega
    have hs := eq_step hl h1
    have hc : ((x13[i].1 == (y13[i]'(by omega)).1) && ((x13[i].2 == (y13[i]'(by omega)).2) && true)) = decide (x13[i] = y13[i]'(by omega)) := by
      rw [Bool.eq_iff_iff]; simp [Prod.ext_iff]
    by_cases e : x13[i] = y13[i]'(by omega)
    · rw [lp_next (s' := ((x13.length : Int), ((i + 1 : Nat) : Int), x1, x2, x3, x4, x5, x6, x7, x8, x9, x10, x11, x12, x13, y1, y2, y3, y4, y5, y6, y7, y8, y9, y10, y11, y12, y13)) (by
        simp only [g22x0, hd, if_true, idx_some' h1, idx_some' (show i < y13.length by omega), Option.bind_some, hc, decide_eq_true e, Bool.not_true, Bool.false_eq_true, if_false, wnext (show i < 1000000000000 by omega)]), l22 x1 x2 x3 x4 x5 x6 x7 x8 x9 x10 x11 x12 x13 y1 y2 y3 y4 y5 y6 y7 y8 y9 y10 y11 y12 y13 hl hb k (i + 1) (by omega)]
      congr 1
      simp only [hs, e, true_and]
    · rw [lp_end (x := .inr false) (by simp only [g22x0, hd, if_true, idx_some' h1, idx_some' (show i < y13.length by omega), Option.bind_some, hc, decide_eq_false e, Bool.not_false])]
      rw [if_neg fun h => e (hs.1 h).1]
theorem w22 (x y : Segment) (h : SmS x) : g22 x y = some (sameS x y) := by
  have hd := h.d
  have hc := h.c
  obtain ⟨x1, x2, x3, x4, x5, x6, x7, x8, x9, x10, x11, x12, x13⟩ := x
  obtain ⟨y1, y2, y3, y4, y5, y6, y7, y8, y9, y10, y11, y12, y13⟩ := y
  simp only at hd hc
  simp only [g22, sameS]
  by_cases hl : x13.length = y13.length
  · have := l22 x1 x2 x3 x4 x5 x6 x7 x8 x9 x10 x11 x12 x13 y1 y2 y3 y4 y5 y6 y7 y8 y9 y10 y11 y12 y13 hl (by omega) x13.length 0 (by omega)
    rw [show ((0 : Nat) : Int) = 0 from rfl] at this
    have hn : ((x13.length : Int) != (y13.length : Int)) = false := by simp [hl]
    rw [this, hn]
    simp only [List.drop_zero]
    by_cases h13 : x13 = y13
    · rw [if_pos h13, decide_eq_true h13]
      have e11 : ((x11 == y11) != false) = (x11 == y11) := by cases (x11 == y11) <;> rfl
      simp only [e11, Bool.false_eq_true, if_false, Option.bind_some, Bool.and_true]
      generalize (x1 == y1) = c1, (x2 == y2) = c2, (x3 == y3) = c3, (x4 == y4) = c4, (x5 == y5) = c5, (x6 == y6) = c6, (x7 == y7) = c7, (x8 == y8) = c8, (x9 == y9) = c9, (x10 == y10) = c10, (x11 == y11) = c11, decide (x12 = y12) = c12
      cases c1 <;> try rfl
      cases c2 <;> try rfl
      cases c3 <;> try rfl
      cases c4 <;> try rfl
      cases c5 <;> try rfl
      cases c6 <;> try rfl
      cases c7 <;> try rfl
      cases c8 <;> try rfl
      cases c9 <;> try rfl
      cases c10 <;> try rfl
      cases c11 <;> rfl
    · rw [if_neg h13, decide_eq_false h13, if_neg (by simp)]
      exact congrArg some (Bool.and_false _).symm
  · have hn : ((x13.length : Int) != (y13.length : Int)) = true := by simp; omega
    have h13 : decide (x13 = y13) = false := decide_eq_false fun e => hl (by rw [e])
    rw [hn, h13, if_pos rfl]
    exact congrArg some (Bool.and_false _).symm
/-! ### Claims -/

set_option maxRecDepth 4000 in
theorem l13x0 (a1 : Int) (a2 : Int) (a3 : List Int) (a4 : Int) (a5 : Int) (a6 : Int) (a7 : List Claim) (a8 : Int) (a9 : Int) (a10 : Int) (a11 : Int) (a12 : Int) (a13 : Int) (a14 : Int) (a15 : Int) (a16 : Int) (a17 : Int) (a18 : Bool) (a19 : List Int) (a20 : List Claim) (a21 : Int) (a22 : Int) (a23 : List Int) (a24 : Int) (b1 : Int) (b2 : Int) (b3 : List Int) (b4 : Int) (b5 : Int) (b6 : Int) (b7 : List Claim) (b8 : Int) (b9 : Int) (b10 : Int) (b11 : Int) (b12 : Int) (b13 : Int) (b14 : Int) (b15 : Int) (b16 : Int) (b17 : Int) (b18 : Bool) (b19 : List Int) (b20 : List Claim) (b21 : Int) (b22 : Int) (b23 : List Int) (b24 : Int) (hl : a7.length = b7.length) (hb : a7.length < 1000000000) : ∀ (k i : Nat), i + k = a7.length →
    lpU g13x0 ((a7.length : Int), (i : Int), a1, a2, a3, a4, a5, a6, a7, a8, a9, a10, a11, a12, a13, a14, a15, a16, a17, a18, a19, a20, a21, a22, a23, a24, b1, b2, b3, b4, b5, b6, b7, b8, b9, b10, b11, b12, b13, b14, b15, b16, b17, b18, b19, b20, b21, b22, b23, b24) = some (if a7.drop i = b7.drop i then (.inl (a1, a2, a3, a4, a5, a6, a7, a8, a9, a10, a11, a12, a13, a14, a15, a16, a17, a18, a19, a20, a21, a22, a23, a24, b1, b2, b3, b4, b5, b6, b7, b8, b9, b10, b11, b12, b13, b14, b15, b16, b17, b18, b19, b20, b21, b22, b23, b24)) else .inr false)
  | 0, i, hi => by
    have hd : decide ((i : Int) < (a7.length : Int)) = false := decide_eq_false (by omega)
    rw [lp_end (x := (.inl (a1, a2, a3, a4, a5, a6, a7, a8, a9, a10, a11, a12, a13, a14, a15, a16, a17, a18, a19, a20, a21, a22, a23, a24, b1, b2, b3, b4, b5, b6, b7, b8, b9, b10, b11, b12, b13, b14, b15, b16, b17, b18, b19, b20, b21, b22, b23, b24))) (by simp only [g13x0, hd, Bool.false_eq_true, if_false])]
    rw [List.drop_of_length_le (by omega), List.drop_of_length_le (by omega), if_pos rfl]
  | k + 1, i, hi => by
    have hd : decide ((i : Int) < (a7.length : Int)) = true := decide_eq_true (by omega)
    have h1 : i < a7.length := by omega
    have hs := eq_step hl h1
    have hc : ((a7[i].1 == (b7[i]'(by omega)).1) && ((a7[i].2 == (b7[i]'(by omega)).2) && true)) = decide (a7[i] = b7[i]'(by omega)) := by
      rw [Bool.eq_iff_iff]; simp [Prod.ext_iff]
    by_cases e : a7[i] = b7[i]'(by omega)
    · rw [lp_next (s' := ((a7.length : Int), ((i + 1 : Nat) : Int), a1, a2, a3, a4, a5, a6, a7, a8, a9, a10, a11, a12, a13, a14, a15, a16, a17, a18, a19, a20, a21, a22, a23, a24, b1, b2, b3, b4, b5, b6, b7, b8, b9, b10, b11, b12, b13, b14, b15, b16, b17, b18, b19, b20, b21, b22, b23, b24)) (by
        simp only [g13x0, hd, if_true, idx_some' h1, idx_some' (show i < b7.length by omega), Option.bind_some, hc, decide_eq_true e, Bool.not_true, Bool.false_eq_true, if_false, wnext (show i < 1000000000000 by omega)]), l13x0 a1 a2 a3 a4 a5 a6 a7 a8 a9 a10 a11 a12 a13 a14 a15 a16 a17 a18 a19 a20 a21 a22 a23 a24 b1 b2 b3 b4 b5 b6 b7 b8 b9 b10 b11 b12 b13 b14 b15 b16 b17 b18 b19 b20 b21 b22 b23 b24 hl hb k (i + 1) (by omega)]
      congr 1
      simp only [hs, e, true_and]
    · rw [lp_end (x := .inr false) (by simp only [g13x0, hd, if_true, idx_some' h1, idx_some' (show i < b7.length by omega), Option.bind_some, hc, decide_eq_false e, Bool.not_false])]
      rw [if_neg fun h => e (hs.1 h).1]

set_option maxRecDepth 4000 in
theorem l13x1 (a1 : Int) (a2 : Int) (a3 : List Int) (a4 : Int) (a5 : Int) (a6 : Int) (a7 : List Claim) (a8 : Int) (a9 : Int) (a10 : Int) (a11 : Int) (a12 : Int) (a13 : Int) (a14 : Int) (a15 : Int) (a16 : Int) (a17 : Int) (a18 : Bool) (a19 : List Int) (a20 : List Claim) (a21 : Int) (a22 : Int) (a23 : List Int) (a24 : Int) (b1 : Int) (b2 : Int) (b3 : List Int) (b4 : Int) (b5 : Int) (b6 : Int) (b7 : List Claim) (b8 : Int) (b9 : Int) (b10 : Int) (b11 : Int) (b12 : Int) (b13 : Int) (b14 : Int) (b15 : Int) (b16 : Int) (b17 : Int) (b18 : Bool) (b19 : List Int) (b20 : List Claim) (b21 : Int) (b22 : Int) (b23 : List Int) (b24 : Int) (hl : a23.length = b23.length) (hb : a23.length < 1000000000) : ∀ (k i : Nat), i + k = a23.length →
    lpU g13x1 ((a23.length : Int), (i : Int), a1, a2, a3, a4, a5, a6, a7, a8, a9, a10, a11, a12, a13, a14, a15, a16, a17, a18, a19, a20, a21, a22, a23, a24, b1, b2, b3, b4, b5, b6, b7, b8, b9, b10, b11, b12, b13, b14, b15, b16, b17, b18, b19, b20, b21, b22, b23, b24) = some (if a23.drop i = b23.drop i then .inl () else .inr false)
  | 0, i, hi => by
    have hd : decide ((i : Int) < (a23.length : Int)) = false := decide_eq_false (by omega)
    rw [lp_end (x := .inl ()) (by simp only [g13x1, hd, Bool.false_eq_true, if_false])]
    rw [List.drop_of_length_le (by omega), List.drop_of_length_le (by omega), if_pos rfl]
  | k + 1, i, hi => by
    have hd : decide ((i : Int) < (a23.length : Int)) = true := decide_eq_true (by omega)
    have h1 : i < a23.length := by omega
    have hs := eq_step hl h1
    have hc : (a23[i] != b23[i]'(by omega)) = !decide (a23[i] = b23[i]'(by omega)) := by
      rw [Bool.eq_iff_iff]; simp
    by_cases e : a23[i] = b23[i]'(by omega)
    · rw [lp_next (s' := ((a23.length : Int), ((i + 1 : Nat) : Int), a1, a2, a3, a4, a5, a6, a7, a8, a9, a10, a11, a12, a13, a14, a15, a16, a17, a18, a19, a20, a21, a22, a23, a24, b1, b2, b3, b4, b5, b6, b7, b8, b9, b10, b11, b12, b13, b14, b15, b16, b17, b18, b19, b20, b21, b22, b23, b24)) (by
        simp only [g13x1, hd, if_true, idx_some' h1, idx_some' (show i < b23.length by omega), Option.bind_some, hc, decide_eq_true e, Bool.not_true, Bool.false_eq_true, if_false, wnext (show i < 1000000000000 by omega)]), l13x1 a1 a2 a3 a4 a5 a6 a7 a8 a9 a10 a11 a12 a13 a14 a15 a16 a17 a18 a19 a20 a21 a22 a23 a24 b1 b2 b3 b4 b5 b6 b7 b8 b9 b10 b11 b12 b13 b14 b15 b16 b17 b18 b19 b20 b21 b22 b23 b24 hl hb k (i + 1) (by omega)]
      congr 1
      simp only [hs, e, true_and]
    · rw [lp_end (x := .inr false) (by simp only [g13x1, hd, if_true, idx_some' h1, idx_some' (show i < b23.length by omega), Option.bind_some, hc, decide_eq_false e, Bool.not_false])]
      rw [if_neg fun h => e (hs.1 h).1]

/-- Are both the same? -/
def sameG (a b : Sending) : Bool := a.1 == b.1 && a.2.1 == b.2.1 && decide (a.2.2.1 = b.2.2.1) && a.2.2.2.1 == b.2.2.2.1 && a.2.2.2.2.1 == b.2.2.2.2.1 && a.2.2.2.2.2.1 == b.2.2.2.2.2.1 && decide (a.2.2.2.2.2.2.1 = b.2.2.2.2.2.2.1) && sameS (a.2.2.2.2.2.2.2.1, a.2.2.2.2.2.2.2.2.1, a.2.2.2.2.2.2.2.2.2.1, a.2.2.2.2.2.2.2.2.2.2.1, a.2.2.2.2.2.2.2.2.2.2.2.1, a.2.2.2.2.2.2.2.2.2.2.2.2.1, a.2.2.2.2.2.2.2.2.2.2.2.2.2.1, a.2.2.2.2.2.2.2.2.2.2.2.2.2.2.1, a.2.2.2.2.2.2.2.2.2.2.2.2.2.2.2.1, a.2.2.2.2.2.2.2.2.2.2.2.2.2.2.2.2.1, a.2.2.2.2.2.2.2.2.2.2.2.2.2.2.2.2.2.1, a.2.2.2.2.2.2.2.2.2.2.2.2.2.2.2.2.2.2.1, a.2.2.2.2.2.2.2.2.2.2.2.2.2.2.2.2.2.2.2.1) (b.2.2.2.2.2.2.2.1, b.2.2.2.2.2.2.2.2.1, b.2.2.2.2.2.2.2.2.2.1, b.2.2.2.2.2.2.2.2.2.2.1, b.2.2.2.2.2.2.2.2.2.2.2.1, b.2.2.2.2.2.2.2.2.2.2.2.2.1, b.2.2.2.2.2.2.2.2.2.2.2.2.2.1, b.2.2.2.2.2.2.2.2.2.2.2.2.2.2.1, b.2.2.2.2.2.2.2.2.2.2.2.2.2.2.2.1, b.2.2.2.2.2.2.2.2.2.2.2.2.2.2.2.2.1, b.2.2.2.2.2.2.2.2.2.2.2.2.2.2.2.2.2.1, b.2.2.2.2.2.2.2.2.2.2.2.2.2.2.2.2.2.2.1, b.2.2.2.2.2.2.2.2.2.2.2.2.2.2.2.2.2.2.2.1) && a.2.2.2.2.2.2.2.2.2.2.2.2.2.2.2.2.2.2.2.2.1 == b.2.2.2.2.2.2.2.2.2.2.2.2.2.2.2.2.2.2.2.2.1 && a.2.2.2.2.2.2.2.2.2.2.2.2.2.2.2.2.2.2.2.2.2.1 == b.2.2.2.2.2.2.2.2.2.2.2.2.2.2.2.2.2.2.2.2.2.1 && decide (a.2.2.2.2.2.2.2.2.2.2.2.2.2.2.2.2.2.2.2.2.2.2.1 = b.2.2.2.2.2.2.2.2.2.2.2.2.2.2.2.2.2.2.2.2.2.2.1) && a.2.2.2.2.2.2.2.2.2.2.2.2.2.2.2.2.2.2.2.2.2.2.2 == b.2.2.2.2.2.2.2.2.2.2.2.2.2.2.2.2.2.2.2.2.2.2.2
theorem sameG_self (a : Sending) : sameG a a = true := by
  simp [sameG, sameS_self]
/-- Sessions that are gone through. -/
structure SmG (a : Sending) : Prop where
  b : a.2.2.1.length < 1000000
  g : a.2.2.2.2.2.2.1.length < 1000000
  s : a.2.2.2.2.2.2.2.2.2.2.2.2.2.2.2.2.2.2.2.2.2.2.1.length < 1000000
  d : a.2.2.2.2.2.2.2.2.2.2.2.2.2.2.2.2.2.2.1.length < 1000000
  c : a.2.2.2.2.2.2.2.2.2.2.2.2.2.2.2.2.2.2.2.1.length < 1000000
theorem five (p c3 c7 c23 c8 : Bool) : ((if p = true then some c3 else some false).bind fun y4 => (if (if p = true then y4 else false) = true then some c7 else some false).bind fun y6 => (if (if (if p = true then y4 else false) = true then y6 else false) = true then some c23 else some false).bind fun y8 => (if (if (if (if p = true then y4 else false) = true then y6 else false) = true then y8 else false) = true then some c8 else some false).bind fun y10 => some (if (if (if (if p = true then y4 else false) = true then y6 else false) = true then y8 else false) = true then y10 else false)) = some (p && (c3 && (c7 && (c23 && c8)))) := by
  cases p <;> cases c3 <;> cases c7 <;> cases c23 <;> cases c8 <;> rfl
theorem w18 (a b : Sending) (h : SmG a) : g18 a b = some (sameG a b) := by
  have hb := h.b
  have hg := h.g
  have hs := h.s
  have hd := h.d
  have hc := h.c
  obtain ⟨a1, a2, a3, a4, a5, a6, a7, a8, a9, a10, a11, a12, a13, a14, a15, a16, a17, a18, a19, a20, a21, a22, a23, a24⟩ := a
  obtain ⟨b1, b2, b3, b4, b5, b6, b7, b8, b9, b10, b11, b12, b13, b14, b15, b16, b17, b18, b19, b20, b21, b22, b23, b24⟩ := b
  simp only at hb hg hs hd hc
  simp only [g18, h47, w45 a3 b3 (by omega), w48 a7 b7 (by omega), w49 a23 b23 (by omega), w50 (a8, a9, a10, a11, a12, a13, a14, a15, a16, a17, a18, a19, a20) (b8, b9, b10, b11, b12, b13, b14, b15, b16, b17, b18, b19, b20) ⟨hd, hc⟩]
  refine (five _ _ _ _ _).trans (congrArg some ?_)
  simp only [sameG, Bool.and_true, Bool.and_assoc]
  rw [Bool.eq_iff_iff]
  simp only [Bool.and_eq_true]
  constructor <;> (intro h; simp only [h, and_self])

theorem ite_or (A B : Bool) : (if A = true then true else B) = (A || B) := by cases A <;> rfl
theorem ref13 (X s7 n7 n23 c7 c23 : Bool) (L : Option Bool) (hL : n7 = false → n23 = false → L = some (c7 && c23)) (h7 : n7 = true → c7 = false) (h23 : n23 = true → c23 = false) : ((if (!X) = true then some s7 else some false).bind fun y18 => if (if (if (if X = true then true else (!y18)) = true then true else n7) = true then true else n23) = true then some false else L) = some (!X && (s7 && (c7 && c23))) := by
  cases X
  · cases s7
    · rfl
    · cases n7
      · cases n23
        · exact (hL rfl rfl).trans (by simp)
        · rw [h23 rfl]; simp
      · rw [h7 rfl]; simp
  · rfl
set_option maxRecDepth 4000 in
theorem w13 (a b : Sending) (h : SmG a) : g13 a b = some (sameG a b) := by
  have hb := h.b
  have hg := h.g
  have hs := h.s
  have hd := h.d
  have hc := h.c
  obtain ⟨a1, a2, a3, a4, a5, a6, a7, a8, a9, a10, a11, a12, a13, a14, a15, a16, a17, a18, a19, a20, a21, a22, a23, a24⟩ := a
  obtain ⟨b1, b2, b3, b4, b5, b6, b7, b8, b9, b10, b11, b12, b13, b14, b15, b16, b17, b18, b19, b20, b21, b22, b23, b24⟩ := b
  simp only at hb hg hs hd hc
  simp only [g13, w22 (a8, a9, a10, a11, a12, a13, a14, a15, a16, a17, a18, a19, a20) (b8, b9, b10, b11, b12, b13, b14, b15, b16, b17, b18, b19, b20) ⟨hd, hc⟩]
  refine (ref13 _ _ _ _ (decide (a7 = b7)) (decide (a23 = b23)) _ (fun q1 q2 => ?_) (fun q => decide_eq_false (len_ne q)) (fun q => decide_eq_false (len_ne q))).trans (congrArg some ?_)
  · have t0 := l13x0 a1 a2 a3 a4 a5 a6 a7 a8 a9 a10 a11 a12 a13 a14 a15 a16 a17 a18 a19 a20 a21 a22 a23 a24 b1 b2 b3 b4 b5 b6 b7 b8 b9 b10 b11 b12 b13 b14 b15 b16 b17 b18 b19 b20 b21 b22 b23 b24 (len_eq q1) (by omega) a7.length 0 (by omega)
    have t1 := l13x1 a1 a2 a3 a4 a5 a6 a7 a8 a9 a10 a11 a12 a13 a14 a15 a16 a17 a18 a19 a20 a21 a22 a23 a24 b1 b2 b3 b4 b5 b6 b7 b8 b9 b10 b11 b12 b13 b14 b15 b16 b17 b18 b19 b20 b21 b22 b23 b24 (len_eq q2) (by omega) a23.length 0 (by omega)
    rw [show ((0 : Nat) : Int) = 0 from rfl] at t0 t1
    rw [t0]
    simp only [List.drop_zero] at t1 ⊢
    by_cases e7 : a7 = b7
    · rw [if_pos e7, decide_eq_true e7]
      simp only [Option.bind_some, t1]
      by_cases e23 : a23 = b23
      · rw [if_pos e23, decide_eq_true e23]; rfl
      · rw [if_neg e23, decide_eq_false e23]; rfl
    · rw [if_neg e7, decide_eq_false e7]; rfl
  · simp only [sameG, ite_or, Bool.not_or, bne, Bool.not_not, Bool.and_assoc]
    rw [Bool.eq_iff_iff]
    simp only [Bool.and_eq_true]
    constructor <;> (intro h; simp only [h, and_self])
theorem cut_take {α : Type} (xs : List α) (n : Int) (hn : 0 ≤ n) : cut xs 0 (if n < (xs.length : Int) then n else (xs.length : Int)) = some (xs.take n.toNat) := by
  unfold cut
  split
  · rename_i h
    rw [if_pos ⟨by omega, by omega, by omega⟩]
    rfl
  · rename_i h
    rw [if_pos ⟨by omega, by omega, by omega⟩]
    rw [List.take_of_length_le (by omega), List.take_of_length_le (by omega)]
    rfl

theorem w19 (a : Sending) (h : SmG a) : g19 a = some a := by
  have hb := h.b
  have hg := h.g
  have hs := h.s
  have hd := h.d
  have hc := h.c
  unfold g19
  rw [apd_ok (show (([] : List Int).length + a.2.2.1.length) * 1 ≤ 140737488355328 by simp; omega), Option.bind_some, apd_ok (show (([] : List Claim).length + a.2.2.2.2.2.2.1.length) * 16 ≤ 140737488355328 by simp; omega), Option.bind_some, apd_ok (show (([] : List Int).length + a.2.2.2.2.2.2.2.2.2.2.2.2.2.2.2.2.2.2.2.2.2.2.1.length) * 4 ≤ 140737488355328 by simp; omega), Option.bind_some, apd_ok (show (([] : List Int).length + a.2.2.2.2.2.2.2.2.2.2.2.2.2.2.2.2.2.2.1.length) * 1 ≤ 140737488355328 by simp; omega), Option.bind_some, apd_ok (show (([] : List Claim).length + a.2.2.2.2.2.2.2.2.2.2.2.2.2.2.2.2.2.2.2.1.length) * 16 ≤ 140737488355328 by simp; omega), Option.bind_some]
  simp only [List.nil_append]
/-- Sessions that are gone through are cut. -/
theorem w17 (a : Sending) : ∃ y, g17 a = some y ∧ SmG y := by
  unfold g17
  simp only [cut_take _ _ (show (0 : Int) ≤ 600 by omega), cut_take _ _ (show (0 : Int) ≤ 300 by omega), cut_take _ _ (show (0 : Int) ≤ 40 by omega), cut_take _ _ (show (0 : Int) ≤ 200 by omega), cut_take _ _ (show (0 : Int) ≤ 30 by omega), Option.bind_some]
  have key : ∀ y, SmG y → ∃ z, ((g19 y).bind fun y16 => some y16) = some z ∧ SmG z := fun y h => ⟨y, by rw [w19 y h]; rfl, h⟩
  exact key _ ⟨by simp only [List.length_take]; omega, by simp only [List.length_take]; omega, by simp only [List.length_take]; omega, by simp only [List.length_take]; omega, by simp only [List.length_take]; omega⟩
theorem w4 (a b : Sending) : g4 a b = some true := by
  obtain ⟨y, h1, h2⟩ := w17 a
  obtain ⟨z, h3, h4⟩ := w17 b
  unfold g4
  rw [if_neg (by simp), h1, h3]
  simp only [Option.bind_some, w18 y z h2, w13 y z h2, w19 y h2, beq_self_eq_true]
  show ((g18 y y).bind fun y8 => some y8) = some true
  rw [w18 y y h2, sameG_self]; rfl

end Go.Proofs.Ytiglckehhfbliaa.Ev.U
namespace Go.Proofs.Ytiglckehhfbliaa.Ev
open Go Go.ChangeShapes Go.WideShapes Go.ChangeAt Go.RowKit
theorem own : ownKnob Try.prog.godebug = none := by kernel_rfl
theorem laidOut : laidOutB Try.prog = true := by kernel_rfl
theorem rtb {g : G} {w : World} {x : Value} {b : Bool} (h : RT g w retL x (.v (.bool b))) : x = .bool b := h
def vG : Value := .agg #[.int .i64 0, .int .u32 0, .slice none 0 0, .int .i64 0, .int .i64 0, .int .i64 0, .slice none 0 0, .int .i64 0, .int .i64 0, .int .u32 0, .int .u32 0, .int .u32 0, .int .i64 0, .int .i64 0, .int .i64 0, .int .i64 0, .int .i64 0, .bool false, .slice none 0 0, .slice none 0 0, .int .i64 0, .int .i64 0, .slice none 0 0, .int .i64 0]
end Go.Proofs.Ytiglckehhfbliaa.Ev
namespace Go.Proofs.Ytiglckehhfbliaa.Ev.U
open Go
theorem ef4 {x0 : (YSending : Ty).T} {x1 : (YSending : Ty).T} {d0 d1 : D} (r0 : RepL (EF pg) (YSending) [] x0 [d0]) (r1 : RepL (EF pg) (YSending) [] x1 [d1]) : EF pg 4 [d0, d1] [] = some (.v (.bool true), []) := by
  obtain ⟨r, h1, h2⟩ := ef_b1 (show TOK1 (EF pg) (run1 E4 (EF pg)) (.par ⟨[.v (YSending), .v (YSending)], .b⟩ (fun x => g4 x.1 x.2)) from o4) (by simp) rfl (x := (x0, x1)) (ds := [d0, d1]) rfl ⟨⟨rfl, rfl⟩, _, _, rfl, r0, r1⟩ (w4 x0 x1)
  obtain rfl := eq_of_heq h2
  exact (v4 _).trans h1
end Go.Proofs.Ytiglckehhfbliaa.Ev.U
namespace Go.Proofs.Ytiglckehhfbliaa
open Go Go.ChangeShapes Go.WideShapes Go.ChangeAt Go.RowKit Go.Proofs.Ytiglckehhfbliaa.Ev
set_option maxRecDepth 100000 in
theorem lifted4 (os : Os) (started : os.Started) (H : Type) (enc : TypeId × Value → H) :
    ReturnsInHanded {} Try.checked os 4 .any (Rows.senderSameSpec.pre6 enc Try.prog Try.f4 Rows.senderSameRow.domain false) (Rows.senderSameSpec.post enc Try.prog Try.f4 false true false false) := by
  refine returnsInHanded_of_change_sized (C := Try.checked) own started (by kernel_rfl) Try.func4
    (ChangeSpec.witness6 (enc := enc) (C := Try.checked) false ⟨#[], #[vG, vG], []⟩ 8 (by kernel_rfl) (by kernel_rfl) (by kernel_rfl) (by kernel_rfl)) ?_
  intro W base args ds gs before hval0 hW hcnd hsz0 _
  have hval : ∀ (j : Nat) t v, Try.f4.params[j]? = some t → args[j]? = some v → Value.okWide Try.prog W .any base t v := hval0
  have hW' := hW
  obtain ⟨p, q, hA0, hV, rfl, hfz, hnd⟩ := hW
  have hA : DataW.TrodAll enc Try.prog W 0 (fun _ => true) true Try.f4.params.toList args.toList ds p := hA0
  rw [Try.params4] at hA hval
  obtain ⟨v0, vs0, d0, ds0, p0, q0, hargs, rfl, rfl, h0, r0⟩ := trodAll_cons hA
  obtain ⟨v1, vs1, d1, ds1, p1, q1, rfl, rfl, rfl, h1, r1⟩ := trodAll_cons r0
  obtain ⟨rfl, rfl, rfl⟩ := trodAll_nil r1
  obtain rfl : args = #[v0, v1] := by cases args; simp_all
  obtain ⟨rfl, rfl⟩ := trodVars_none hV
  have lt0 : ∀ x ∈ p0, x.block < W.heap.size := by obtain ⟨m, hm⟩ := h0; exact DataW.trod_lt m _ _ _ hm
  have lt1 : ∀ x ∈ p1, x.block < W.heap.size := by obtain ⟨m, hm⟩ := h1; exact DataW.trod_lt m _ _ _ hm
  obtain ⟨c0, g0, k0⟩ := open_arg (k := 8) (fun _ => rfl) (by kernel_rfl) (hval 0 32 v0 rfl rfl) h0
  obtain ⟨c1, g1, k1⟩ := open_arg (k := 8) (fun _ => rfl) (by kernel_rfl) (hval 1 32 v1 rfl rfl) h1
  obtain ⟨x0, e0⟩ := U.arg_u (P := EF U.pg) 8 (U.YSending) (by kernel_rfl) g0
  obtain ⟨x1, e1⟩ := U.arg_u (P := EF U.pg) 8 (U.YSending) (by kernel_rfl) g1
  clear hA0 hval0 hsz0
  refine (run0 U.pg_ok (f := 4) (by decide) (U.ef4 e0 e1) (W := W) (vs := #[v0, v1]) rfl (fun i d hi => ?_)).mono fun e W' ⟨x, g', he, hr, bel⟩ => ?_
  · match i with
    | 0 => simp at hi; subst hi; exact ⟨v0, rfl, k0⟩
    | 1 => simp at hi; subst hi; exact ⟨v1, rfl, k1⟩
    | i + 2 => simp at hi
  · obtain rfl := rtb hr
    subst he
    exact ⟨_, rfl, _, _, _, [], _, [], hW', trodAll_mk1 (shut_bool Try.underlying4 _), trodAll_cons_mk (Below.trod laidOut (by kernel_rfl) (of_decide_eq_true (by kernel_rfl)) h0 bel lt0) (trodAll_cons_mk (Below.trod laidOut (by kernel_rfl) (of_decide_eq_true (by kernel_rfl)) h1 bel lt1) trodAll_mk0), rfl, bel.frame _, fun h => by cases h⟩
/-- The law SenderSame holds for every input. -/
theorem senderSame_holds : Rows.SenderSameSaid :=
  OpenClaim.holds_of_wide 4 Try.f4 rfl rfl rfl rfl rfl rfl rfl ⟨rfl, rfl, rfl, rfl, rfl⟩ rfl rfl rfl rfl rfl (by kernel_rfl) Try.func4 (by kernel_rfl)
    (of_decide_eq_true (by kernel_rfl)) (by unfold Func.isWrapper; first | (rw [if_pos (by decide +kernel)]; kernel_rfl) | (rw [if_neg (by decide +kernel)]; exact ⟨rfl, rfl⟩))
    (fun os started H enc _ => lifted4 os started H enc)
#print axioms senderSame_holds
end Go.Proofs.Ytiglckehhfbliaa
