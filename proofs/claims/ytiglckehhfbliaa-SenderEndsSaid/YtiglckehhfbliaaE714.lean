/- The law SenderEnds, as it is given: it returns true whatever it is given, and leaves it as it was. Conditions: none. -/
import Derived.Test.YtiglckehhfbliaaGt14
import Derived.Test.YtiglckehhfbliaaUk
import Derived.Test.YtiglckehhfbliaaFt14
import Derived.Test.YtiglckehhfbliaaUn
import Derived.Test.YtiglckehhfbliaaRows
import Derived.KernelRfl
set_option linter.all false
namespace Go.Proofs.Ytiglckehhfbliaa.Ev.U
open Go

theorem l45 (x y : List Int) (hl : x.length = y.length) (hb : x.length < 1000000000) : ∀ k i, i + k = x.length → lpU g45x0 (x, y, (x.length : Int), (i : Int)) = some (if x.drop i = y.drop i then .inl () else .inr false)
  | 0, i, hi => by
    have hd : decide ((i : Int) < (x.length : Int)) = false := decide_eq_false (by omega)
    rw [lp_end (x := .inl ()) (by simp only [g45x0, hd, Bool.false_eq_true, if_false])]
    rw [List.drop_of_length_le (by omega), List.drop_of_length_le (by omega), if_pos rfl]
  | k + 1, i, hi => by
    have hd : decide ((i : Int) < (x.length : Int)) = true := decide_eq_true (by omega)
    have h1 : i < x.length := by omega
    have hs := eq_step hl h1
    by_cases e : x[i] = y[i]'(by omega)
    · rw [lp_next (s' := (x, y, (x.length : Int), ((i + 1 : Nat) : Int))) (by
        simp [h1, g45x0, hd, idx_some' h1, idx_some' (show i < y.length by omega), e, wnext (show i < 1000000000000 by omega)]), l45 x y hl hb k (i + 1) (by omega)]
      congr 1
      simp only [hs, e, true_and]
    · rw [lp_end (x := .inr false) (by simp [h1, g45x0, hd, idx_some' h1, idx_some' (show i < y.length by omega), e])]
      rw [if_neg fun h => e (hs.1 h).1]
theorem w45 (x y : List Int) (hb : x.length < 1000000000) : g45 x y = some (decide (x = y)) := by
  unfold g45
  cases h : ((x.length : Int) != (y.length : Int)) with
  | true => rw [if_pos rfl, decide_eq_false (len_ne h)]
  | false =>
    have hl := len_eq h
    rw [if_neg (by simp), show ((0 : Int)) = ((0 : Nat) : Int) from rfl, l45 x y hl hb x.length 0 (by omega)]
    by_cases e : x = y
    · subst e; simp
    · simp [e]

theorem l48 (x y : List Claim) (hl : x.length = y.length) (hb : x.length < 1000000000) : ∀ k i, i + k = x.length → lpU g48x0 (x, y, (x.length : Int), (i : Int)) = some (if x.drop i = y.drop i then .inl () else .inr false)
  | 0, i, hi => by
    have hd : decide ((i : Int) < (x.length : Int)) = false := decide_eq_false (by omega)
    rw [lp_end (x := .inl ()) (by simp only [g48x0, hd, Bool.false_eq_true, if_false])]
    rw [List.drop_of_length_le (by omega), List.drop_of_length_le (by omega), if_pos rfl]
  | k + 1, i, hi => by
    have hd : decide ((i : Int) < (x.length : Int)) = true := decide_eq_true (by omega)
    have h1 : i < x.length := by omega
    have hs := eq_step hl h1
    have hc : ((x[i].1 == (y[i]'(by omega)).1) && ((x[i].2 == (y[i]'(by omega)).2) && true)) = decide (x[i] = y[i]'(by omega)) := by
      rw [Bool.eq_iff_iff]; simp [Prod.ext_iff]
    by_cases e : x[i] = y[i]'(by omega)
    · rw [lp_next (s' := (x, y, (x.length : Int), ((i + 1 : Nat) : Int))) (by
        simp only [g48x0, hd, if_true, idx_some' h1, idx_some' (show i < y.length by omega), Option.bind_some, hc, decide_eq_true e, Bool.not_true, Bool.false_eq_true, if_false, wnext (show i < 1000000000000 by omega)]), l48 x y hl hb k (i + 1) (by omega)]
      congr 1
      simp only [hs, e, true_and]
    · rw [lp_end (x := .inr false) (by simp only [g48x0, hd, if_true, idx_some' h1, idx_some' (show i < y.length by omega), Option.bind_some, hc, decide_eq_false e, Bool.not_false])]
      rw [if_neg fun h => e (hs.1 h).1]
theorem w48 (x y : List Claim) (hb : x.length < 1000000000) : g48 x y = some (decide (x = y)) := by
  unfold g48
  cases h : ((x.length : Int) != (y.length : Int)) with
  | true => rw [if_pos rfl, decide_eq_false (len_ne h)]
  | false =>
    have hl := len_eq h
    rw [if_neg (by simp), show ((0 : Int)) = ((0 : Nat) : Int) from rfl, l48 x y hl hb x.length 0 (by omega)]
    by_cases e : x = y
    · subst e; simp
    · simp [e]

theorem l49 (x y : List Int) (hl : x.length = y.length) (hb : x.length < 1000000000) : ∀ k i, i + k = x.length → lpU g49x0 (x, y, (x.length : Int), (i : Int)) = some (if x.drop i = y.drop i then .inl () else .inr false)
  | 0, i, hi => by
    have hd : decide ((i : Int) < (x.length : Int)) = false := decide_eq_false (by omega)
    rw [lp_end (x := .inl ()) (by simp only [g49x0, hd, Bool.false_eq_true, if_false])]
    rw [List.drop_of_length_le (by omega), List.drop_of_length_le (by omega), if_pos rfl]
  | k + 1, i, hi => by
    have hd : decide ((i : Int) < (x.length : Int)) = true := decide_eq_true (by omega)
    have h1 : i < x.length := by omega
    have hs := eq_step hl h1
    by_cases e : x[i] = y[i]'(by omega)
    · rw [lp_next (s' := (x, y, (x.length : Int), ((i + 1 : Nat) : Int))) (by
        simp [h1, g49x0, hd, idx_some' h1, idx_some' (show i < y.length by omega), e, wnext (show i < 1000000000000 by omega)]), l49 x y hl hb k (i + 1) (by omega)]
      congr 1
      simp only [hs, e, true_and]
    · rw [lp_end (x := .inr false) (by simp [h1, g49x0, hd, idx_some' h1, idx_some' (show i < y.length by omega), e])]
      rw [if_neg fun h => e (hs.1 h).1]
theorem w49 (x y : List Int) (hb : x.length < 1000000000) : g49 x y = some (decide (x = y)) := by
  unfold g49
  cases h : ((x.length : Int) != (y.length : Int)) with
  | true => rw [if_pos rfl, decide_eq_false (len_ne h)]
  | false =>
    have hl := len_eq h
    rw [if_neg (by simp), show ((0 : Int)) = ((0 : Nat) : Int) from rfl, l49 x y hl hb x.length 0 (by omega)]
    by_cases e : x = y
    · subst e; simp
    · simp [e]

/-- Are both the same? -/
def sameS (x y : Segment) : Bool := x.1 == y.1 && x.2.1 == y.2.1 && x.2.2.1 == y.2.2.1 && x.2.2.2.1 == y.2.2.2.1 && x.2.2.2.2.1 == y.2.2.2.2.1 && x.2.2.2.2.2.1 == y.2.2.2.2.2.1 && x.2.2.2.2.2.2.1 == y.2.2.2.2.2.2.1 && x.2.2.2.2.2.2.2.1 == y.2.2.2.2.2.2.2.1 && x.2.2.2.2.2.2.2.2.1 == y.2.2.2.2.2.2.2.2.1 && x.2.2.2.2.2.2.2.2.2.1 == y.2.2.2.2.2.2.2.2.2.1 && x.2.2.2.2.2.2.2.2.2.2.1 == y.2.2.2.2.2.2.2.2.2.2.1 && decide (x.2.2.2.2.2.2.2.2.2.2.2.1 = y.2.2.2.2.2.2.2.2.2.2.2.1) && decide (x.2.2.2.2.2.2.2.2.2.2.2.2 = y.2.2.2.2.2.2.2.2.2.2.2.2)
theorem sameS_iff (x y : Segment) : sameS x y = true ↔ x = y := by
  obtain ⟨x1, x2, x3, x4, x5, x6, x7, x8, x9, x10, x11, x12, x13⟩ := x
  obtain ⟨y1, y2, y3, y4, y5, y6, y7, y8, y9, y10, y11, y12, y13⟩ := y
  simp [sameS, Prod.ext_iff, and_assoc]
theorem sameS_self (x : Segment) : sameS x x = true := (sameS_iff x x).2 rfl
/-- Segments that are gone through. -/
structure SmS (x : Segment) : Prop where
  d : x.2.2.2.2.2.2.2.2.2.2.2.1.length < 1000000
  c : x.2.2.2.2.2.2.2.2.2.2.2.2.length < 1000000
theorem w50 (x y : Segment) (h : SmS x) : g50 x y = some (sameS x y) := by
  have hd := h.d
  have hc := h.c
  obtain ⟨x1, x2, x3, x4, x5, x6, x7, x8, x9, x10, x11, x12, x13⟩ := x
  obtain ⟨y1, y2, y3, y4, y5, y6, y7, y8, y9, y10, y11, y12, y13⟩ := y
  simp only at hd hc
  have e : ((x1 == y1) && ((x2 == y2) && ((x6 == y6) && ((x7 == y7) && ((x8 == y8) && ((x9 == y9) && ((x10 == y10) && ((x3 == y3) && ((x4 == y4) && ((x5 == y5) && ((x11 == y11) && true))))))))))) = (x1 == y1 && x2 == y2 && x3 == y3 && x4 == y4 && x5 == y5 && x6 == y6 && x7 == y7 && x8 == y8 && x9 == y9 && x10 == y10 && x11 == y11) := by
    simp only [Bool.and_true, Bool.true_and, Bool.and_assoc, Bool.and_comm, Bool.and_left_comm]
  simp only [g50, h71, e, w45 x12 y12 (by omega), w48 x13 y13 (by omega), sameS]
  generalize (x1 == y1 && x2 == y2 && x3 == y3 && x4 == y4 && x5 == y5 && x6 == y6 && x7 == y7 && x8 == y8 && x9 == y9 && x10 == y10 && x11 == y11) = c, decide (x12 = y12) = c1, decide (x13 = y13) = c2
  cases c <;> cases c1 <;> cases c2 <;> rfl
/-- Sessions that are gone through. -/
structure SmG (a : Sending) : Prop where
  b : a.2.2.1.length < 1000000
  g : a.2.2.2.2.2.2.1.length < 1000000
  s : a.2.2.2.2.2.2.2.2.2.2.2.2.2.2.2.2.2.2.2.2.2.2.1.length < 1000000
  d : a.2.2.2.2.2.2.2.2.2.2.2.2.2.2.2.2.2.2.1.length < 1000000
  c : a.2.2.2.2.2.2.2.2.2.2.2.2.2.2.2.2.2.2.2.1.length < 1000000
theorem cut_take {α : Type} (xs : List α) (n : Int) (hn : 0 ≤ n) : cut xs 0 (if n < (xs.length : Int) then n else (xs.length : Int)) = some (xs.take n.toNat) := by
  unfold cut
  split
  · rename_i h
    rw [if_pos ⟨by omega, by omega, by omega⟩]
    rfl
  · rename_i h
    rw [if_pos ⟨by omega, by omega, by omega⟩]
    rw [List.take_of_length_le (by omega), List.take_of_length_le (by omega)]
    rfl

theorem w19 (a : Sending) (h : SmG a) : g19 a = some a := by
  have hb := h.b
  have hg := h.g
  have hs := h.s
  have hd := h.d
  have hc := h.c
  unfold g19
  rw [apd_ok (show (([] : List Int).length + a.2.2.1.length) * 1 ≤ 140737488355328 by simp; omega), Option.bind_some, apd_ok (show (([] : List Claim).length + a.2.2.2.2.2.2.1.length) * 16 ≤ 140737488355328 by simp; omega), Option.bind_some, apd_ok (show (([] : List Int).length + a.2.2.2.2.2.2.2.2.2.2.2.2.2.2.2.2.2.2.2.2.2.2.1.length) * 4 ≤ 140737488355328 by simp; omega), Option.bind_some, apd_ok (show (([] : List Int).length + a.2.2.2.2.2.2.2.2.2.2.2.2.2.2.2.2.2.2.1.length) * 1 ≤ 140737488355328 by simp; omega), Option.bind_some, apd_ok (show (([] : List Claim).length + a.2.2.2.2.2.2.2.2.2.2.2.2.2.2.2.2.2.2.2.1.length) * 16 ≤ 140737488355328 by simp; omega), Option.bind_some]
  simp only [List.nil_append]
/-- Sessions that are gone through are cut. -/
theorem w17 (a : Sending) : ∃ y, g17 a = some y ∧ SmG y := by
  unfold g17
  simp only [cut_take _ _ (show (0 : Int) ≤ 600 by omega), cut_take _ _ (show (0 : Int) ≤ 300 by omega), cut_take _ _ (show (0 : Int) ≤ 40 by omega), cut_take _ _ (show (0 : Int) ≤ 200 by omega), cut_take _ _ (show (0 : Int) ≤ 30 by omega), Option.bind_some]
  have key : ∀ y, SmG y → ∃ z, ((g19 y).bind fun y16 => some y16) = some z ∧ SmG z := fun y h => ⟨y, by rw [w19 y h]; rfl, h⟩
  exact key _ ⟨by simp only [List.length_take]; omega, by simp only [List.length_take]; omega, by simp only [List.length_take]; omega, by simp only [List.length_take]; omega, by simp only [List.length_take]; omega⟩
end Go.Proofs.Ytiglckehhfbliaa.Ev.U
namespace Go.Proofs.Ytiglckehhfbliaa.Ev.U
open Go
def chain (tot : Int) : Int → List Claim → Bool
  | _, [] => true
  | e, c :: r => decide (c.2 > 0) && decide (c.1 > e) && decide (c.1 ≤ tot) && decide (c.2 ≤ tot - c.1) && chain tot (c.1 + c.2) r
theorem chain_cons {tot e : Int} {c : Claim} {r : List Claim} : chain tot e (c :: r) = true ↔ 0 < c.2 ∧ e < c.1 ∧ c.1 + c.2 ≤ tot ∧ chain tot (c.1 + c.2) r = true := by
  simp only [chain, Bool.and_eq_true, decide_eq_true_eq]
  constructor
  · rintro ⟨⟨⟨⟨h1, h2⟩, h3⟩, h4⟩, h5⟩; exact ⟨by omega, by omega, by omega, h5⟩
  · rintro ⟨h1, h2, h3, h5⟩; exact ⟨⟨⟨⟨by omega, by omega⟩, by omega⟩, by omega⟩, h5⟩
def inB (x a b : Int) : Bool := decide (a ≤ x) && decide (x ≤ b)
def claimB (lo hi : Int) (l : List Claim) : Bool := decide ((l.length : Int) ≤ 20) && chain hi (lo - 1) l
theorem l69 (hi : Int) (l l0 : List Claim) (hb : l.length < 1000000000) (hh : 1 ≤ hi ∧ hi ≤ 512) : ∀ (k i : Nat) (e : Int), i + k = l.length → -1 ≤ e → lpU g69x0 (l0, hi, e, l, (l.length : Int), (i : Int)) = some (if chain hi e (l.drop i) then .inl l0 else .inr false)
  | 0, i, e, hi', he => by
    have hd : decide ((i : Int) < (l.length : Int)) = false := decide_eq_false (by omega)
    rw [lp_end (x := .inl l0) (by simp only [g69x0, hd, Bool.false_eq_true, if_false])]
    rw [List.drop_of_length_le (by omega)]; rfl
  | k + 1, i, e, hi', he => by
    have hd : decide ((i : Int) < (l.length : Int)) = true := decide_eq_true (by omega)
    have h1 : i < l.length := by omega
    obtain ⟨c, hc⟩ : ∃ c, l[i] = c := ⟨_, rfl⟩
    have hx : idx l (i : Int) = some c := by rw [idx_some' h1, hc]
    rw [drop_cons' h1, hc]
    by_cases hg : 0 < c.2 ∧ e < c.1 ∧ c.1 + c.2 ≤ hi
    · have q1 : decide (c.2 < 1) = false := decide_eq_false (by omega)
      have q2 : decide (c.1 ≤ e) = false := decide_eq_false (by omega)
      have q3 : decide (c.1 ≥ hi) = false := decide_eq_false (by omega)
      have q4 : decide (c.2 > IntKind.i64.wrap (hi - c.1)) = false := by rw [wi64 (by omega)]; exact decide_eq_false (by omega)
      rw [lp_next (s' := (l0, hi, c.1 + c.2, l, (l.length : Int), ((i + 1 : Nat) : Int))) (by
        simp only [g69x0, hd, if_true, hx, Option.bind_some, q1, q2, q3, q4, Bool.false_eq_true, if_false, wnext (show i < 1000000000000 by omega), wi64 (show -9223372036854775808 ≤ c.1 + c.2 ∧ c.1 + c.2 ≤ 9223372036854775807 by omega)]),
        l69 hi l l0 hb hh k (i + 1) (c.1 + c.2) (by omega) (by omega)]
      have : chain hi e (c :: l.drop (i + 1)) = chain hi (c.1 + c.2) (l.drop (i + 1)) := by
        simp only [chain, decide_eq_true (show c.2 > 0 by omega), decide_eq_true (show c.1 > e by omega), decide_eq_true (show c.1 ≤ hi by omega), decide_eq_true (show c.2 ≤ hi - c.1 by omega), Bool.true_and]
      rw [this]
    · have hcond : (if (if (if (decide (c.2 < (1 : Int))) then true else (decide (c.1 ≤ e))) then true else (decide (c.1 ≥ hi))) then true else (decide (c.2 > (IntKind.i64.wrap (hi - c.1))))) = true := by
        cases q1 : decide (c.2 < 1)
        · cases q2 : decide (c.1 ≤ e)
          · cases q3 : decide (c.1 ≥ hi)
            · have := of_decide_eq_false q1
              have := of_decide_eq_false q2
              have := of_decide_eq_false q3
              rw [wi64 (by omega)]
              simp only [Bool.false_eq_true, if_false]
              exact decide_eq_true (by omega)
            · rfl
          · rfl
        · rfl
      rw [lp_end (x := .inr false) (by simp only [g69x0, hd, if_true, hx, Option.bind_some, hcond])]
      have : chain hi e (c :: l.drop (i + 1)) = false := by
        cases hq : chain hi e (c :: l.drop (i + 1)) with
        | false => rfl
        | true => obtain ⟨q1, q2, q3, q4⟩ := chain_cons.1 hq; exact absurd ⟨q1, q2, q3⟩ hg
      rw [this]; rfl
theorem w69 (l : List Claim) (lo hi : Int) (hb : l.length < 1000000000) (hh : 1 ≤ hi ∧ hi ≤ 512) (hlo : 0 ≤ lo ∧ lo ≤ 512) : g69 l lo hi = some (claimB lo hi l) := by
  unfold g69
  have := l69 hi l l hb hh l.length 0 (lo - 1) (by omega) (by omega)
  rw [show ((0 : Nat) : Int) = 0 from rfl, List.drop_zero] at this
  rw [wi64 (by omega), this]
  unfold claimB
  cases chain hi (lo - 1) l
  · rw [Bool.and_false]; rfl
  · rw [Bool.and_true]; rfl
theorem w68 (x a b : Int) : h68 x a b = inB x a b := by
  show (if decide (x ≥ a) = true then decide (x ≤ b) else false) = (decide (x ≥ a) && decide (x ≤ b))
  cases decide (x ≥ a) <;> rfl
def onlyF (x : Segment) : Segment :=
  if x.1 = 1 then (x.1, x.2.1, x.2.2.1, x.2.2.2.1, 0, x.2.2.2.2.2.1, x.2.2.2.2.2.2.1, 0, 0, 0, x.2.2.2.2.2.2.2.2.2.2.1, x.2.2.2.2.2.2.2.2.2.2.2.1, [])
  else if x.1 = 2 then (x.1, x.2.1, x.2.2.1, x.2.2.2.1, x.2.2.2.2.1, 0, 0, x.2.2.2.2.2.2.2.1, x.2.2.2.2.2.2.2.2.1, 0, false, [], x.2.2.2.2.2.2.2.2.2.2.2.2)
  else if x.1 = 3 then (x.1, x.2.1, x.2.2.1, x.2.2.2.1, 0, 0, 0, 0, 0, 0, false, [], [])
  else if x.1 = 4 ∨ x.1 = 6 then (x.1, x.2.1, x.2.2.1, 0, 0, 0, 0, 0, 0, x.2.2.2.2.2.2.2.2.2.1, false, [], [])
  else (x.1, x.2.1, x.2.2.1, 0, 0, 0, 0, 0, 0, 0, false, [], [])
def kindB (x : Segment) : Bool :=
  if x.1 = 1 then inB x.2.2.2.2.2.2.1 1 512 && inB (x.2.2.2.2.2.2.2.2.2.2.2.1.length : Int) 1 100 && inB x.2.2.2.2.2.1 0 (x.2.2.2.2.2.2.1 - x.2.2.2.2.2.2.2.2.2.2.2.1.length) && (x.2.2.2.2.2.2.2.2.2.2.1 == decide (x.2.2.2.1 > 0))
  else if x.1 = 2 then decide (x.2.2.2.1 > 0) && decide (x.2.2.2.2.1 > 0) && inB x.2.2.2.2.2.2.2.2.1 1 512 && inB x.2.2.2.2.2.2.2.1 0 (x.2.2.2.2.2.2.2.2.1 - 1) && claimB x.2.2.2.2.2.2.2.1 x.2.2.2.2.2.2.2.2.1 x.2.2.2.2.2.2.2.2.2.2.2.2
  else if x.1 = 3 then decide (x.2.2.2.1 > 0)
  else if x.1 = 4 ∨ x.1 = 6 then inB x.2.2.2.2.2.2.2.2.2.1 0 255
  else decide (x.1 = 5 ∨ x.1 = 7)
def headB (x : Segment) : Bool := inB x.2.1 1 6 && decide (x.2.2.1 > 0)
def segOk (x : Segment) : Bool := headB x && kindB x && sameS x (onlyF x)
theorem fin30 (ok : Bool) (x o : Segment) (h : SmS x) : ((if (!(!ok)) = true then g50 x o else some false).bind fun y40 => if (if (!ok) = true then true else (!y40)) = true then some (200 : Int) else some 0) = some (if ok && sameS x o then 0 else 200) := by
  cases ok with
  | false => rfl
  | true =>
    rw [w50 x o h]
    cases hq : sameS x o <;> simp [hq]
theorem b33' (x : Bool) : (x != false) = x := by cases x <;> rfl
theorem if_and (a b : Bool) : (if a = true then b else false) = (a && b) := by cases a <;> rfl
theorem w44 (x : Segment) (h : SmS x) : g44 x = some (if segOk x then 0 else 200) := by
  have hd := h.d
  have hc := h.c
  have fin := fun ok o => fin30 ok x o h
  obtain ⟨x1, x2, x3, x4, x5, x6, x7, x8, x9, x10, x11, x12, x13⟩ := x
  simp only at hd hc fin
  have hh : (if inB x2 1 6 = true then decide (x3 > 0) else false) = headB (x1, x2, x3, x4, x5, x6, x7, x8, x9, x10, x11, x12, x13) := if_and _ _
  simp only [g44, w68, hh]
  unfold segOk
  generalize headB (x1, x2, x3, x4, x5, x6, x7, x8, x9, x10, x11, x12, x13) = hb
  by_cases k1 : x1 = 1
  · subst k1
    simp only [beq_self_eq_true, if_true, Option.bind_some, fin]
    simp only [kindB, onlyF, if_true, b33']
    congr 2
    rw [eq_iff_iff]
    suffices hs : (if (if (if (if hb = true then inB x7 1 512 else false) = true then inB (x12.length : Int) 1 100 else false) = true then inB x6 0 (IntKind.i64.wrap (x7 - (x12.length : Int))) else false) = true then (x11 == decide (x4 > 0)) else false) = (hb && (inB x7 1 512 && inB (x12.length : Int) 1 100 && inB x6 0 (x7 - (x12.length : Int)) && (x11 == decide (x4 > 0)))) by rw [hs]
    cases hb with
    | false => rfl
    | true =>
      cases q1 : inB x7 1 512 with
      | false => rfl
      | true =>
        simp only [inB, Bool.and_eq_true, decide_eq_true_eq] at q1
        rw [wi64 (by omega)]
        cases inB (x12.length : Int) 1 100 <;> cases inB x6 0 (x7 - (x12.length : Int)) <;> simp
  · have e1 : (x1 == 1) = false := by simpa using k1
    simp only [e1, Bool.false_eq_true, if_false, kindB, onlyF, if_neg k1]
    by_cases k2 : x1 = 2
    · subst k2
      simp only [beq_self_eq_true, if_true]
      have hx : (if (if (if (if (if hb = true then decide (x4 > 0) else false) = true then decide (x5 > 0) else false) = true then inB x9 1 512 else false) = true then inB x8 0 (IntKind.i64.wrap (x9 - 1)) else false) = true then g69 x13 x8 x9 else some false) = some ((hb && (decide (x4 > 0) && decide (x5 > 0) && inB x9 1 512 && inB x8 0 (x9 - 1))) && claimB x8 x9 x13) := by
        cases hb with
        | false => rfl
        | true =>
          cases decide (x4 > 0) with
          | false => rfl
          | true =>
            cases decide (x5 > 0) with
            | false => rfl
            | true =>
              cases q1 : inB x9 1 512 with
              | false => rfl
              | true =>
                simp only [inB, Bool.and_eq_true, decide_eq_true_eq] at q1
                rw [wi64 (by omega)]
                cases q2 : inB x8 0 (x9 - 1) with
                | false => rfl
                | true =>
                  simp only [inB, Bool.and_eq_true, decide_eq_true_eq] at q2
                  simp only [if_true, Bool.true_and]
                  exact w69 x13 x8 x9 (by omega) (by omega) (by omega)
      have hy : ∀ y : Bool, (if (if (if (if (if hb = true then decide (x4 > 0) else false) = true then decide (x5 > 0) else false) = true then inB x9 1 512 else false) = true then inB x8 0 (IntKind.i64.wrap (x9 - 1)) else false) = true then y else false) = ((hb && (decide (x4 > 0) && decide (x5 > 0) && inB x9 1 512 && inB x8 0 (x9 - 1))) && y) := by
        intro y
        cases hb with
        | false => rfl
        | true =>
          cases decide (x4 > 0) with
          | false => rfl
          | true =>
            cases decide (x5 > 0) with
            | false => rfl
            | true =>
              cases q1 : inB x9 1 512 with
              | false => rfl
              | true =>
                simp only [inB, Bool.and_eq_true, decide_eq_true_eq] at q1
                rw [wi64 (by omega)]
                cases inB x8 0 (x9 - 1) <;> rfl
      simp only [hx, hy, Option.bind_some, fin]
      congr 2
      rw [eq_iff_iff]
      generalize (decide (x4 > 0) && decide (x5 > 0) && inB x9 1 512 && inB x8 0 (x9 - 1)) = c1, claimB x8 x9 x13 = c2
      cases hb <;> cases c1 <;> cases c2 <;> simp
    · have e2 : (x1 == 2) = false := by simpa using k2
      simp only [e2, Bool.false_eq_true, if_false, if_neg k2]
      by_cases k3 : x1 = 3
      · subst k3
        simp only [beq_self_eq_true, if_true, Option.bind_some, fin, if_and]
      · have e3 : (x1 == 3) = false := by simpa using k3
        simp only [e3, Bool.false_eq_true, if_false, if_neg k3]
        by_cases k4 : x1 = 4
        · subst k4
          simp only [beq_self_eq_true, if_true, Option.bind_some, fin, if_and, true_or]
        · have e4 : (x1 == 4) = false := by simpa using k4
          simp only [e4, Bool.false_eq_true, if_false]
          by_cases k6 : x1 = 6
          · subst k6
            simp only [beq_self_eq_true, if_true, Option.bind_some, fin, if_and, or_true]
          · have e6 : (x1 == 6) = false := by simpa using k6
            simp only [e6, Option.bind_some, Bool.false_eq_true, if_false, if_neg (show ¬ (x1 = 4 ∨ x1 = 6) by omega)]
            by_cases k5 : x1 = 5
            · subst k5
              simp only [beq_self_eq_true, if_true, Option.bind_some, fin, true_or, decide_true, Bool.and_true]
            · have e5 : (x1 == 5) = false := by simpa using k5
              simp only [e5, Bool.false_eq_true, if_false]
              by_cases k7 : x1 = 7
              · subst k7
                simp only [beq_self_eq_true, if_true, Option.bind_some, fin, or_true, decide_true, Bool.and_true]
              · have e7 : (x1 == 7) = false := by simpa using k7
                simp only [e7, Bool.false_eq_true, if_false, Option.bind_some, fin]
                rw [decide_eq_false (show ¬ (x1 = 5 ∨ x1 = 7) by omega)]
                simp
end Go.Proofs.Ytiglckehhfbliaa.Ev.U
namespace Go.Proofs.Ytiglckehhfbliaa.Ev.U
open Go
theorem l43 (n : Int) (l : List Claim) (hb : l.length < 1000000000) (hn : 0 ≤ n ∧ n ≤ 1000000) : ∀ (k i : Nat) (e : Int), i + k = l.length → -1 ≤ e → lpU g43x0 (n, e, l, (l.length : Int), (i : Int)) = some (if chain n e (l.drop i) = true then .inl () else .inr false)
  | 0, i, e, hi, he => by
    have hd : decide ((i : Int) < (l.length : Int)) = false := decide_eq_false (by omega)
    rw [lp_end (x := .inl ()) (by simp only [g43x0, hd, Bool.false_eq_true, if_false])]
    rw [List.drop_of_length_le (by omega)]
    rfl
  | k + 1, i, e, hi, he => by
    have hd : decide ((i : Int) < (l.length : Int)) = true := decide_eq_true (by omega)
    have h1 : i < l.length := by omega
    rw [drop_cons' h1]
    obtain ⟨x, y, hc⟩ : ∃ x y, l[i] = (x, y) := ⟨_, _, rfl⟩
    by_cases ok : 0 < y ∧ e < x ∧ x + y ≤ n
    · have c1 : decide (y < 1) = false := decide_eq_false (by omega)
      have c2 : decide (x ≤ e) = false := decide_eq_false (by omega)
      have c3 : decide (x ≥ n) = false := decide_eq_false (by omega)
      have c4 : decide (y > IntKind.i64.wrap (n - x)) = false := by rw [wi64 (by omega)]; exact decide_eq_false (by omega)
      rw [lp_next (s' := (n, x + y, l, (l.length : Int), ((i + 1 : Nat) : Int))) (by
        simp only [g43x0, hd, if_true, idx_some' h1, Option.bind_some, hc, c1, c2, c3, c4, Bool.false_eq_true, if_false, wnext (show i < 1000000000000 by omega), wi64 (show -9223372036854775808 ≤ x + y ∧ x + y ≤ 9223372036854775807 by omega)]), l43 n l hb hn k (i + 1) (x + y) (by omega) (by omega)]
      congr 1
      have : chain n e (l[i] :: l.drop (i + 1)) = chain n (x + y) (l.drop (i + 1)) := by
        rw [Bool.eq_iff_iff, chain_cons, hc]
        simp only [ok, true_and]
      rw [this]
    · rw [lp_end (x := .inr false) (by
        have hcond : (if (if (if decide (y < 1) = true then true else decide (x ≤ e)) = true then true else decide (x ≥ n)) = true then true else decide (y > IntKind.i64.wrap (n - x))) = true := by
          by_cases q1 : y < 1
          · rw [decide_eq_true q1]; rfl
          · rw [decide_eq_false q1]
            by_cases q2 : x ≤ e
            · rw [decide_eq_true q2]; rfl
            · rw [decide_eq_false q2]
              by_cases q3 : x ≥ n
              · rw [decide_eq_true q3]; rfl
              · rw [decide_eq_false q3, wi64 (by omega)]
                exact decide_eq_true (by omega)
        simp only [g43x0, hd, if_true, idx_some' h1, Option.bind_some, hc, hcond])]
      rw [if_neg]
      rw [chain_cons, hc]
      exact fun h => ok ⟨h.1, h.2.1, h.2.2.1⟩
theorem w43 (l : List Claim) (n : Int) (hb : l.length < 1000000000) (hn : 0 ≤ n ∧ n ≤ 1000000) : g43 l n = some (chain n (-1) l) := by
  unfold g43
  have := l43 n l hb hn l.length 0 (-1) (by omega) (by omega)
  rw [show ((0 : Nat) : Int) = 0 from rfl, List.drop_zero] at this
  rw [this]
  cases chain n (-1) l <;> rfl
theorem w42 (x a b : Int) : h42 x a b = inB x a b := by
  show (if decide (x ≥ a) = true then decide (x ≤ b) else false) = (decide (x ≥ a) && decide (x ≤ b))
  cases decide (x ≥ a) <;> rfl
theorem l70 (l : List Int) (x : Int) (hb : l.length < 1000000000) : ∀ (k i : Nat), i + k = l.length → ∃ z : Unit ⊕ Int, lpU g70x0 (l, x, (l.length : Int), (i : Int)) = some z ∧ ((∃ u, z = .inl u ∧ ¬ x ∈ l.drop i) ∨ (∃ j, z = .inr j ∧ 0 ≤ j ∧ x ∈ l.drop i))
  | 0, i, hi => by
    have hd : decide ((i : Int) < (l.length : Int)) = false := decide_eq_false (by omega)
    refine ⟨Sum.inl (), lp_end (x := Sum.inl ()) (by simp only [g70x0, hd, Bool.false_eq_true, if_false]), .inl ⟨(), rfl, ?_⟩⟩
    rw [List.drop_of_length_le (by omega)]
    simp
  | k + 1, i, hi => by
    have hd : decide ((i : Int) < (l.length : Int)) = true := decide_eq_true (by omega)
    have h1 : i < l.length := by omega
    rw [drop_cons' h1]
    by_cases e : x = l[i]
    · refine ⟨Sum.inr (i : Int), lp_end (x := Sum.inr (i : Int)) ?_, .inr ⟨_, rfl, by omega, by rw [e]; exact List.mem_cons_self ..⟩⟩
      have : (x == l[i]) = true := by simpa using e
      simp only [g70x0, hd, if_true, idx_some' h1, Option.bind_some, this]
    · obtain ⟨z, z1, z2⟩ := l70 l x hb k (i + 1) (by omega)
      have hne : (x == l[i]) = false := by simpa using e
      refine ⟨z, ?_, ?_⟩
      · rw [lp_next (s' := (l, x, (l.length : Int), ((i + 1 : Nat) : Int))) (by simp only [g70x0, hd, if_true, idx_some' h1, Option.bind_some, hne, Bool.false_eq_true, if_false, wnext (show i < 1000000000000 by omega)])]
        exact z1
      · rcases z2 with ⟨u, q1, q2⟩ | ⟨j, q1, q2, q3⟩
        · exact .inl ⟨u, q1, fun h => by rcases List.mem_cons.1 h with h | h; exact e h; exact q2 h⟩
        · exact .inr ⟨j, q1, q2, List.mem_cons_of_mem _ q3⟩
theorem w46 (l : List Int) (x : Int) (hb : l.length < 1000000000) : g46 l x = some (decide (x ∈ l)) := by
  unfold g46 g70
  obtain ⟨z, z1, z2⟩ := l70 l x hb l.length 0 (by omega)
  rw [show ((0 : Nat) : Int) = 0 from rfl] at z1
  rw [z1]
  rw [List.drop_zero] at z2
  rcases z2 with ⟨u, rfl, q⟩ | ⟨j, rfl, q1, q2⟩
  · rw [decide_eq_false q]; rfl
  · rw [decide_eq_true q2]
    show some (decide (j ≥ 0)) = some true
    rw [decide_eq_true q1]
/-- May a session be? -/
noncomputable def rightG (a : Sending) : Bool := h35 (a.1, a.2.1, a.2.2.1, a.2.2.2.1, a.2.2.2.2.1) && (inB a.2.2.2.2.2.1 1 4 && (chain (a.2.2.1.length : Int) (-1) a.2.2.2.2.2.2.1 && (segOk (a.2.2.2.2.2.2.2.1, a.2.2.2.2.2.2.2.2.1, a.2.2.2.2.2.2.2.2.2.1, a.2.2.2.2.2.2.2.2.2.2.1, a.2.2.2.2.2.2.2.2.2.2.2.1, a.2.2.2.2.2.2.2.2.2.2.2.2.1, a.2.2.2.2.2.2.2.2.2.2.2.2.2.1, a.2.2.2.2.2.2.2.2.2.2.2.2.2.2.1, a.2.2.2.2.2.2.2.2.2.2.2.2.2.2.2.1, a.2.2.2.2.2.2.2.2.2.2.2.2.2.2.2.2.1, a.2.2.2.2.2.2.2.2.2.2.2.2.2.2.2.2.2.1, a.2.2.2.2.2.2.2.2.2.2.2.2.2.2.2.2.2.2.1, a.2.2.2.2.2.2.2.2.2.2.2.2.2.2.2.2.2.2.2.1) && (a.2.2.2.2.2.2.2.1 == 1 && (a.2.2.2.2.2.2.2.2.2.2.2.2.2.2.2.2.2.1 && (a.2.2.2.2.2.2.2.2.1 == a.1 && (a.2.2.2.2.2.2.2.2.2.1 == a.2.1 && (a.2.2.2.2.2.2.2.2.2.2.2.2.2.1 == (a.2.2.1.length : Int) && (decide (a.2.2.2.2.2.2.2.2.2.2.2.2.2.2.2.2.2.2.1 = (a.2.2.1.drop a.2.2.2.2.2.2.2.2.2.2.2.2.1.toNat).take a.2.2.2.2.2.2.2.2.2.2.2.2.2.2.2.2.2.2.1.length) && (inB a.2.2.2.2.2.2.2.2.2.2.2.2.2.2.2.2.2.2.2.2.1 0 1114112 && (inB a.2.2.2.2.2.2.2.2.2.2.2.2.2.2.2.2.2.2.2.2.2.1 0 a.2.2.2.2.1 && (!decide ((a.2.2.2.2.2.2.2.2.2.2.2.2.2.2.2.2.2.2.2.2.2.2.1.length : Int) > 32) && (!decide ((0 : Int) ∈ a.2.2.2.2.2.2.2.2.2.2.2.2.2.2.2.2.2.2.2.2.2.2.1) && inB a.2.2.2.2.2.2.2.2.2.2.2.2.2.2.2.2.2.2.2.2.2.2.2 0 255)))))))))))))
theorem cut_ok {α : Type} {xs : List α} {lo hi : Int} (h : 0 ≤ lo ∧ lo ≤ hi ∧ hi ≤ (xs.length : Int)) : cut xs lo hi = some ((xs.take hi.toNat).drop lo.toNat) := if_pos h
theorem fin15 (y20 q1 q2 q3 q4 q5 : Bool) : (if (!y20) = true then some (240 : Int) else
  (let x23 := !q1
  if x23 = true then (if x23 = true then some (240 : Int) else some 0) else
  (let x25 := !q2
  if x25 = true then (if x25 = true then some (240 : Int) else some 0) else
  (let x27 := q3
  if x27 = true then (if x27 = true then some (240 : Int) else some 0) else
  (some q4).bind fun y28 => if y28 = true then (if y28 = true then some (240 : Int) else some 0) else if (!q5) = true then some (240 : Int) else some 0)))) = some (if (y20 && (q1 && (q2 && (!q3 && (!q4 && q5))))) = true then 0 else 240) := by
  cases y20 <;> cases q1 <;> cases q2 <;> cases q3 <;> cases q4 <;> cases q5 <;> rfl
set_option maxRecDepth 4000 in
theorem w15 (a : Sending) (h : SmG a) : g15 a = some (if rightG a = true then 0 else 240) := by
  have hb := h.b
  have hg := h.g
  have hs := h.s
  have hd := h.d
  have hc := h.c
  obtain ⟨a1, a2, a3, a4, a5, a6, a7, a8, a9, a10, a11, a12, a13, a14, a15, a16, a17, a18, a19, a20, a21, a22, a23, a24⟩ := a
  simp only at hb hg hs hd hc
  show g15 _ = some (if (h35 (a1, a2, a3, a4, a5) && (inB a6 1 4 && (chain (a3.length : Int) (-1) a7 && (segOk (a8, a9, a10, a11, a12, a13, a14, a15, a16, a17, a18, a19, a20) && (a8 == 1 && (a18 && (a9 == a1 && (a10 == a2 && (a14 == (a3.length : Int) && (decide (a19 = (a3.drop a13.toNat).take a19.length) && (inB a21 0 1114112 && (inB a22 0 a5 && (!decide ((a23.length : Int) > 32) && (!decide ((0 : Int) ∈ a23) && inB a24 0 255)))))))))))))) = true then 0 else 240)
  unfold g15
  simp only [w42, w43 a7 (a3.length : Int) (by omega) (by omega)]
  cases q1 : h35 (a1, a2, a3, a4, a5) with
  | false => rfl
  | true =>
  cases q2 : inB a6 1 4 with
  | false => rfl
  | true =>
  cases q3 : chain (a3.length : Int) (-1) a7 with
  | false => rfl
  | true =>
  simp only [Bool.not_true, Bool.not_false, Bool.false_eq_true, if_false, if_true, Option.bind_some, w44 (a8, a9, a10, a11, a12, a13, a14, a15, a16, a17, a18, a19, a20) ⟨hd, hc⟩, Bool.true_and]
  cases q4 : segOk (a8, a9, a10, a11, a12, a13, a14, a15, a16, a17, a18, a19, a20) with
  | false => rfl
  | true =>
  cases q5 : (a8 == 1) with
  | false =>
    have : (a8 != 1) = true := by rw [bne, q5]; rfl
    simp only [Bool.not_true, Bool.false_eq_true, if_false, if_true, Option.bind_some, bne_self_eq_false, this, Bool.false_and, Bool.and_false]
  | true =>
  have q5' : (a8 != 1) = false := by rw [bne, q5]; rfl
  cases a18 with
  | false => simp only [Bool.not_true, Bool.not_false, Bool.false_eq_true, if_false, if_true, Option.bind_some, bne_self_eq_false, q5', Bool.false_and, Bool.and_false]
  | true =>
  cases q6 : (a9 == a1) with
  | false =>
    have : (a9 != a1) = true := by rw [bne, q6]; rfl
    simp only [Bool.not_true, Bool.not_false, Bool.false_eq_true, if_false, if_true, Option.bind_some, bne_self_eq_false, q5', this, Bool.false_and, Bool.and_false]
  | true =>
  have q6' : (a9 != a1) = false := by rw [bne, q6]; rfl
  cases q7 : (a10 == a2) with
  | false =>
    have : (a10 != a2) = true := by rw [bne, q7]; rfl
    simp only [Bool.not_true, Bool.not_false, Bool.false_eq_true, if_false, if_true, Option.bind_some, bne_self_eq_false, q5', q6', this, Bool.false_and, Bool.and_false]
  | true =>
  have q7' : (a10 != a2) = false := by rw [bne, q7]; rfl
  cases q8 : (a14 == (a3.length : Int)) with
  | false =>
    have : (a14 != (a3.length : Int)) = true := by rw [bne, q8]; rfl
    simp only [Bool.not_true, Bool.not_false, Bool.false_eq_true, if_false, if_true, Option.bind_some, bne_self_eq_false, q5', q6', q7', this, Bool.false_and, Bool.and_false]
  | true =>
  have q8' : (a14 != (a3.length : Int)) = false := by rw [bne, q8]; rfl
  have e8 : a8 = 1 := by simpa using q5
  have e14 : a14 = (a3.length : Int) := by simpa using q8
  have hoff : 0 ≤ a13 ∧ a13 ≤ a14 - (a19.length : Int) := by
    have h1 := q4
    simp only [segOk, Bool.and_eq_true] at h1
    replace h1 := h1.1.2
    unfold kindB at h1
    rw [if_pos e8] at h1
    simp only [Bool.and_eq_true, inB, decide_eq_true_eq] at h1
    exact h1.1.2
  simp only [Bool.not_true, Bool.not_false, Bool.false_eq_true, if_false, if_true, Option.bind_some, bne_self_eq_false, q5', q6', q7', q8', Bool.true_and]
  rw [cut_ok ⟨hoff.1, by omega, by omega⟩, Option.bind_some, cut_ok ⟨by omega, by omega, by simp; omega⟩, Option.bind_some]
  have ed : ((((a3.take (a3.length : Int).toNat).drop a13.toNat).take (a19.length : Int).toNat).drop (0 : Int).toNat) = (a3.drop a13.toNat).take a19.length := by
    rw [Int.toNat_natCast, Int.toNat_natCast, List.take_length]; rfl
  rw [ed, w45 a19 _ (by omega), Option.bind_some, w46 a23 0 (by omega)]
  exact fin15 _ _ _ _ _ _
end Go.Proofs.Ytiglckehhfbliaa.Ev.U
namespace Go.Proofs.Ytiglckehhfbliaa.Ev.U
open Go

theorem w63 (x : List Int) (hb : x.length < 1000000000) : g63 x = some x := by
  unfold g63
  rw [amb_e fun h => by
    obtain rfl : x = [] := by simpa using h
    rfl]
  rw [if_neg (by simp), apd_ok (by simp; omega)]; rfl
theorem w65 (x : List Claim) (hb : x.length < 1000000000) : g65 x = some x := by
  unfold g65
  rw [amb_e fun h => by
    obtain rfl : x = [] := by simpa using h
    rfl]
  rw [if_neg (by simp), apd_ok (by simp; omega)]; rfl
theorem w66 (x : List Int) (hb : x.length < 1000000000) : g66 x = some x := by
  unfold g66
  rw [amb_e fun h => by
    obtain rfl : x = [] := by simpa using h
    rfl]
  rw [if_neg (by simp), apd_ok (by simp; omega)]; rfl
theorem w38 (a : Sending) (h : SmG a) : g38 a = some a := by
  have hb := h.b
  have hg := h.g
  have hs := h.s
  have hd := h.d
  unfold g38
  rw [w63 _ (by omega), Option.bind_some, w65 _ (by omega), Option.bind_some, w66 _ (by omega), Option.bind_some, w63 _ (by omega)]
  rfl
theorem w36 (n : Int) : h36 n = inB n 0 1048576 := w42 n 0 1048576
theorem w51 (a : Sending) (now : Int) (h : SmG a) (hr : rightG a = true) (hn : 0 ≤ now ∧ now ≤ 1048576) : g51 a now = some 0 := by
  unfold g51
  rw [w15 a h, hr, w36]
  have : inB now 0 1048576 = true := by simp only [inB, Bool.and_eq_true, decide_eq_true_eq]; exact hn
  rw [this]
  rfl
/-- A session of a block. -/
def mkS (src sess : Int) (bl : List Int) (w t st off : Int) (data : List Int) (due asked reason : Int) : Sending := (src, sess, bl, w, t, st, [], 1, src, sess, 1, 0, off, (bl.length : Int), 0, 0, 0, true, data, [], due, asked, [], reason)
structure Vs (src sess : Int) (bl : List Int) (w t off : Int) (data : List Int) : Prop where
  hsrc : 1 ≤ src ∧ src ≤ 6
  hsess : 0 < sess
  hbl : 1 ≤ (bl.length : Int) ∧ (bl.length : Int) ≤ 512
  hw : 1 ≤ w ∧ w ≤ 4096
  ht : 1 ≤ t ∧ t ≤ 16
  hoff : 0 ≤ off ∧ off + (data.length : Int) ≤ (bl.length : Int)
  hlen : 1 ≤ (data.length : Int) ∧ (data.length : Int) ≤ 100
  hdata : data = (bl.drop off.toNat).take data.length
section
variable {src sess w t off : Int} {bl data : List Int}
theorem inB_of {x a b : Int} (h : a ≤ x ∧ x ≤ b) : inB x a b = true := by simp only [inB, Bool.and_eq_true, decide_eq_true_eq]; exact h
theorem smS (h : Vs src sess bl w t off data) {st due asked reason : Int} : SmG (mkS src sess bl w t st off data due asked reason) := by
  have h1 := h.hbl
  have h2 := h.hlen
  exact ⟨by show bl.length < 1000000; omega, by show 0 < 1000000; omega, by show 0 < 1000000; omega, by show data.length < 1000000; omega, by show 0 < 1000000; omega⟩
theorem rS (h : Vs src sess bl w t off data) {st due asked reason : Int} (h1 : 1 ≤ st ∧ st ≤ 4) (h2 : 0 ≤ due ∧ due ≤ 1114112) (h3 : 0 ≤ asked ∧ asked ≤ t) (h4 : 0 ≤ reason ∧ reason ≤ 255) : rightG (mkS src sess bl w t st off data due asked reason) = true := by
  have hbl := h.hbl
  have hlen := h.hlen
  have hoff := h.hoff
  have e35 : h35 (src, sess, bl, w, t) = true := by
    unfold h35
    simp only [w42, inB_of h.hsrc, decide_eq_true (show sess > 0 from h.hsess), inB_of hbl, inB_of h.hw, inB_of h.ht, if_true]
  have eseg : segOk (1, src, sess, 1, 0, off, (bl.length : Int), 0, 0, 0, true, data, []) = true := by
    unfold segOk headB kindB onlyF
    simp only [if_true, inB_of h.hsrc, decide_eq_true (show sess > 0 from h.hsess), inB_of hbl, inB_of hlen, inB_of (show 0 ≤ off ∧ off ≤ (bl.length : Int) - (data.length : Int) by omega), sameS_self]
    rfl
  have ed : decide (data = (bl.drop off.toNat).take data.length) = true := decide_eq_true h.hdata
  unfold rightG mkS
  simp only [e35, eseg, inB_of h1, inB_of h2, inB_of h3, inB_of h4, ed]
  simp [chain]
/-- A tick ahead of its moment. -/
theorem tick0 (h : Vs src sess bl w t off data) {st due asked reason now : Int} (h1 : 1 ≤ st ∧ st ≤ 4) (h2 : 0 ≤ due ∧ due ≤ 1114112) (h3 : 0 ≤ asked ∧ asked ≤ t) (h4 : 0 ≤ reason ∧ reason ≤ 255) (hn : 0 ≤ now ∧ now ≤ 1048576) (hd : now < due) :
    g28 (mkS src sess bl w t st off data due asked reason) now = some (mkS src sess bl w t st off data due asked reason, [], 0) := by
  have hc : (if (if (st != 1) = true then (st != 3) else false) = true then true else decide (now < due)) = true := by
    rw [decide_eq_true hd]
    have : ∀ b : Bool, (if b = true then true else true) = true := by intro b; cases b <;> rfl
    exact this _
  unfold g28
  rw [w51 _ _ (smS h) (rS h h1 h2 h3 h4) hn, Option.bind_some, if_neg (by simp), w38 _ (smS h), Option.bind_some]
  exact if_pos hc
theorem noW {st due now : Int} (h : st = 1 ∨ st = 3) (hd : due ≤ now) : (if (if (st != 1) = true then (st != 3) else false) = true then true else decide (now < due)) = false := by
  rw [decide_eq_false (show ¬ now < due by omega)]
  rcases h with rfl | rfl <;> rfl
/-- It is asked again. -/
theorem tick1 (h : Vs src sess bl w t off data) {due asked reason now : Int} (h2 : 0 ≤ due ∧ due ≤ now) (h3 : 0 ≤ asked ∧ asked < t) (h4 : 0 ≤ reason ∧ reason ≤ 255) (hn : 0 ≤ now ∧ now ≤ 1000000) :
    ∃ x, g28 (mkS src sess bl w t 1 off data due asked reason) now = some (mkS src sess bl w t 1 off data (now + w) (asked + 1) reason, [x], 0) := by
  have hw := h.hw
  have ht := h.ht
  have hlen := h.hlen
  have hc := noW (.inl rfl) h2.2 (st := 1)
  have ha : (asked == t) = false := by simp; omega
  refine ⟨(1, src, sess, 1, 0, off, (bl.length : Int), 0, 0, 0, true, data, []), ?_⟩
  unfold g28
  rw [w51 _ _ (smS h) (rS h (by omega) (by omega) (by omega) h4) (by omega), Option.bind_some, if_neg (by simp), w38 _ (smS h), Option.bind_some]
  unfold mkS
  simp only [hc, ha, Bool.false_eq_true, if_false, w63 data (by omega), wi64 (show -9223372036854775808 ≤ asked + 1 ∧ asked + 1 ≤ 9223372036854775807 by omega), wi64 (show -9223372036854775808 ≤ now + w ∧ now + w ≤ 9223372036854775807 by omega), Option.bind_some]
  rfl
/-- It is given up. -/
theorem tick2 (h : Vs src sess bl w t off data) {due reason now : Int} (h2 : 0 ≤ due ∧ due ≤ now) (h4 : 0 ≤ reason ∧ reason ≤ 255) (hn : 0 ≤ now ∧ now ≤ 1000000) :
    ∃ x, g28 (mkS src sess bl w t 1 off data due t reason) now = some (mkS src sess bl w t 3 off data (now + w) 0 1, [x], 0) := by
  have hw := h.hw
  have ht := h.ht
  have hlen := h.hlen
  have hc := noW (.inl rfl) h2.2 (st := 1)
  refine ⟨h62 (mkS src sess bl w t 3 off data (now + w) 0 1), ?_⟩
  unfold g28
  rw [w51 _ _ (smS h) (rS h (by omega) (by omega) (by omega) h4) (by omega), Option.bind_some, if_neg (by simp), w38 _ (smS h), Option.bind_some]
  unfold mkS
  simp only [hc, beq_self_eq_true, Bool.false_eq_true, if_false, if_true, h61, wi64 (show -9223372036854775808 ≤ now + w ∧ now + w ≤ 9223372036854775807 by omega)]
/-- It is told again that it is given up. -/
theorem tick3 (h : Vs src sess bl w t off data) {due asked reason now : Int} (h2 : 0 ≤ due ∧ due ≤ now) (h3 : 0 ≤ asked ∧ asked < t) (h4 : 0 ≤ reason ∧ reason ≤ 255) (hn : 0 ≤ now ∧ now ≤ 1000000) :
    ∃ x, g28 (mkS src sess bl w t 3 off data due asked reason) now = some (mkS src sess bl w t 3 off data (now + w) (asked + 1) reason, [x], 0) := by
  have hw := h.hw
  have ht := h.ht
  have hlen := h.hlen
  have hc := noW (.inr rfl) h2.2 (st := 3)
  have ha : (asked == t) = false := by simp; omega
  refine ⟨h62 (mkS src sess bl w t 3 off data (now + w) (asked + 1) reason), ?_⟩
  unfold g28
  rw [w51 _ _ (smS h) (rS h (by omega) (by omega) (by omega) h4) (by omega), Option.bind_some, if_neg (by simp), w38 _ (smS h), Option.bind_some]
  unfold mkS
  simp only [hc, ha, Bool.false_eq_true, if_false, wi64 (show -9223372036854775808 ≤ asked + 1 ∧ asked + 1 ≤ 9223372036854775807 by omega), wi64 (show -9223372036854775808 ≤ now + w ∧ now + w ≤ 9223372036854775807 by omega)]
  rfl
/-- It is over. -/
theorem tick4 (h : Vs src sess bl w t off data) {due reason now : Int} (h2 : 0 ≤ due ∧ due ≤ now) (h4 : 0 ≤ reason ∧ reason ≤ 255) (hn : 0 ≤ now ∧ now ≤ 1000000) :
    g28 (mkS src sess bl w t 3 off data due t reason) now = some (mkS src sess bl w t 4 off data due t reason, [], 0) := by
  have hw := h.hw
  have ht := h.ht
  have hc := noW (.inr rfl) h2.2 (st := 3)
  unfold g28
  rw [w51 _ _ (smS h) (rS h (by omega) (by omega) (by omega) h4) (by omega), Option.bind_some, if_neg (by simp), w38 _ (smS h), Option.bind_some]
  unfold mkS
  simp only [hc, beq_self_eq_true, Bool.false_eq_true, if_false, if_true]
  rfl
end
end Go.Proofs.Ytiglckehhfbliaa.Ev.U
namespace Go.Proofs.Ytiglckehhfbliaa.Ev.U
open Go
theorem idx_last {α : Type} (p : List α) (v : α) : idx (p ++ [v]) (p.length : Int) = some v := by rw [idx_nat]; simp
theorem set_last {α : Type} (p : List α) (u v : α) : (p ++ [u]).set p.length v = p ++ [v] := by simp
theorem cut_part (l : List Int) (a m : Int) (h : 0 ≤ a ∧ a ≤ m ∧ m ≤ (l.length : Int)) : cut l a m = some ((l.drop a.toNat).take (m - a).toNat) := by
  rw [cut_ok h, List.drop_take]
  congr 2
  omega
set_option maxRecDepth 4000 in
theorem l37 (a1 : Int) (a2 : Int) (a3 : List Int) (a4 : Int) (a5 : Int) (a6 : Int) (a7 : List Claim) (a8 : Int) (a9 : Int) (a10 : Int) (a11 : Int) (a12 : Int) (a13 : Int) (a14 : Int) (a15 : Int) (a16 : Int) (a17 : Int) (a18 : Bool) (a19 : List Int) (a20 : List Claim) (a21 : Int) (a22 : Int) (a23 : List Int) (a24 : Int) (b1 : Int) (b2 : Int) (b3 : List Int) (b4 : Int) (b5 : Int) (b6 : Int) (b7 : List Claim) (b8 : Int) (b9 : Int) (b10 : Int) (b11 : Int) (b12 : Int) (b13 : Int) (b14 : Int) (b15 : Int) (b16 : Int) (b17 : Int) (b18 : Bool) (b19 : List Int) (b20 : List Claim) (b21 : Int) (b22 : Int) (b23 : List Int) (b24 : Int) (N : Int) (hn : (a3.length : Int) ≤ 512) : ∀ (k : Nat) (at_ : Int) (out : List Segment), 0 ≤ at_ → at_ < (a3.length : Int) → (a3.length : Int) ≤ at_ + 100 * (k : Int) → out.length + k ≤ 1000 →
    ∃ pre off data, lpU g37x0 ((a3.length : Int), at_, N, a1, a2, a3, a4, a5, a6, a7, a8, a9, a10, a11, a12, a13, a14, a15, a16, a17, a18, a19, a20, a21, a22, a23, a24, b1, b2, b3, b4, b5, b6, b7, b8, b9, b10, b11, b12, b13, b14, b15, b16, b17, b18, b19, b20, b21, b22, b23, b24, out) = some (a1, a2, a3, a4, a5, a6, a7, a8, a9, a10, a11, a12, a13, a14, a15, a16, a17, a18, a19, a20, a21, a22, a23, a24, b1, b2, b3, b4, b5, b6, b7, b8, b9, b10, b11, b12, b13, b14, b15, b16, b17, b18, b19, b20, b21, b22, b23, b24, pre ++ [((1 : Int), a1, a2, (0 : Int), (0 : Int), off, (a3.length : Int), (0 : Int), (0 : Int), (0 : Int), false, data, ([] : List Claim))]) ∧ 0 ≤ off ∧ off + ((data.length : Nat) : Int) ≤ (a3.length : Int) ∧ (1 ≤ ((data.length : Nat) : Int) ∧ ((data.length : Nat) : Int) ≤ 100) ∧ data = (a3.drop off.toNat).take data.length ∧ pre.length ≤ 1000
  | 0, at_, out, h0, h1, h2, h3 => by omega
  | k + 1, at_, out, h0, h1, h2, h3 => by
    have hd : decide (at_ < (a3.length : Int)) = true := decide_eq_true h1
    have hw : IntKind.i64.wrap (at_ + 100) = at_ + 100 := wi64 (by omega)
    obtain ⟨m, hm, hm1⟩ : ∃ m : Int, (if (a3.length : Int) < at_ + 100 then (a3.length : Int) else at_ + 100) = m ∧ (at_ < m ∧ m ≤ (a3.length : Int) ∧ m ≤ at_ + 100) := ⟨_, rfl, by split <;> omega⟩
    have hcut := cut_part a3 at_ m ⟨h0, by omega, by omega⟩
    generalize hdat : (a3.drop at_.toNat).take (m - at_).toNat = dat at hcut
    have hlen : (dat.length : Int) = m - at_ := by
      rw [← hdat, List.length_take, List.length_drop]; omega
    have hsame : dat = (a3.drop at_.toNat).take dat.length := by
      have : dat.length = (m - at_).toNat := by omega
      rw [this, hdat]
    have hstep : g37x0 ((a3.length : Int), at_, N, a1, a2, a3, a4, a5, a6, a7, a8, a9, a10, a11, a12, a13, a14, a15, a16, a17, a18, a19, a20, a21, a22, a23, a24, b1, b2, b3, b4, b5, b6, b7, b8, b9, b10, b11, b12, b13, b14, b15, b16, b17, b18, b19, b20, b21, b22, b23, b24, out) = some (.inl ((a3.length : Int), at_ + 100, N, a1, a2, a3, a4, a5, a6, a7, a8, a9, a10, a11, a12, a13, a14, a15, a16, a17, a18, a19, a20, a21, a22, a23, a24, b1, b2, b3, b4, b5, b6, b7, b8, b9, b10, b11, b12, b13, b14, b15, b16, b17, b18, b19, b20, b21, b22, b23, b24, out ++ [((1 : Int), a1, a2, (0 : Int), (0 : Int), at_, (a3.length : Int), (0 : Int), (0 : Int), (0 : Int), false, dat, ([] : List Claim))])) := by
      simp only [g37x0, hd, if_true, hw, hm, hcut, Option.bind_some, w63 dat (by omega), apd_ok (show (out.length + ([((1 : Int), a1, a2, (0 : Int), (0 : Int), at_, (a3.length : Int), (0 : Int), (0 : Int), (0 : Int), false, dat, ([] : List Claim))] : List Segment).length) * 128 ≤ 140737488355328 by simp only [List.length_cons, List.length_nil]; omega)]
    rw [lp_next hstep]
    by_cases hend : at_ + 100 < (a3.length : Int)
    · obtain ⟨pre, off, data, q1, q2⟩ := l37 a1 a2 a3 a4 a5 a6 a7 a8 a9 a10 a11 a12 a13 a14 a15 a16 a17 a18 a19 a20 a21 a22 a23 a24 b1 b2 b3 b4 b5 b6 b7 b8 b9 b10 b11 b12 b13 b14 b15 b16 b17 b18 b19 b20 b21 b22 b23 b24 N hn k (at_ + 100) (out ++ [((1 : Int), a1, a2, (0 : Int), (0 : Int), at_, (a3.length : Int), (0 : Int), (0 : Int), (0 : Int), false, dat, ([] : List Claim))]) (by omega) hend (by omega) (by rw [List.length_append]; simp only [List.length_cons, List.length_nil]; omega)
      exact ⟨pre, off, data, q1, q2⟩
    · have hd2 : decide (at_ + 100 < (a3.length : Int)) = false := decide_eq_false hend
      refine ⟨out, at_, dat, lp_end (by simp only [g37x0, hd2, Bool.false_eq_true, if_false]), h0, by omega, by omega, hsame, by omega⟩
section
variable {src sess w t : Int} {bl : List Int}
set_option maxRecDepth 4000 in
theorem w37 (h1 : 1 ≤ (bl.length : Int) ∧ (bl.length : Int) ≤ 512) (hw : 1 ≤ w ∧ w ≤ 4096) : ∃ off data out, g37 (src, sess, bl, w, t, 1, [], 0, 0, 0, 0, 0, 0, 0, 0, 0, 0, false, [], [], 0, 0, [], 0) (src, sess, bl, w, t, 0, [], 0, 0, 0, 0, 0, 0, 0, 0, 0, 0, false, [], [], 0, 0, [], 0) 1 0 = some (mkS src sess bl w t 1 off data w 0 0, out) ∧ 0 ≤ off ∧ off + ((data.length : Nat) : Int) ≤ (bl.length : Int) ∧ (1 ≤ ((data.length : Nat) : Int) ∧ ((data.length : Nat) : Int) ≤ 100) ∧ data = (bl.drop off.toNat).take data.length := by
  obtain ⟨pre, off, data, q1, q2, q3, q4, q5, q6⟩ := l37 (src : Int) (sess : Int) (bl : List Int) (w : Int) (t : Int) (1 : Int) ([] : List Claim) (0 : Int) (0 : Int) (0 : Int) (0 : Int) (0 : Int) (0 : Int) (0 : Int) (0 : Int) (0 : Int) (0 : Int) (false : Bool) ([] : List Int) ([] : List Claim) (0 : Int) (0 : Int) ([] : List Int) (0 : Int) (0 : Int) (0 : Int) ([] : List Int) (0 : Int) (0 : Int) (0 : Int) ([] : List Claim) (0 : Int) (0 : Int) (0 : Int) (0 : Int) (0 : Int) (0 : Int) (0 : Int) (0 : Int) (0 : Int) (0 : Int) (false : Bool) ([] : List Int) ([] : List Claim) (0 : Int) (0 : Int) ([] : List Int) (0 : Int) (bl.length : Int) h1.2 6 0 [] (by omega) (by omega) (by omega) (by simp)
  have hg : gapH (src, sess, bl, w, t, 0, [], 0, 0, 0, 0, 0, 0, 0, 0, 0, 0, false, [], [], 0, 0, [], 0) = some [(0, (bl.length : Int))] := by
    have e1 : gapH (src, sess, bl, w, t, 0, [], 0, 0, 0, 0, 0, 0, 0, 0, 0, 0, false, [], [], 0, 0, [], 0) = some (gapF (bl.length : Int) [] 0) := if_pos (show ([] : List Claim).length < 1000000000 by simp)
    rw [e1]
    show some (if 0 < (bl.length : Int) then [((0 : Int), IntKind.i64.wrap ((bl.length : Int) - 0))] else []) = _
    rw [if_pos (by omega), wi64 (by omega)]
    simp
  have hr : g37_r0 (0, (bl.length : Int)) (1, 0, src, sess, bl, w, t, 1, [], 0, 0, 0, 0, 0, 0, 0, 0, 0, 0, false, [], [], 0, 0, [], 0, (0 : Int), (0 : Int), [], (0 : Int), (0 : Int), (0 : Int), [], (0 : Int), (0 : Int), (0 : Int), (0 : Int), (0 : Int), (0 : Int), (0 : Int), (0 : Int), (0 : Int), (0 : Int), false, [], [], (0 : Int), (0 : Int), [], (0 : Int), []) = some (.inl (1, 0, src, sess, bl, w, t, 1, [], 0, 0, 0, 0, 0, 0, 0, 0, 0, 0, false, [], [], 0, 0, [], 0, (0 : Int), (0 : Int), [], (0 : Int), (0 : Int), (0 : Int), [], (0 : Int), (0 : Int), (0 : Int), (0 : Int), (0 : Int), (0 : Int), (0 : Int), (0 : Int), (0 : Int), (0 : Int), false, [], [], (0 : Int), (0 : Int), [], (0 : Int), pre ++ [((1 : Int), src, sess, (0 : Int), (0 : Int), off, (bl.length : Int), (0 : Int), (0 : Int), (0 : Int), false, data, ([] : List Claim))])) := by
    show ((lpU g37x0 (IntKind.i64.wrap (0 + (bl.length : Int)), 0, (bl.length : Int), src, sess, bl, w, t, 1, [], 0, 0, 0, 0, 0, 0, 0, 0, 0, 0, false, [], [], 0, 0, [], 0, (0 : Int), (0 : Int), [], (0 : Int), (0 : Int), (0 : Int), [], (0 : Int), (0 : Int), (0 : Int), (0 : Int), (0 : Int), (0 : Int), (0 : Int), (0 : Int), (0 : Int), (0 : Int), false, [], [], (0 : Int), (0 : Int), [], (0 : Int), [])).bind fun z10 => _) = _
    rw [Int.zero_add, wi64 (by omega), q1]
    rfl
  have hf : foldU g37_r0 [(0, (bl.length : Int))] (1, 0, src, sess, bl, w, t, 1, [], 0, 0, 0, 0, 0, 0, 0, 0, 0, 0, false, [], [], 0, 0, [], 0, (0 : Int), (0 : Int), [], (0 : Int), (0 : Int), (0 : Int), [], (0 : Int), (0 : Int), (0 : Int), (0 : Int), (0 : Int), (0 : Int), (0 : Int), (0 : Int), (0 : Int), (0 : Int), false, [], [], (0 : Int), (0 : Int), [], (0 : Int), []) = some (.inl (1, 0, src, sess, bl, w, t, 1, [], 0, 0, 0, 0, 0, 0, 0, 0, 0, 0, false, [], [], 0, 0, [], 0, (0 : Int), (0 : Int), [], (0 : Int), (0 : Int), (0 : Int), [], (0 : Int), (0 : Int), (0 : Int), (0 : Int), (0 : Int), (0 : Int), (0 : Int), (0 : Int), (0 : Int), (0 : Int), false, [], [], (0 : Int), (0 : Int), [], (0 : Int), pre ++ [((1 : Int), src, sess, (0 : Int), (0 : Int), off, (bl.length : Int), (0 : Int), (0 : Int), (0 : Int), false, data, ([] : List Claim))])) := by
    unfold foldU
    rw [hr]
    rfl
  refine ⟨off, data, pre ++ [((1 : Int), src, sess, (1 : Int), (0 : Int), off, (bl.length : Int), (0 : Int), (0 : Int), (0 : Int), true, data, ([] : List Claim))], ?_, q2, q3, q4, q5⟩
  have hx : IntKind.i64.wrap ((((pre ++ [((1 : Int), src, sess, (0 : Int), (0 : Int), off, (bl.length : Int), (0 : Int), (0 : Int), (0 : Int), false, data, ([] : List Claim))]).length : Nat) : Int) - 1) = (pre.length : Int) := by
    rw [List.length_append]
    simp only [List.length_cons, List.length_nil]
    rw [wi64 (by omega)]; omega
  have hck : chkI (pre.length : Int) (((pre ++ [((1 : Int), src, sess, (0 : Int), (0 : Int), off, (bl.length : Int), (0 : Int), (0 : Int), (0 : Int), false, data, ([] : List Claim))]).length : Nat) : Int) = some () := chkI_some (by rw [List.length_append]; simp only [List.length_cons, List.length_nil]; omega)
  unfold g37
  rw [hg, Option.bind_some]
  have hf' := hf
  simp only [hf', Option.bind_some, hx, hck, idx_last, Int.toNat_natCast, set_last, w63 data (by omega), eqI_self, Int.zero_add, wi64 (show -9223372036854775808 ≤ w ∧ w ≤ 9223372036854775807 by omega)]
  rfl
theorem w11 (x : Start) (hx : x.2.2.1.length ≤ 600) : (∃ z, g11 x 0 = some (z, [], 2)) ∨ (∃ off data out, g11 x 0 = some (mkS x.1 x.2.1 x.2.2.1 x.2.2.2.1 x.2.2.2.2 1 off data x.2.2.2.1 0 0, out, 0) ∧ Vs x.1 x.2.1 x.2.2.1 x.2.2.2.1 x.2.2.2.2 off data) := by
  obtain ⟨src, sess, bl, w, t⟩ := x
  simp only at hx
  cases hb : h35 (src, sess, bl, w, t) with
  | false =>
    left
    refine ⟨((0 : Int), (0 : Int), [], (0 : Int), (0 : Int), (0 : Int), [], (0 : Int), (0 : Int), (0 : Int), (0 : Int), (0 : Int), (0 : Int), (0 : Int), (0 : Int), (0 : Int), (0 : Int), false, [], [], (0 : Int), (0 : Int), [], (0 : Int)), ?_⟩
    unfold g11
    rw [hb]
    rfl
  | true =>
    right
    have hb' := hb
    unfold h35 at hb'
    have hand : ∀ p q : Bool, (if p = true then q else false) = (p && q) := by intro p q; cases p <;> rfl
    simp only [w42, hand] at hb'
    simp only [Bool.and_eq_true] at hb'
    simp only [inB, Bool.and_eq_true, decide_eq_true_eq] at hb'
    obtain ⟨⟨⟨⟨k1, k2⟩, k3⟩, k4⟩, k5⟩ := hb'
    obtain ⟨off, data, out, q1, q2, q3, q4, q5⟩ := w37 (src := src) (sess := sess) (t := t) k3 k4
    refine ⟨off, data, out, ?_, k1, k2, k3, k4, k5, ⟨q2, q3⟩, q4, q5⟩
    have h36 : h36 0 = true := by rw [w36]; rfl
    have h38 : g38 (src, sess, bl, w, t, 1, [], 0, 0, 0, 0, 0, 0, 0, 0, 0, 0, false, [], [], 0, 0, [], 0) = some (src, sess, bl, w, t, 1, [], 0, 0, 0, 0, 0, 0, 0, 0, 0, 0, false, [], [], 0, 0, [], 0) := w38 _ ⟨by show bl.length < 1000000; omega, by show 0 < 1000000; omega, by show 0 < 1000000; omega, by show 0 < 1000000; omega, by show 0 < 1000000; omega⟩
    unfold g11
    rw [hb, h36]
    show ((g38 (src, sess, bl, w, t, 1, [], 0, 0, 0, 0, 0, 0, 0, 0, 0, 0, false, [], [], 0, 0, [], 0)).bind fun y6 => (g39 (src, sess, bl, w, t, 0, [], 0, 0, 0, 0, 0, 0, 0, 0, 0, 0, false, [], [], 0, 0, [], 0)).bind fun y7 => (g37 y6 y7 1 0).bind fun y8 => some (y8.1, y8.2, (0 : Int))) = _
    rw [h38, Option.bind_some]
    show ((g37 (src, sess, bl, w, t, 1, [], 0, 0, 0, 0, 0, 0, 0, 0, 0, 0, false, [], [], 0, 0, [], 0) (src, sess, bl, w, t, 0, [], 0, 0, 0, 0, 0, 0, 0, 0, 0, 0, false, [], [], 0, 0, [], 0) 1 0).bind fun y8 => some (y8.1, y8.2, (0 : Int))) = _
    rw [q1]
    rfl
end
end Go.Proofs.Ytiglckehhfbliaa.Ev.U
namespace Go.Proofs.Ytiglckehhfbliaa.Ev.U
open Go
section
variable {src sess w t off late q : Int} {bl data : List Int}
theorem mk_st {st due asked reason : Int} : (mkS src sess bl w t st off data due asked reason).2.2.2.2.2.1 = st := rfl
theorem mk_due {st due asked reason : Int} : (mkS src sess bl w t st off data due asked reason).2.2.2.2.2.2.2.2.2.2.2.2.2.2.2.2.2.2.2.2.1 = due := rfl
/-- How much later it is at most. -/
theorem mul_bd {a : Int} (h : 0 ≤ a ∧ a ≤ 40) (hw : 1 ≤ w ∧ w ≤ 4096) : 0 ≤ a * w ∧ a * w ≤ 163840 := by
  refine ⟨Int.mul_nonneg h.1 (by omega), ?_⟩
  have h1 : a * w ≤ 40 * w := Int.mul_le_mul_of_nonneg_right h.2 (by omega)
  omega
/-- A round in which it is asked again. -/
theorem round (h : Vs src sess bl w t off data) (hq : (if (0 : Int) > late then (0 : Int) else late).tmod 1000 = q ∧ 0 ≤ q ∧ q ≤ 999) {i : Nat} (hi : i ≤ 36) {sent bound : Int} (hs : 0 ≤ sent ∧ sent ≤ 100) (hb : (i : Int) < bound) {st st' due asked asked' reason reason' : Int} {x : Segment}
    (h1 : (1 ≤ st' ∧ st' ≤ 3)) (h3 : 0 ≤ asked' ∧ asked' ≤ t) (h4 : 0 ≤ reason' ∧ reason' ≤ 255)
    (ht : g28 (mkS src sess bl w t st off data due asked reason) (((i : Int) + 1) * w + q) = some (mkS src sess bl w t st' off data (((i : Int) + 1) * w + q + w) asked' reason', [x], 0)) :
    lpU g7x0 (late, sent, bound, (i : Int), src, sess, bl, w, t, mkS src sess bl w t st off data due asked reason) = lpU g7x0 (late, sent + 1, bound, ((i + 1 : Nat) : Int), src, sess, bl, w, t, mkS src sess bl w t st' off data (((i + 1 : Nat) : Int) * w + w + q) asked' reason') := by
  have hw := h.hw
  have b1 := mul_bd (a := (i : Int) + 1) (by omega) hw
  have b2 := mul_bd (a := (i : Int) + 2) (by omega) hw
  have e2 : ((i : Int) + 2) * w = ((i : Int) + 1) * w + w := by rw [show (i : Int) + 2 = ((i : Int) + 1) + 1 by omega, Int.add_mul, Int.one_mul]
  have e3 : ((i + 1 : Nat) : Int) * w + w + q = ((i : Int) + 1) * w + q + w := by rw [show ((i + 1 : Nat) : Int) = (i : Int) + 1 by omega]; omega
  have hnow : IntKind.i64.wrap (IntKind.i64.wrap (IntKind.i64.wrap ((i : Int) + 1) * w) + (if (0 : Int) > late then (0 : Int) else late).tmod 1000) = ((i : Int) + 1) * w + q := by
    rw [hq.1, wi64 (n := (i : Int) + 1) (by omega), wi64 (n := ((i : Int) + 1) * w) (by omega), wi64 (by omega)]
  have hnext : IntKind.i64.wrap (IntKind.i64.wrap (IntKind.i64.wrap ((i : Int) + 2) * w) + (if (0 : Int) > late then (0 : Int) else late).tmod 1000) = ((i : Int) + 1) * w + q + w := by
    rw [hq.1, wi64 (n := (i : Int) + 2) (by omega), wi64 (n := ((i : Int) + 2) * w) (by omega), wi64 (by omega)]; omega
  have hd : decide ((i : Int) < bound) = true := decide_eq_true hb
  have h0 := tick0 h (st := st') (due := ((i : Int) + 1) * w + q + w) (asked := asked') (reason := reason') (now := ((i : Int) + 1) * w + q + w - 1) (by omega) (by omega) h3 h4 (by omega) (by omega)
  have hdue : IntKind.i64.wrap (((i : Int) + 1) * w + q + w - 1) = ((i : Int) + 1) * w + q + w - 1 := wi64 (by omega)
  have hst : (st' == 4) = false := by simp; omega
  rw [e3]
  refine lp_next ?_
  simp only [g7x0, hd, if_true, hnow, ht, Option.bind_some, bne_self_eq_false, Bool.false_eq_true, if_false, mk_st, hst, mk_due, hdue, h0, List.length_cons, List.length_nil, hnext]
  rw [wi64 (n := (i : Int) + 1) (by omega)]
  simp only [Nat.zero_add, Int.natCast_one, wi64 (show -9223372036854775808 ≤ sent + 1 ∧ sent + 1 ≤ 9223372036854775807 by omega), show (((0 : Nat) : Int) != 0) = false from rfl, Bool.false_eq_true, if_false]
  rfl
/-- It is given up, and asks on. -/
theorem lC (h : Vs src sess bl w t off data) (hq : (if (0 : Int) > late then (0 : Int) else late).tmod 1000 = q ∧ 0 ≤ q ∧ q ≤ 999) {tn : Nat} (ht : t = (tn : Int)) : ∀ (k j : Nat), j + k = tn → ∃ due,
    lpU g7x0 (late, ((tn + 1 + j : Nat) : Int), 2 * t + 3, ((tn + 1 + j : Nat) : Int), src, sess, bl, w, t, mkS src sess bl w t 3 off data (((tn + 1 + j : Nat) : Int) * w + w + q) (j : Int) 1) = some (.inl (2 * t + 1, src, sess, bl, w, t, mkS src sess bl w t 4 off data due t 1))
  | 0, j, hj => by
    have hw := h.hw
    have htt := h.ht
    obtain rfl : j = tn := by omega
    have b1 := mul_bd (a := ((j + 1 + j : Nat) : Int) + 1) (by omega) hw
    have e1 : (((j + 1 + j : Nat) : Int) + 1) * w = ((j + 1 + j : Nat) : Int) * w + w := by rw [Int.add_mul, Int.one_mul]
    have hnow : IntKind.i64.wrap (IntKind.i64.wrap (IntKind.i64.wrap (((j + 1 + j : Nat) : Int) + 1) * w) + (if (0 : Int) > late then (0 : Int) else late).tmod 1000) = ((j + 1 + j : Nat) : Int) * w + w + q := by
      rw [hq.1, wi64 (n := ((j + 1 + j : Nat) : Int) + 1) (by omega), wi64 (n := (((j + 1 + j : Nat) : Int) + 1) * w) (by omega), wi64 (by omega), e1]
    have hd : decide (((j + 1 + j : Nat) : Int) < 2 * t + 3) = true := decide_eq_true (by omega)
    have h4 := tick4 h (due := ((j + 1 + j : Nat) : Int) * w + w + q) (reason := 1) (now := ((j + 1 + j : Nat) : Int) * w + w + q) (by omega) (by omega) (by omega)
    refine ⟨((j + 1 + j : Nat) : Int) * w + w + q, ?_⟩
    rw [← ht]
    refine lp_end ?_
    simp only [g7x0, hd, if_true, hnow, h4, Option.bind_some, bne_self_eq_false, Bool.false_eq_true, if_false, mk_st, beq_self_eq_true, List.length_nil]
    rw [show IntKind.i64.wrap (((j + 1 + j : Nat) : Int) + ((0 : Nat) : Int)) = 2 * t + 1 by rw [wi64 (by omega)]; omega]
    rfl
  | k + 1, j, hj => by
    have hw := h.hw
    have htt := h.ht
    have b1 := mul_bd (a := ((tn + 1 + j : Nat) : Int) + 1) (by omega) hw
    have e1 : (((tn + 1 + j : Nat) : Int) + 1) * w = ((tn + 1 + j : Nat) : Int) * w + w := by rw [Int.add_mul, Int.one_mul]
    obtain ⟨x, h3⟩ := tick3 h (due := ((tn + 1 + j : Nat) : Int) * w + w + q) (asked := (j : Int)) (reason := 1) (now := (((tn + 1 + j : Nat) : Int) + 1) * w + q) (by omega) (by omega) (by omega) (by omega)
    obtain ⟨due, ih⟩ := lC h hq ht k (j + 1) (by omega)
    refine ⟨due, ?_⟩
    rw [round h hq (i := tn + 1 + j) (by omega) (by omega) (by omega) (by omega) (by omega) (by omega) h3]
    rw [show tn + 1 + (j + 1) = tn + 1 + j + 1 by omega] at ih
    rw [show ((tn + 1 + j : Nat) : Int) + 1 = ((tn + 1 + j + 1 : Nat) : Int) by omega, show (j : Int) + 1 = ((j + 1 : Nat) : Int) by omega]
    exact ih
/-- It asks so many times. -/
theorem lA (h : Vs src sess bl w t off data) (hq : (if (0 : Int) > late then (0 : Int) else late).tmod 1000 = q ∧ 0 ≤ q ∧ q ≤ 999) {tn : Nat} (ht : t = (tn : Int)) : ∀ (k j : Nat) (due0 : Int), j + k = tn → 0 ≤ due0 → due0 ≤ (j : Int) * w + w + q → ∃ due,
    lpU g7x0 (late, (j : Int), 2 * t + 3, (j : Int), src, sess, bl, w, t, mkS src sess bl w t 1 off data due0 (j : Int) 0) = some (.inl (2 * t + 1, src, sess, bl, w, t, mkS src sess bl w t 4 off data due t 1))
  | 0, j, due0, hj, hd0, hd1 => by
    have hw := h.hw
    have htt := h.ht
    obtain rfl : j = tn := by omega
    subst ht
    have b1 := mul_bd (a := (j : Int) + 1) (by omega) hw
    have e1 : ((j : Int) + 1) * w = (j : Int) * w + w := by rw [Int.add_mul, Int.one_mul]
    obtain ⟨x, h2⟩ := tick2 h (due := due0) (reason := 0) (now := ((j : Int) + 1) * w + q) (by omega) (by omega) (by omega)
    obtain ⟨due, ih⟩ := lC h hq rfl j 0 (by omega)
    refine ⟨due, ?_⟩
    rw [round h hq (i := j) (by omega) (by omega) (by omega) (by omega) (by omega) (by omega) h2]
    rw [show j + 1 + 0 = j + 1 from rfl, show ((0 : Nat) : Int) = 0 from rfl] at ih
    rw [show (j : Int) + 1 = ((j + 1 : Nat) : Int) by omega]
    exact ih
  | k + 1, j, due0, hj, hd0, hd1 => by
    have hw := h.hw
    have htt := h.ht
    have b1 := mul_bd (a := (j : Int) + 1) (by omega) hw
    have e1 : ((j : Int) + 1) * w = (j : Int) * w + w := by rw [Int.add_mul, Int.one_mul]
    obtain ⟨x, h1⟩ := tick1 h (due := due0) (asked := (j : Int)) (reason := 0) (now := ((j : Int) + 1) * w + q) (by omega) (by omega) (by omega) (by omega)
    have e2 : ((j + 1 : Nat) : Int) * w = (j : Int) * w + w := by rw [show ((j + 1 : Nat) : Int) = (j : Int) + 1 by omega]; exact e1
    have b2 := mul_bd (a := (j : Int)) (by omega) hw
    obtain ⟨due, ih⟩ := lA h hq ht k (j + 1) (((j + 1 : Nat) : Int) * w + w + q) (by omega) (by omega) (Int.le_refl _)
    refine ⟨due, ?_⟩
    rw [round h hq (i := j) (by omega) (by omega) (by omega) (by omega) (by omega) (by omega) h1]
    rw [show (j : Int) + 1 = ((j + 1 : Nat) : Int) by omega]
    exact ih
end
theorem w7 (x : Start) (late : Int) : g7 x late = some true := by
  obtain ⟨src, sess, bl0, w, t⟩ := x
  obtain ⟨bl, hbl⟩ : ∃ bl, bl = bl0.take (600 : Int).toNat := ⟨_, rfl⟩
  have hlen : bl.length ≤ 600 := by rw [hbl, List.length_take]; omega
  unfold g7
  rw [if_neg (by simp)]
  show ((cut bl0 0 (if (600 : Int) < (bl0.length : Int) then (600 : Int) else (bl0.length : Int))).bind fun y4 => (apd 1 [] y4).bind fun y5 => (g11 (src, sess, y5, w, t) 0).bind fun y6 => _) = _
  rw [cut_take _ _ (by omega), Option.bind_some, ← hbl, apd_ok (by simp only [List.length_nil]; omega), Option.bind_some, List.nil_append]
  rcases w11 (src, sess, bl, w, t) hlen with ⟨z, hz⟩ | ⟨off, data, out, hz, hv⟩
  · rw [hz]
    rfl
  · rw [hz, Option.bind_some]
    simp only at hv
    have ht := hv.ht
    have hw := hv.hw
    have hq : (if (0 : Int) > late then (0 : Int) else late).tmod 1000 = (if (0 : Int) > late then (0 : Int) else late).tmod 1000 ∧ 0 ≤ (if (0 : Int) > late then (0 : Int) else late).tmod 1000 ∧ (if (0 : Int) > late then (0 : Int) else late).tmod 1000 ≤ 999 := by
      refine ⟨rfl, ?_⟩
      have h0 : 0 ≤ (if (0 : Int) > late then (0 : Int) else late) := by split <;> omega
      rw [Int.tmod_eq_emod_of_nonneg h0]
      omega
    obtain ⟨tn, htn⟩ : ∃ tn : Nat, t = (tn : Int) := ⟨t.toNat, by omega⟩
    have hb : IntKind.i64.wrap (IntKind.i64.wrap (2 * t) + 3) = 2 * t + 3 := by rw [wi64 (n := 2 * t) (by omega), wi64 (by omega)]
    obtain ⟨due, hl⟩ := lA hv hq htn tn 0 w (by omega) (by omega) (by rw [show ((0 : Nat) : Int) = 0 from rfl, Int.zero_mul]; omega)
    rw [if_neg (by simp)]
    show ((lpU g7x0 (late, 0, IntKind.i64.wrap (IntKind.i64.wrap (2 * t) + 3), 0, src, sess, bl, w, t, mkS src sess bl w t 1 off data w 0 0)).bind fun z35 => _) = _
    rw [hb]
    rw [show ((0 : Nat) : Int) = 0 from rfl] at hl
    rw [hl, Option.bind_some]
    show some (if (if ((4 : Int) == 4) = true then ((1 : Int) == 1) else false) = true then decide (2 * t + 1 ≤ IntKind.i64.wrap (IntKind.i64.wrap (2 * t) + 2)) else false) = some true
    rw [wi64 (n := 2 * t) (by omega), wi64 (n := 2 * t + 2) (by omega)]
    simp
end Go.Proofs.Ytiglckehhfbliaa.Ev.U
namespace Go.Proofs.Ytiglckehhfbliaa.Ev
open Go Go.ChangeShapes Go.WideShapes Go.ChangeAt Go.RowKit
theorem own : ownKnob Try.prog.godebug = none := by kernel_rfl
theorem laidOut : laidOutB Try.prog = true := by kernel_rfl
theorem rtb {g : G} {w : World} {x : Value} {b : Bool} (h : RT g w retL x (.v (.bool b))) : x = .bool b := h
def vG : Value := .agg #[.int .i64 0, .int .u32 0, .slice none 0 0, .int .i64 0, .int .i64 0, .int .i64 0, .slice none 0 0, .int .i64 0, .int .i64 0, .int .u32 0, .int .u32 0, .int .u32 0, .int .i64 0, .int .i64 0, .int .i64 0, .int .i64 0, .int .i64 0, .bool false, .slice none 0 0, .slice none 0 0, .int .i64 0, .int .i64 0, .slice none 0 0, .int .i64 0]
def vX : Value := .agg #[.int .i64 0, .int .u32 0, .slice none 0 0, .int .i64 0, .int .i64 0]
end Go.Proofs.Ytiglckehhfbliaa.Ev
namespace Go.Proofs.Ytiglckehhfbliaa.Ev.U
open Go
theorem ef7 {x0 : (YStart : Ty).T} {x1 : (.i .i64 : Ty).T} {d0 d1 : D} (r0 : RepL (EF pg) (YStart) [] x0 [d0]) (r1 : RepL (EF pg) (.i .i64) [] x1 [d1]) : EF pg 7 [d0, d1] [] = some (.v (.bool true), []) := by
  obtain ⟨r, h1, h2⟩ := ef_b1 (show TOK1 (EF pg) (run1 E7 (EF pg)) (.par ⟨[.v (YStart), .v (.i .i64)], .b⟩ (fun x => g7 x.1 x.2)) from o7) (by simp) rfl (x := (x0, x1)) (ds := [d0, d1]) rfl ⟨⟨rfl, rfl⟩, _, _, rfl, r0, r1⟩ (w7 x0 x1)
  obtain rfl := eq_of_heq h2
  exact (v7 _).trans h1
end Go.Proofs.Ytiglckehhfbliaa.Ev.U
namespace Go.Proofs.Ytiglckehhfbliaa
open Go Go.ChangeShapes Go.WideShapes Go.ChangeAt Go.RowKit Go.Proofs.Ytiglckehhfbliaa.Ev
set_option maxRecDepth 100000 in
theorem lifted7 (os : Os) (started : os.Started) (H : Type) (enc : TypeId × Value → H) :
    ReturnsInHanded {} Try.checked os 7 .any (Rows.senderEndsSpec.pre6 enc Try.prog Try.f7 Rows.senderEndsRow.domain false) (Rows.senderEndsSpec.post enc Try.prog Try.f7 false true false false) := by
  refine returnsInHanded_of_change_sized (C := Try.checked) own started (by kernel_rfl) Try.func7
    (ChangeSpec.witness6 (enc := enc) (C := Try.checked) false ⟨#[], #[vX, .int .i64 0], []⟩ 8 (by kernel_rfl) (by kernel_rfl) (by kernel_rfl) (by kernel_rfl)) ?_
  intro W base args ds gs before hval0 hW hcnd hsz0 _
  have hval : ∀ (j : Nat) t v, Try.f7.params[j]? = some t → args[j]? = some v → Value.okWide Try.prog W .any base t v := hval0
  have hW' := hW
  obtain ⟨p, q, hA0, hV, rfl, hfz, hnd⟩ := hW
  have hA : DataW.TrodAll enc Try.prog W 0 (fun _ => true) true Try.f7.params.toList args.toList ds p := hA0
  rw [Try.params7] at hA hval
  obtain ⟨v0, vs0, d0, ds0, p0, q0, hargs, rfl, rfl, h0, r0⟩ := trodAll_cons hA
  obtain ⟨v1, vs1, d1, ds1, p1, q1, rfl, rfl, rfl, h1, r1⟩ := trodAll_cons r0
  obtain ⟨rfl, rfl, rfl⟩ := trodAll_nil r1
  obtain rfl : args = #[v0, v1] := by cases args; simp_all
  obtain ⟨rfl, rfl⟩ := trodVars_none hV
  have lt0 : ∀ x ∈ p0, x.block < W.heap.size := by obtain ⟨m, hm⟩ := h0; exact DataW.trod_lt m _ _ _ hm
  have lt1 : ∀ x ∈ p1, x.block < W.heap.size := by obtain ⟨m, hm⟩ := h1; exact DataW.trod_lt m _ _ _ hm
  obtain ⟨c0, g0, k0⟩ := open_arg (k := 8) (fun _ => rfl) (by kernel_rfl) (hval 0 25 v0 rfl rfl) h0
  obtain ⟨c1, g1, k1⟩ := open_arg (k := 8) (fun _ => rfl) (by kernel_rfl) (hval 1 3 v1 rfl rfl) h1
  obtain ⟨x0, e0⟩ := U.arg_u (P := EF U.pg) 8 (U.YStart) (by kernel_rfl) g0
  obtain ⟨x1, e1⟩ := U.arg_u (P := EF U.pg) 8 (.i .i64) (by kernel_rfl) g1
  clear hA0 hval0 hsz0
  refine (run0 U.pg_ok (f := 7) (by decide) (U.ef7 e0 e1) (W := W) (vs := #[v0, v1]) rfl (fun i d hi => ?_)).mono fun e W' ⟨x, g', he, hr, bel⟩ => ?_
  · match i with
    | 0 => simp at hi; subst hi; exact ⟨v0, rfl, k0⟩
    | 1 => simp at hi; subst hi; exact ⟨v1, rfl, k1⟩
    | i + 2 => simp at hi
  · obtain rfl := rtb hr
    subst he
    exact ⟨_, rfl, _, _, _, [], _, [], hW', trodAll_mk1 (shut_bool Try.underlying4 _), trodAll_cons_mk (Below.trod laidOut (by kernel_rfl) (of_decide_eq_true (by kernel_rfl)) h0 bel lt0) (trodAll_cons_mk (Below.trod laidOut (by kernel_rfl) (of_decide_eq_true (by kernel_rfl)) h1 bel lt1) trodAll_mk0), rfl, bel.frame _, fun h => by cases h⟩
/-- The law SenderEnds holds for every input. -/
theorem senderEnds_holds : Rows.SenderEndsSaid :=
  OpenClaim.holds_of_wide 7 Try.f7 rfl rfl rfl rfl rfl rfl rfl ⟨rfl, rfl, rfl, rfl, rfl⟩ rfl rfl rfl rfl rfl (by kernel_rfl) Try.func7 (by kernel_rfl)
    (of_decide_eq_true (by kernel_rfl)) (by unfold Func.isWrapper; first | (rw [if_pos (by decide +kernel)]; kernel_rfl) | (rw [if_neg (by decide +kernel)]; exact ⟨rfl, rfl⟩))
    (fun os started H enc _ => lifted7 os started H enc)
#print axioms senderEnds_holds
end Go.Proofs.Ytiglckehhfbliaa
