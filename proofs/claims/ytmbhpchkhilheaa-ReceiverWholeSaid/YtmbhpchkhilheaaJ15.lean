/- Layer 15: Check, take, New, Take, Tick. Conditions: none. -/
import Derived.Test.YtmbhpchkhilheaaUi
import Derived.Test.YtmbhpchkhilheaaGt15
set_option linter.all false
namespace Go.Proofs.Ytmbhpchkhilheaa.Ev.U
open Go
theorem wi64 {n : Int} (h : -9223372036854775808 ≤ n ∧ n ≤ 9223372036854775807) : IntKind.i64.wrap n = n := by
  simp [IntKind.wrap, IntKind.bits, IntKind.signed]; omega
theorem wu32 {n : Int} (h : 0 ≤ n ∧ n < 4294967296) : IntKind.u32.wrap n = n := by
  simp [IntKind.wrap, IntKind.bits, IntKind.signed]; omega
theorem wu8 {n : Int} (h : 0 ≤ n ∧ n < 256) : IntKind.u8.wrap n = n := by
  simp [IntKind.wrap, IntKind.bits, IntKind.signed]; omega
theorem wnext {i : Nat} (h : i < 1000000000000) : IntKind.i64.wrap ((i : Int) + 1) = ((i + 1 : Nat) : Int) := by rw [wi64 (by omega)]; omega
theorem idx_nat {α : Type} (xs : List α) (i : Nat) : idx xs (i : Int) = xs[i]? := by
  unfold idx
  rw [if_pos (by omega), Int.toNat_natCast]
theorem idx_some' {α : Type} {xs : List α} {i : Nat} (h : i < xs.length) : idx xs (i : Int) = some xs[i] := by rw [idx_nat, List.getElem?_eq_getElem h]
theorem apd_ok {α : Type} {b : Nat} {xs ys : List α} (h : (xs.length + ys.length) * b ≤ 140737488355328) : apd b xs ys = some (xs ++ ys) := if_pos h
theorem mkl_ok {α : Type} {b : Nat} {n c : Int} {x : α} (h0 : 0 ≤ n) (h1 : n ≤ c) (h2 : (b : Int) * c ≤ 140737488355328) : mkl b n c x = some (List.replicate n.toNat x) := if_pos ⟨h0, h1, h2⟩
theorem eqI_self (n : Int) : eqI n n = some () := if_pos rfl
theorem chkI_some {m n : Int} (h : 0 ≤ m ∧ m < n) : chkI m n = some () := if_pos h
theorem chkS_some {l h n : Int} (q : 0 ≤ l ∧ l ≤ h ∧ h ≤ n) : chkS l h n = some () := if_pos q
theorem amb_e {ρ : Type} {ne : Bool} {f : Bool → Option ρ} {e : Bool} (h : e = true → f true = f false) : amb e ne f = f ne := by
  unfold amb
  cases e with
  | false => rfl
  | true =>
    rw [if_pos rfl, if_pos (h rfl)]
    cases ne with
    | true => rfl
    | false => exact h rfl
/-- One round of a loop. -/
theorem lp_next {σ ξ : Type} {body : σ → Option (σ ⊕ ξ)} {s s' : σ} (h : body s = some (.inl s')) : lpU body s = lpU body s' := by rw [lpU_eq, h]
theorem lp_end {σ ξ : Type} {body : σ → Option (σ ⊕ ξ)} {s : σ} {x : ξ} (h : body s = some (.inr x)) : lpU body s = some x := by rw [lpU_eq, h]
theorem drop_cons' {α : Type} {l : List α} {i : Nat} (h : i < l.length) : l.drop i = l[i] :: l.drop (i + 1) := List.drop_eq_getElem_cons h
/-- A loop over two lists held against each other. -/
theorem eq_step {α : Type} {x y : List α} (hl : x.length = y.length) {i : Nat} (hi : i < x.length) : (x.drop i = y.drop i) ↔ (x[i] = y[i]'(by omega) ∧ x.drop (i + 1) = y.drop (i + 1)) := by
  rw [drop_cons' hi, drop_cons' (show i < y.length by omega), List.cons.injEq]
theorem len_ne {α : Type} {x y : List α} (h : ((x.length : Int) != (y.length : Int)) = true) : x ≠ y := by
  intro e; subst e; simp at h
theorem len_eq {α : Type} {x y : List α} (h : ((x.length : Int) != (y.length : Int)) = false) : x.length = y.length := by
  have : (x.length : Int) = y.length := by simpa using h
  omega
end Go.Proofs.Ytmbhpchkhilheaa.Ev.U
namespace Go.Proofs.Ytmbhpchkhilheaa.Ev.U
open Go
theorem l44 (x y : List Int) (hl : x.length = y.length) (hb : x.length < 1000000000) : ∀ k i, i + k = x.length → lpU g44x0 (x, y, (x.length : Int), (i : Int)) = some (if x.drop i = y.drop i then .inl () else .inr false)
  | 0, i, hi => by
    have hd : decide ((i : Int) < (x.length : Int)) = false := decide_eq_false (by omega)
    rw [lp_end (x := .inl ()) (by simp only [g44x0, hd, Bool.false_eq_true, if_false])]
    rw [List.drop_of_length_le (by omega), List.drop_of_length_le (by omega), if_pos rfl]
  | k + 1, i, hi => by
    have hd : decide ((i : Int) < (x.length : Int)) = true := decide_eq_true (by omega)
    have h1 : i < x.length := by omega
    have hs := eq_step hl h1
    by_cases e : x[i] = y[i]'(by omega)
    · rw [lp_next (s' := (x, y, (x.length : Int), ((i + 1 : Nat) : Int))) (by simp [h1, g44x0, hd, idx_some' h1, idx_some' (show i < y.length by omega), e, wnext (show i < 1000000000000 by omega)]), l44 x y hl hb k (i + 1) (by omega)]
      congr 1
      simp only [hs, e, true_and]
    · rw [lp_end (x := .inr false) (by simp [h1, g44x0, hd, idx_some' h1, idx_some' (show i < y.length by omega), e])]
      rw [if_neg fun h => e (hs.1 h).1]
theorem w44 (x y : List Int) (hb : x.length < 1000000000) : g44 x y = some (decide (x = y)) := by
  unfold g44
  cases h : ((x.length : Int) != (y.length : Int)) with
  | true => rw [if_pos rfl, decide_eq_false (len_ne h)]
  | false =>
    have hl := len_eq h
    rw [if_neg (by simp), show ((0 : Int)) = ((0 : Nat) : Int) from rfl, l44 x y hl hb x.length 0 (by omega)]
    by_cases e : x = y
    · subst e; simp
    · simp [e]
theorem l31 (x y : List Claim) (hl : x.length = y.length) (hb : x.length < 1000000000) : ∀ k i, i + k = x.length → lpU g31x0 (x, y, (x.length : Int), (i : Int)) = some (if x.drop i = y.drop i then .inl () else .inr false)
  | 0, i, hi => by
    have hd : decide ((i : Int) < (x.length : Int)) = false := decide_eq_false (by omega)
    rw [lp_end (x := .inl ()) (by simp only [g31x0, hd, Bool.false_eq_true, if_false])]
    rw [List.drop_of_length_le (by omega), List.drop_of_length_le (by omega), if_pos rfl]
  | k + 1, i, hi => by
    have hd : decide ((i : Int) < (x.length : Int)) = true := decide_eq_true (by omega)
    have h1 : i < x.length := by omega
    have hs := eq_step hl h1
    have hc : ((x[i].1 == (y[i]'(by omega)).1) && ((x[i].2 == (y[i]'(by omega)).2) && true)) = decide (x[i] = y[i]'(by omega)) := by
      rw [Bool.eq_iff_iff]; simp [Prod.ext_iff]
    by_cases e : x[i] = y[i]'(by omega)
    · rw [lp_next (s' := (x, y, (x.length : Int), ((i + 1 : Nat) : Int))) (by
        simp only [g31x0, hd, if_true, idx_some' h1, idx_some' (show i < y.length by omega), Option.bind_some, hc, decide_eq_true e, Bool.not_true, Bool.false_eq_true, if_false, wnext (show i < 1000000000000 by omega)]), l31 x y hl hb k (i + 1) (by omega)]
      congr 1
      simp only [hs, e, true_and]
    · rw [lp_end (x := .inr false) (by simp only [g31x0, hd, if_true, idx_some' h1, idx_some' (show i < y.length by omega), Option.bind_some, hc, decide_eq_false e, Bool.not_false])]
      rw [if_neg fun h => e (hs.1 h).1]
theorem w31 (x y : List Claim) (hb : x.length < 1000000000) : g31 x y = some (decide (x = y)) := by
  unfold g31
  cases h : ((x.length : Int) != (y.length : Int)) with
  | true => rw [if_pos rfl, decide_eq_false (len_ne h)]
  | false =>
    have hl := len_eq h
    rw [if_neg (by simp), show ((0 : Int)) = ((0 : Nat) : Int) from rfl, l31 x y hl hb x.length 0 (by omega)]
    by_cases e : x = y
    · subst e; simp
    · simp [e]
theorem l18 (x y : List Int) (hl : x.length = y.length) (hb : x.length < 1000000000) : ∀ k i, i + k = x.length → lpU g18x0 (x, y, (i : Int)) = some (if x.drop i = y.drop i then .inl () else .inr false)
  | 0, i, hi => by
    have hd : decide ((i : Int) < (x.length : Int)) = false := decide_eq_false (by omega)
    rw [lp_end (x := .inl ()) (by simp only [g18x0, hd, Bool.false_eq_true, if_false])]
    rw [List.drop_of_length_le (by omega), List.drop_of_length_le (by omega), if_pos rfl]
  | k + 1, i, hi => by
    have hd : decide ((i : Int) < (x.length : Int)) = true := decide_eq_true (by omega)
    have h1 : i < x.length := by omega
    have hs := eq_step hl h1
    by_cases e : x[i] = y[i]'(by omega)
    · rw [lp_next (s' := (x, y, ((i + 1 : Nat) : Int))) (by simp [h1, g18x0, hd, idx_some' h1, idx_some' (show i < y.length by omega), e, wnext (show i < 1000000000000 by omega)]), l18 x y hl hb k (i + 1) (by omega)]
      congr 1
      simp only [hs, e, true_and]
    · rw [lp_end (x := .inr false) (by simp [h1, g18x0, hd, idx_some' h1, idx_some' (show i < y.length by omega), e])]
      rw [if_neg fun h => e (hs.1 h).1]
theorem w18 (x y : List Int) (hb : x.length < 1000000000) : g18 x y = some (decide (x = y)) := by
  unfold g18
  cases h : ((x.length : Int) != (y.length : Int)) with
  | true => rw [if_pos rfl, decide_eq_false (len_ne h)]
  | false =>
    have hl := len_eq h
    rw [if_neg (by simp), show ((0 : Int)) = ((0 : Nat) : Int) from rfl, l18 x y hl hb x.length 0 (by omega)]
    by_cases e : x = y
    · subst e; simp
    · simp [e]
theorem w29 (x y : List Int) (hb : x.length < 1000000000) : g29 x y = some (decide (x = y)) := by unfold g29; rw [w44 x y hb]; rfl
theorem w33 (x : List Int) (hb : x.length < 1000000000) : g33 x = some x := by
  unfold g33
  rw [amb_e fun h => by
    obtain rfl : x = [] := by simpa using h
    rfl]
  rw [if_neg (by simp), apd_ok (by simp; omega)]; rfl
theorem w41 (x : List Claim) (hb : x.length < 1000000000) : g41 x = some x := by
  unfold g41
  rw [amb_e fun h => by
    obtain rfl : x = [] := by simpa using h
    rfl]
  rw [if_neg (by simp), apd_ok (by simp; omega)]; rfl
/-- Sessions that are gone through. -/
structure SmT (a : Taking) : Prop where
  b : a.2.2.2.1.length < 1000000
  g : a.2.2.2.2.1.length < 1000000
theorem w12 (a : Taking) (h : SmT a) : g12 a = some a := by
  unfold g12
  have hb := h.b
  have hg := h.g
  rw [apd_ok (by simp; omega), Option.bind_some, apd_ok (by simp; omega)]; rfl
/-- Are both the same? -/
def sameT (a b : Taking) : Bool := a.1 == b.1 && a.2.1 == b.2.1 && a.2.2.1 == b.2.2.1 && decide (a.2.2.2.1 = b.2.2.2.1) && decide (a.2.2.2.2.1 = b.2.2.2.2.1) && a.2.2.2.2.2.1 == b.2.2.2.2.2.1 && a.2.2.2.2.2.2.1 == b.2.2.2.2.2.2.1 && a.2.2.2.2.2.2.2.1 == b.2.2.2.2.2.2.2.1 && a.2.2.2.2.2.2.2.2 == b.2.2.2.2.2.2.2.2
theorem sameT_iff (a b : Taking) : sameT a b = true ↔ a = b := by
  obtain ⟨a1, a2, a3, a4, a5, a6, a7, a8, a9⟩ := a
  obtain ⟨b1, b2, b3, b4, b5, b6, b7, b8, b9⟩ := b
  simp [sameT, Prod.ext_iff, and_assoc]
theorem sameT_self (a : Taking) : sameT a a = true := (sameT_iff a a).2 rfl
theorem w10 (a b : Taking) (h : SmT a) : g10 a b = some (sameT a b) := by
  have hb := h.b
  have hg := h.g
  simp only [g10, w29 _ _ (show a.2.2.2.1.length < 1000000000 by omega), w31 _ _ (show a.2.2.2.2.1.length < 1000000000 by omega), sameT]
  generalize (a.1 == b.1) = c1, (a.2.1 == b.2.1) = c2, (a.2.2.1 == b.2.2.1) = c3, decide (a.2.2.2.1 = b.2.2.2.1) = c4, decide (a.2.2.2.2.1 = b.2.2.2.2.1) = c5, (a.2.2.2.2.2.1 == b.2.2.2.2.2.1) = c6, (a.2.2.2.2.2.2.1 == b.2.2.2.2.2.2.1) = c7, (a.2.2.2.2.2.2.2.1 == b.2.2.2.2.2.2.2.1) = c8, (a.2.2.2.2.2.2.2.2 == b.2.2.2.2.2.2.2.2) = c9
  cases c1 <;> try rfl
  cases c2 <;> try rfl
  cases c3 <;> try rfl
  cases c4 <;> try rfl
  cases c5 <;> try rfl
  cases c6 <;> try rfl
  cases c7 <;> try rfl
  cases c8 <;> try rfl
theorem l11 (x y : List Claim) (hl : x.length = y.length) (hb : x.length < 1000000000) (a1 a2 a3 : Int) (a4 : List Int) (a6 a7 a8 a9 b1 b2 b3 : Int) (b4 : List Int) (b6 b7 b8 b9 : Int) : ∀ k i, i + k = x.length →
    lpU g11x0 ((i : Int), a1, a2, a3, a4, x, a6, a7, a8, a9, b1, b2, b3, b4, y, b6, b7, b8, b9) = some (if x.drop i = y.drop i then .inl () else .inr false)
  | 0, i, hi => by
    have hd : decide ((i : Int) < (x.length : Int)) = false := decide_eq_false (by omega)
    rw [lp_end (x := .inl ()) (by simp only [g11x0, hd, Bool.false_eq_true, if_false])]
    rw [List.drop_of_length_le (by omega), List.drop_of_length_le (by omega), if_pos rfl]
  | k + 1, i, hi => by
    have hd : decide ((i : Int) < (x.length : Int)) = true := decide_eq_true (by omega)
    have h1 : i < x.length := by omega
    have hs := eq_step hl h1
    have hc : ((x[i].1 == (y[i]'(by omega)).1) && ((x[i].2 == (y[i]'(by omega)).2) && true)) = decide (x[i] = y[i]'(by omega)) := by
      rw [Bool.eq_iff_iff]; simp [Prod.ext_iff]
    by_cases e : x[i] = y[i]'(by omega)
    · rw [lp_next (s' := (((i + 1 : Nat) : Int), a1, a2, a3, a4, x, a6, a7, a8, a9, b1, b2, b3, b4, y, b6, b7, b8, b9)) (by
        simp only [g11x0, hd, if_true, idx_some' h1, idx_some' (show i < y.length by omega), Option.bind_some, hc, decide_eq_true e, Bool.not_true, Bool.false_eq_true, if_false, wnext (show i < 1000000000000 by omega)]), l11 x y hl hb a1 a2 a3 a4 a6 a7 a8 a9 b1 b2 b3 b4 b6 b7 b8 b9 k (i + 1) (by omega)]
      congr 1
      simp only [hs, e, true_and]
    · rw [lp_end (x := .inr false) (by simp only [g11x0, hd, if_true, idx_some' h1, idx_some' (show i < y.length by omega), Option.bind_some, hc, decide_eq_false e, Bool.not_false])]
      rw [if_neg fun h => e (hs.1 h).1]
theorem w11 (a b : Taking) (h : SmT a) : g11 a b = some (sameT a b) := by
  have hb := h.b
  have hg := h.g
  obtain ⟨a1, a2, a3, a4, a5, a6, a7, a8, a9⟩ := a
  obtain ⟨b1, b2, b3, b4, b5, b6, b7, b8, b9⟩ := b
  simp only at hb hg
  simp only [g11, sameT, w18 a4 b4 (by omega)]
  by_cases hl : a5.length = b5.length
  · have := l11 a5 b5 hl (by omega) a1 a2 a3 a4 a6 a7 a8 a9 b1 b2 b3 b4 b6 b7 b8 b9 a5.length 0 (by omega)
    rw [show ((0 : Nat) : Int) = 0 from rfl] at this
    rw [this]
    have hn : ((a5.length : Int) != (b5.length : Int)) = false := by simp [hl]
    rw [hn]
    simp only [List.drop_zero]
    have e5 : (if a5 = b5 then (Sum.inl () : Unit ⊕ Bool) else .inr false) = if decide (a5 = b5) = true then .inl () else .inr false := by simp
    rw [e5]
    simp only [bne]
    generalize (a1 == b1) = c1, (a2 == b2) = c2, (a3 == b3) = c3, decide (a4 = b4) = c4, decide (a5 = b5) = c5, (a6 == b6) = c6, (a7 == b7) = c7, (a8 == b8) = c8, (a9 == b9) = c9
    cases c1 <;> try rfl
    cases c2 <;> try rfl
    cases c3 <;> try rfl
    cases c4 <;> try rfl
    cases c5 <;> cases c6 <;> cases c7 <;> cases c8 <;> cases c9 <;> rfl
  · have hn : ((a5.length : Int) != (b5.length : Int)) = true := by simp; omega
    have h5 : decide (a5 = b5) = false := decide_eq_false fun e => hl (by rw [e])
    rw [hn, h5]
    simp only [bne]
    generalize (a1 == b1) = c1, (a2 == b2) = c2, (a3 == b3) = c3, decide (a4 = b4) = c4, (a6 == b6) = c6, (a7 == b7) = c7, (a8 == b8) = c8, (a9 == b9) = c9
    cases c1 <;> try rfl
    cases c2 <;> try rfl
    cases c3 <;> try rfl
    cases c4 <;> rfl
end Go.Proofs.Ytmbhpchkhilheaa.Ev.U
namespace Go.Proofs.Ytmbhpchkhilheaa.Ev.U
open Go
def wholeB (a : Taking) : Bool := match a.2.2.2.2.1 with
  | [c] => c.1 == 0 && c.2 == a.2.2.1
  | _ => false
theorem w32 (a : Taking) : g32 a = some (wholeB a) := by
  obtain ⟨a1, a2, a3, a4, a5, a6, a7, a8, a9⟩ := a
  match a5 with
  | [] => rfl
  | [c] => simp [g32, wholeB, idx]
  | c :: d :: r =>
    have h : (((c :: d :: r).length : Int) == 1) = false := by simp; omega
    simp only [g32, h, wholeB]; rfl
theorem w34 (a : Taking) : g34 a = some (wholeB a) := by
  obtain ⟨a1, a2, a3, a4, a5, a6, a7, a8, a9⟩ := a
  match a5 with
  | [] => rfl
  | [c] =>
    by_cases h : c.1 = 0
    · simp [g34, wholeB, idx, h]
    · simp [g34, wholeB, idx, h]
  | c :: d :: r =>
    have h : (((c :: d :: r).length : Int) == 1) = false := by simp; omega
    simp only [g34, h, wholeB]; rfl
/-- Claims in their order, with room between them. -/
def chain (tot : Int) : Int → List Claim → Bool
  | _, [] => true
  | e, c :: r => decide (c.2 > 0) && decide (c.1 > e) && decide (c.1 ≤ tot) && decide (c.2 ≤ tot - c.1) && chain tot (c.1 + c.2) r
theorem chain_cons {tot e : Int} {c : Claim} {r : List Claim} : chain tot e (c :: r) = true ↔ 0 < c.2 ∧ e < c.1 ∧ c.1 + c.2 ≤ tot ∧ chain tot (c.1 + c.2) r = true := by
  simp only [chain, Bool.and_eq_true, decide_eq_true_eq]
  constructor
  · rintro ⟨⟨⟨⟨h1, h2⟩, h3⟩, h4⟩, h5⟩; exact ⟨by omega, by omega, by omega, h5⟩
  · rintro ⟨h1, h2, h3, h5⟩; exact ⟨⟨⟨⟨by omega, by omega⟩, by omega⟩, by omega⟩, h5⟩
theorem l16 (tot : Int) (got : List Claim) (hb : got.length < 1000000000) (a1 a2 : Int) (a4 : List Int) (a5 : List Claim) (a6 a7 a8 a9 : Int) : ∀ k i e ok, i + k = got.length → (ok = true → 1 ≤ tot ∧ tot ≤ 512 ∧ -1 ≤ e) →
    lpU g16x0 (ok, e, got, (got.length : Int), (i : Int), a1, a2, tot, a4, a5, a6, a7, a8, a9) = some (if (got.drop i).isEmpty || (ok && chain tot e (got.drop i)) then .inl (ok, a1, a2, tot, a4, a5, a6, a7, a8, a9) else .inr 250)
  | 0, i, e, ok, hi, _ => by
    have hd : decide ((i : Int) < (got.length : Int)) = false := decide_eq_false (by omega)
    rw [lp_end (x := .inl (ok, a1, a2, tot, a4, a5, a6, a7, a8, a9)) (by simp only [g16x0, hd, Bool.false_eq_true, if_false])]
    rw [List.drop_of_length_le (by omega)]; rfl
  | k + 1, i, e, ok, hi, hok => by
    have hd : decide ((i : Int) < (got.length : Int)) = true := decide_eq_true (by omega)
    have h1 : i < got.length := by omega
    rw [drop_cons' h1]
    obtain ⟨c, hc⟩ : ∃ c, got[i] = c := ⟨_, rfl⟩
    have hx : idx got (i : Int) = some c := by rw [idx_some' h1, hc]
    rw [hc]
    cases hch : (ok && (decide (c.2 > 0) && decide (c.1 > e) && decide (c.1 ≤ tot) && decide (c.2 ≤ tot - c.1))) with
    | false =>
      have hx20 : (if (if (if (if ok then decide (c.2 > 0) else false) then decide (c.1 > e) else false) then decide (c.1 ≤ tot) else false) then decide (c.2 ≤ IntKind.i64.wrap (tot - c.1)) else false) = false := by
        cases ok with
        | false => rfl
        | true =>
          obtain ⟨t1, t2, t3⟩ := hok rfl
          cases q1 : decide (c.2 > 0)
          · rfl
          cases q2 : decide (c.1 > e)
          · rfl
          cases q3 : decide (c.1 ≤ tot)
          · rfl
          have := of_decide_eq_true q2
          have := of_decide_eq_true q3
          rw [wi64 (by omega)]
          rw [q1, q2, q3] at hch
          simpa using hch
      rw [lp_end (x := .inr 250) (by simp only [g16x0, hd, if_true, hx, Option.bind_some, hx20, Bool.not_false])]
      have : (ok && chain tot e (c :: got.drop (i + 1))) = false := by
        simp only [chain, ← Bool.and_assoc] at hch ⊢
        rw [hch]; rfl
      simp [this]
    | true =>
      simp only [Bool.and_eq_true, decide_eq_true_eq] at hch
      obtain ⟨rfl, ⟨⟨q1, q2⟩, q3⟩, q4⟩ := hch
      obtain ⟨t1, t2, t3⟩ := hok rfl
      have hx20 : (if (if (if decide (c.2 > 0) then decide (c.1 > e) else false) then decide (c.1 ≤ tot) else false) then decide (c.2 ≤ IntKind.i64.wrap (tot - c.1)) else false) = true := by
        rw [wi64 (by omega), decide_eq_true q1, decide_eq_true q2, decide_eq_true q3, decide_eq_true q4]; rfl
      rw [lp_next (s' := (true, c.1 + c.2, got, (got.length : Int), ((i + 1 : Nat) : Int), a1, a2, tot, a4, a5, a6, a7, a8, a9)) (by
        simp only [g16x0, hd, if_true, hx, Option.bind_some, hx20, Bool.not_true, Bool.false_eq_true, if_false, wnext (show i < 1000000000000 by omega), wi64 (show -9223372036854775808 ≤ c.1 + c.2 ∧ c.1 + c.2 ≤ 9223372036854775807 by omega)]),
        l16 tot got hb a1 a2 a4 a5 a6 a7 a8 a9 k (i + 1) (c.1 + c.2) true (by omega) fun _ => ⟨t1, t2, by omega⟩]
      have : chain tot e (c :: got.drop (i + 1)) = chain tot (c.1 + c.2) (got.drop (i + 1)) := by
        simp only [chain, decide_eq_true q1, decide_eq_true q2, decide_eq_true q3, decide_eq_true q4, Bool.true_and]
      rw [this]
      cases hr : got.drop (i + 1) <;> simp [chain]
def inB (x a b : Int) : Bool := decide (a ≤ x) && decide (x ≤ b)
theorem w35 (x a b : Int) : h35 x a b = inB x a b := by
  show (if decide (x ≥ a) = true then decide (x ≤ b) else false) = (decide (x ≥ a) && decide (x ≤ b))
  cases decide (x ≥ a) <;> rfl
/-- What is asked ahead of the claims; behind them. -/
def preB (a : Taking) : Bool := inB a.1 1 6 && decide (0 < a.2.1) && inB a.2.2.1 1 512 && ((a.2.2.2.1.length : Int) == a.2.2.1)
def postB (a : Taking) : Bool := inB a.2.2.2.2.2.2.2.1 1 65536 && inB a.2.2.2.2.2.2.2.2 0 1114112 && (if a.2.2.2.2.2.2.1 == 1 then !wholeB a else if a.2.2.2.2.2.2.1 == 2 then wholeB a else a.2.2.2.2.2.2.1 == 4)
/-- May a session be? -/
def rightB (a : Taking) : Bool := preB a && chain a.2.2.1 (-1) a.2.2.2.2.1 && postB a
theorem w16 (a : Taking) (h : SmT a) : g16 a = some (if rightB a then 0 else 250) := by
  have hg := h.g
  have hpre : (if (if (if (h35 a.1 1 6) then (decide (a.2.1 > 0)) else false) then (h35 a.2.2.1 1 512) else false) then ((a.2.2.2.1.length : Int) == a.2.2.1) else false) = preB a := by
    simp only [preB, w35]
    cases inB a.1 1 6 <;> cases decide (a.2.1 > 0) <;> cases inB a.2.2.1 1 512 <;> rfl
  unfold g16
  rw [hpre]
  have hl := l16 a.2.2.1 a.2.2.2.2.1 (by omega) a.1 a.2.1 a.2.2.2.1 a.2.2.2.2.1 a.2.2.2.2.2.1 a.2.2.2.2.2.2.1 a.2.2.2.2.2.2.2.1 a.2.2.2.2.2.2.2.2 a.2.2.2.2.1.length 0 (-1) (preB a) (by omega) (fun hp => by
    simp only [preB, inB, Bool.and_eq_true, decide_eq_true_eq] at hp
    omega)
  rw [show ((0 : Nat) : Int) = 0 from rfl, List.drop_zero] at hl
  rw [hl, Option.bind_some]
  have hw : ∀ z : Int × Int × Int × (List Int) × (List Claim) × Int × Int × Int × Int, g32 z = some (wholeB z) := w32
  cases hp : preB a with
  | true =>
    cases hc : chain a.2.2.1 (-1) a.2.2.2.2.1 with
    | false =>
      have : a.2.2.2.2.1.isEmpty = false := by
        cases hq : a.2.2.2.2.1 with
        | nil => rw [hq] at hc; cases hc
        | cons => rfl
      simp only [this, rightB, hp, hc]; rfl
    | true =>
      simp only [Bool.and_self, Bool.or_true, if_true, rightB, hp, hc, postB, w35, w32]
      generalize inB a.2.2.2.2.2.2.2.1 1 65536 = c1, inB a.2.2.2.2.2.2.2.2 0 1114112 = c2, (a.2.2.2.2.2.2.1 == 1) = c3, (a.2.2.2.2.2.2.1 == 2) = c4, (a.2.2.2.2.2.2.1 == 4) = c5, wholeB a = c6
      cases c1 <;> cases c2 <;> cases c3 <;> cases c4 <;> cases c5 <;> cases c6 <;> rfl
  | false =>
    simp only [rightB, hp, Bool.false_and, Bool.or_false]
    cases hq : a.2.2.2.2.1.isEmpty with
    | false => rfl
    | true =>
      simp only [if_true, w35, w32, Bool.false_eq_true, if_false, Option.bind_some]
      generalize (a.2.2.2.2.2.2.1 == 1) = c3, (a.2.2.2.2.2.2.1 == 2) = c4, (a.2.2.2.2.2.2.1 == 4) = c5
      cases c3 <;> cases c4 <;> cases c5 <;> rfl
end Go.Proofs.Ytmbhpchkhilheaa.Ev.U
namespace Go.Proofs.Ytmbhpchkhilheaa.Ev.U
open Go
def inC (got : List Claim) (x : Int) : Bool := got.any fun c => decide (c.1 ≤ x) && decide (x < c.1 + c.2)
theorem inC_cons (c : Claim) (r : List Claim) (x : Int) : inC (c :: r) x = (decide (c.1 ≤ x) && decide (x < c.1 + c.2) || inC r x) := rfl
def Bd (got : List Claim) : Prop := ∀ c ∈ got, -1000000 ≤ c.1 ∧ c.1 ≤ 1000000 ∧ -1000000 ≤ c.2 ∧ c.2 ≤ 1000000
theorem chain_bd {tot : Int} (ht : tot ≤ 1000) : ∀ {l : List Claim} {e : Int}, -1 ≤ e → chain tot e l = true → ∀ c ∈ l, e < c.1 ∧ 0 < c.2 ∧ c.1 + c.2 ≤ tot
  | [], e, he, h, c, hc => by cases hc
  | d :: r, e, he, h, c, hc => by
    obtain ⟨h1, h2, h3, h4⟩ := chain_cons.1 h
    rcases List.mem_cons.1 hc with rfl | hc
    · exact ⟨h2, h1, h3⟩
    · have := chain_bd ht (e := d.1 + d.2) (by omega) h4 c hc
      omega
theorem chain_Bd {tot : Int} (ht : tot ≤ 1000) {l : List Claim} (h : chain tot (-1) l = true) : Bd l := fun c hc => by
  have := chain_bd ht (by omega) h c hc
  omega
theorem l17 (got : List Claim) (hb : got.length < 1000000000) (hok : Bd got) (x : Int) : ∀ k i, i + k = got.length → lpU g17x0 (got, x, (i : Int)) = some (if inC (got.drop i) x then .inr true else .inl ())
  | 0, i, hi => by
    have hd : decide ((i : Int) < (got.length : Int)) = false := decide_eq_false (by omega)
    rw [lp_end (x := .inl ()) (by simp only [g17x0, hd, Bool.false_eq_true, if_false])]
    rw [List.drop_of_length_le (by omega)]; rfl
  | k + 1, i, hi => by
    have hd : decide ((i : Int) < (got.length : Int)) = true := decide_eq_true (by omega)
    have h1 : i < got.length := by omega
    obtain ⟨c, hc⟩ : ∃ c, got[i] = c := ⟨_, rfl⟩
    have hx : idx got (i : Int) = some c := by rw [idx_some' h1, hc]
    have hm := hok c (by rw [← hc]; exact List.getElem_mem h1)
    rw [drop_cons' h1, hc, inC_cons]
    cases q1 : decide (x ≥ c.1) with
    | false =>
      have q1' : decide (c.1 ≤ x) = false := q1
      rw [lp_next (s' := (got, x, ((i + 1 : Nat) : Int))) (by simp only [g17x0, hd, if_true, hx, Option.bind_some, q1, Bool.false_eq_true, if_false, wnext (show i < 1000000000000 by omega)]), l17 got hb hok x k (i + 1) (by omega)]
      rfl
    | true =>
      have q1' : decide (c.1 ≤ x) = true := q1
      cases q2 : decide (x < c.1 + c.2) with
      | false =>
        rw [lp_next (s' := (got, x, ((i + 1 : Nat) : Int))) (by simp only [g17x0, hd, if_true, hx, Option.bind_some, q1, wi64 (show -9223372036854775808 ≤ c.1 + c.2 ∧ c.1 + c.2 ≤ 9223372036854775807 by omega), q2, Bool.false_eq_true, if_false, wnext (show i < 1000000000000 by omega)]), l17 got hb hok x k (i + 1) (by omega)]
        rfl
      | true =>
        rw [lp_end (x := .inr true) (by simp only [g17x0, hd, if_true, hx, Option.bind_some, q1, wi64 (show -9223372036854775808 ≤ c.1 + c.2 ∧ c.1 + c.2 ≤ 9223372036854775807 by omega), q2])]
        rfl
theorem w17 (got : List Claim) (hb : got.length < 1000000000) (hok : Bd got) (x : Int) : g17 got x = some (inC got x) := by
  unfold g17
  have := l17 got hb hok x got.length 0 (by omega)
  rw [show ((0 : Nat) : Int) = 0 from rfl, List.drop_zero] at this
  rw [this]
  cases inC got x <;> rfl
/-! ### Right -/
def b33 (c : Claim) (tot : Int) : Bool := if (if (if (if decide (c.2 < 1) then true else decide (c.2 > 512)) then true else decide (c.1 < 0)) then true else decide (c.1 > 512)) then true else decide (IntKind.i64.wrap (c.1 + c.2) > tot)
theorem b33_f {c : Claim} {tot : Int} : b33 c tot = false ↔ 1 ≤ c.2 ∧ c.2 ≤ 512 ∧ 0 ≤ c.1 ∧ c.1 ≤ 512 ∧ c.1 + c.2 ≤ tot := by
  unfold b33
  cases q1 : decide (c.2 < 1)
  · cases q2 : decide (c.2 > 512)
    · cases q3 : decide (c.1 < 0)
      · cases q4 : decide (c.1 > 512)
        · have h1 := of_decide_eq_false q1
          have h2 := of_decide_eq_false q2
          have h3 := of_decide_eq_false q3
          have h4 := of_decide_eq_false q4
          rw [wi64 (by omega)]
          simp only [Bool.false_eq_true, if_false, decide_eq_false_iff_not]
          omega
        · have := of_decide_eq_true q4
          simp; omega
      · have := of_decide_eq_true q3
        simp; omega
    · have := of_decide_eq_true q2
      simp; omega
  · have := of_decide_eq_true q1
    simp; omega
theorem l15 (a1 a2 tot : Int) (a4 : List Int) (got : List Claim) (a6 a7 a8 a9 : Int) (hb : got.length < 1000000000) (ht : 1 ≤ tot ∧ tot ≤ 512) : ∀ k i e, i + k = got.length →
    ((i = 0 ∧ e = -1) ∨ ∃ p, 0 < i ∧ got[i - 1]? = some p ∧ e = p.1 + p.2 ∧ 0 ≤ p.1 ∧ p.1 ≤ 512 ∧ 1 ≤ p.2 ∧ p.2 ≤ 512) →
    lpU g15x0 ((i : Int), a1, a2, tot, a4, got, a6, a7, a8, a9) = some (if chain tot e (got.drop i) then .inl (a1, a2, tot, a4, got, a6, a7, a8, a9) else .inr false)
  | 0, i, e, hi, _ => by
    have hd : decide ((i : Int) < (got.length : Int)) = false := decide_eq_false (by omega)
    rw [lp_end (x := .inl (a1, a2, tot, a4, got, a6, a7, a8, a9)) (by simp only [g15x0, hd, Bool.false_eq_true, if_false])]
    rw [List.drop_of_length_le (by omega)]; rfl
  | k + 1, i, e, hi, hp => by
    have hd : decide ((i : Int) < (got.length : Int)) = true := decide_eq_true (by omega)
    have h1 : i < got.length := by omega
    obtain ⟨c, hc⟩ : ∃ c, got[i] = c := ⟨_, rfl⟩
    have hx : idx got (i : Int) = some c := by rw [idx_some' h1, hc]
    rw [drop_cons' h1, hc]
    have body : g15x0 ((i : Int), a1, a2, tot, a4, got, a6, a7, a8, a9) = some (if b33 c tot || (decide (0 < i) && decide (c.1 ≤ e)) then .inr (.inr false) else .inl (((i + 1 : Nat) : Int), a1, a2, tot, a4, got, a6, a7, a8, a9)) := by
      have hb33 : (if (if (if (if (decide (c.2 < (1 : Int))) then true else (decide (c.2 > (512 : Int)))) then true else (decide (c.1 < (0 : Int)))) then true else (decide (c.1 > (512 : Int)))) then true else (decide ((IntKind.i64.wrap (c.1 + c.2)) > tot))) = b33 c tot := rfl
      rcases hp with ⟨rfl, rfl⟩ | ⟨p, h0, hp, rfl, p1, p2, p3, p4⟩
      · have hi0 : decide (((0 : Nat) : Int) > 0) = false := rfl
        simp only [g15x0, hd, if_true, hx, Option.bind_some, hb33, hi0, Bool.and_false, Bool.false_eq_true, if_false, wnext (show 0 < 1000000000000 by omega)]
        cases b33 c tot <;> rfl
      · have hi0 : decide ((i : Int) > 0) = true := decide_eq_true (by omega)
        have hi0' : decide (0 < i) = true := decide_eq_true h0
        have hip : idx got (IntKind.i64.wrap ((i : Int) - 1)) = some p := by
          rw [wi64 (by omega), show ((i : Int) - 1) = ((i - 1 : Nat) : Int) by omega, idx_nat, hp]
        simp only [g15x0, hd, if_true, hx, Option.bind_some, hb33, hi0, hi0', Bool.and_true, hip, wnext (show i < 1000000000000 by omega)]
        cases b33 c tot
        · simp only [Bool.not_false, if_true, Option.bind_some, wi64 (show -9223372036854775808 ≤ p.1 + p.2 ∧ p.1 + p.2 ≤ 9223372036854775807 by omega), Bool.false_eq_true, if_false, Bool.false_or, Bool.true_and]
          cases decide (c.1 ≤ p.1 + p.2) <;> rfl
        · rfl
    have he : (i = 0 → e = -1) ∧ -1 ≤ e ∧ e ≤ 1024 := by
      rcases hp with ⟨h, h'⟩ | ⟨p, h0, hp, rfl, p1, p2, p3, p4⟩
      · omega
      · omega
    cases hcond : (b33 c tot || (decide (0 < i) && decide (c.1 ≤ e))) with
    | true =>
      rw [lp_end (x := .inr false) (by rw [body, hcond]; rfl)]
      have : chain tot e (c :: got.drop (i + 1)) = false := by
        cases hq : chain tot e (c :: got.drop (i + 1)) with
        | false => rfl
        | true =>
          obtain ⟨q1, q2, q3, q4⟩ := chain_cons.1 hq
          have hf : b33 c tot = false := b33_f.2 ⟨by omega, by omega, by omega, by omega, by omega⟩
          rw [hf] at hcond
          simp only [Bool.false_or, Bool.and_eq_true, decide_eq_true_eq] at hcond
          omega
      rw [this]; rfl
    | false =>
      simp only [Bool.or_eq_false_iff, Bool.and_eq_false_iff, decide_eq_false_iff_not] at hcond
      obtain ⟨hf, hq⟩ := hcond
      obtain ⟨q1, q2, q3, q4, q5⟩ := b33_f.1 hf
      have hq' : e < c.1 := by
        rcases hq with hq | hq
        · have := he.1 (by omega); omega
        · omega
      rw [lp_next (s' := (((i + 1 : Nat) : Int), a1, a2, tot, a4, got, a6, a7, a8, a9)) (by
        rw [body, hf]
        have : (decide (0 < i) && decide (c.1 ≤ e)) = false := by rw [decide_eq_false (show ¬ c.1 ≤ e by omega), Bool.and_false]
        rw [this]; rfl),
        l15 a1 a2 tot a4 got a6 a7 a8 a9 hb ht k (i + 1) (c.1 + c.2) (by omega) (.inr ⟨c, by omega, by rw [Nat.add_sub_cancel, List.getElem?_eq_getElem h1, hc], rfl, by omega, by omega, by omega, by omega⟩)]
      have : chain tot e (c :: got.drop (i + 1)) = chain tot (c.1 + c.2) (got.drop (i + 1)) := by
        simp only [chain, decide_eq_true (show c.2 > 0 by omega), decide_eq_true (show c.1 > e by omega), decide_eq_true (show c.1 ≤ tot by omega), decide_eq_true (show c.2 ≤ tot - c.1 by omega), Bool.true_and]
      rw [this]
theorem w15 (a : Taking) (h : SmT a) (hs : 0 ≤ a.2.1) : g15 a = some (rightB a) := by
  have hg := h.g
  have hpre : (if (if (if (if (if (if (if (if (if (decide (a.1 < (1 : Int))) then true else (decide (a.1 > (6 : Int)))) then true else (a.2.1 == (0 : Int))) then true else (decide (a.2.2.1 < (1 : Int)))) then true else (decide (a.2.2.1 > (512 : Int)))) then true else ((a.2.2.2.1.length : Int) != a.2.2.1)) then true else (decide (a.2.2.2.2.2.2.2.1 < (1 : Int)))) then true else (decide (a.2.2.2.2.2.2.2.1 > (65536 : Int)))) then true else (decide (a.2.2.2.2.2.2.2.2 < (0 : Int)))) then true else (decide (a.2.2.2.2.2.2.2.2 > (1114112 : Int)))) = !(preB a && (inB a.2.2.2.2.2.2.2.1 1 65536 && inB a.2.2.2.2.2.2.2.2 0 1114112)) := by
    rw [Bool.eq_iff_iff]
    simp only [preB, inB, Bool.not_eq_true', Bool.and_eq_false_iff, decide_eq_false_iff_not, beq_eq_false_iff_ne, ne_eq]
    simp only [Bool.if_true_left, Bool.or_eq_true, decide_eq_true_eq, beq_iff_eq, bne_iff_ne, ne_eq]
    omega
  unfold g15
  rw [hpre]
  cases hp : (preB a && (inB a.2.2.2.2.2.2.2.1 1 65536 && inB a.2.2.2.2.2.2.2.2 0 1114112)) with
  | false =>
    have : rightB a = false := by
      simp only [rightB, postB]
      simp only [Bool.and_eq_false_iff] at hp ⊢
      rcases hp with hp | hp | hp
      · exact .inl (.inl hp)
      · exact .inr (.inl (.inl hp))
      · exact .inr (.inl (.inr hp))
    rw [this]; rfl
  | true =>
    simp only [Bool.and_eq_true] at hp
    obtain ⟨hp, hp1, hp2⟩ := hp
    have ht : 1 ≤ a.2.2.1 ∧ a.2.2.1 ≤ 512 := by
      simp only [preB, inB, Bool.and_eq_true, decide_eq_true_eq] at hp
      omega
    have hl := l15 a.1 a.2.1 a.2.2.1 a.2.2.2.1 a.2.2.2.2.1 a.2.2.2.2.2.1 a.2.2.2.2.2.2.1 a.2.2.2.2.2.2.2.1 a.2.2.2.2.2.2.2.2 (by omega) ht a.2.2.2.2.1.length 0 (-1) (by omega) (.inl ⟨rfl, rfl⟩)
    rw [show ((0 : Nat) : Int) = 0 from rfl, List.drop_zero] at hl
    rw [hl]
    simp only [Bool.not_true, Bool.false_eq_true, if_false, Option.bind_some, rightB, hp, postB, hp1, hp2, Bool.true_and]
    cases hc : chain a.2.2.1 (-1) a.2.2.2.2.1 with
    | false => rfl
    | true =>
      simp only [if_true, Bool.true_and, w34]
      have x1 : ((a.2.2.2.2.2.2.1 == 1) && (a.2.2.2.2.2.2.1 == 2)) = false := by
        rw [Bool.and_eq_false_iff]; simp only [beq_eq_false_iff_ne, ne_eq]; omega
      have x2 : ((a.2.2.2.2.2.2.1 == 1) && (a.2.2.2.2.2.2.1 == 4)) = false := by
        rw [Bool.and_eq_false_iff]; simp only [beq_eq_false_iff_ne, ne_eq]; omega
      have x3 : ((a.2.2.2.2.2.2.1 == 2) && (a.2.2.2.2.2.2.1 == 4)) = false := by
        rw [Bool.and_eq_false_iff]; simp only [beq_eq_false_iff_ne, ne_eq]; omega
      clear hl hpre
      generalize (a.2.2.2.2.2.2.1 == 1) = c3, (a.2.2.2.2.2.2.1 == 2) = c4, (a.2.2.2.2.2.2.1 == 4) = c5, wholeB a = c6 at *
      cases c3 <;> cases c4 <;> cases c5 <;> cases c6 <;> first | rfl | exact absurd x1 (by decide) | exact absurd x2 (by decide) | exact absurd x3 (by decide)
end Go.Proofs.Ytmbhpchkhilheaa.Ev.U
namespace Go.Proofs.Ytmbhpchkhilheaa.Ev.U
open Go
def sumN : List Claim → Int
  | [] => 0
  | c :: r => c.2 + sumN r
theorem sum_chain {tot : Int} : ∀ {l : List Claim} {e : Int}, chain tot e l = true → 0 ≤ sumN l ∧ (l ≠ [] → sumN l + l.length ≤ tot - e)
  | [], e, h => ⟨Int.le_refl _, fun h => absurd rfl h⟩
  | c :: r, e, h => by
    obtain ⟨h1, h2, h3, h4⟩ := chain_cons.1 h
    obtain ⟨q1, q2⟩ := sum_chain h4
    refine ⟨by simp only [sumN]; omega, fun _ => ?_⟩
    simp only [sumN, List.length_cons]
    cases r with
    | nil => simp [sumN]; omega
    | cons d r => have := q2 (by simp); omega
theorem l14 (tot : Int) (got : List Claim) (hb : got.length < 1000000000) : ∀ (k i : Nat) (n : Int), i + k = got.length → (∃ e, chain tot e (got.drop i) = true ∧ 0 ≤ n ∧ n ≤ 1000 ∧ sumN (got.drop i) ≤ n) →
    lpU g14x0 (n, got, (got.length : Int), (i : Int)) = some (n - sumN (got.drop i))
  | 0, i, n, hi, _ => by
    have hd : decide ((i : Int) < (got.length : Int)) = false := decide_eq_false (by omega)
    rw [lp_end (x := n) (by simp only [g14x0, hd, Bool.false_eq_true, if_false])]
    rw [List.drop_of_length_le (by omega)]; simp [sumN]
  | k + 1, i, n, hi, h => by
    have hd : decide ((i : Int) < (got.length : Int)) = true := decide_eq_true (by omega)
    have h1 : i < got.length := by omega
    obtain ⟨e, hc, hn⟩ := h
    rw [drop_cons' h1] at hc hn ⊢
    obtain ⟨q1, q2, q3, q4⟩ := chain_cons.1 hc
    have hs := (sum_chain q4).1
    simp only [sumN] at hn ⊢
    rw [lp_next (s' := (n - got[i].2, got, (got.length : Int), ((i + 1 : Nat) : Int))) (by
      simp only [g14x0, hd, if_true, idx_some' h1, Option.bind_some, wnext (show i < 1000000000000 by omega), wi64 (show -9223372036854775808 ≤ n - got[i].2 ∧ n - got[i].2 ≤ 9223372036854775807 by omega)]),
      l14 tot got hb k (i + 1) (n - got[i].2) (by omega) ⟨_, q4, by omega, by omega, by omega⟩]
    congr 1; omega
theorem right_iff {a : Taking} : rightB a = true ↔ preB a = true ∧ chain a.2.2.1 (-1) a.2.2.2.2.1 = true ∧ postB a = true := by
  simp only [rightB, Bool.and_eq_true, and_assoc]
theorem right_tot {a : Taking} (h : rightB a = true) : 1 ≤ a.2.2.1 ∧ a.2.2.1 ≤ 512 ∧ (a.2.2.2.1.length : Int) = a.2.2.1 := by
  have := (right_iff.1 h).1
  simp only [preB, inB, Bool.and_eq_true, decide_eq_true_eq, beq_iff_eq] at this
  omega
theorem w14 (a : Taking) (h : SmT a) : g14 a = some (if rightB a then a.2.2.1 - sumN a.2.2.2.2.1 else 0) := by
  have hg := h.g
  unfold g14
  rw [w16 a h, Option.bind_some]
  cases hr : rightB a with
  | false => rfl
  | true =>
    obtain ⟨_, hc, _⟩ := right_iff.1 hr
    have ht := right_tot hr
    have hs := sum_chain hc
    have := l14 a.2.2.1 a.2.2.2.2.1 (by omega) a.2.2.2.2.1.length 0 a.2.2.1 (by omega) ⟨-1, by rw [List.drop_zero]; exact hc, by omega, by omega, by
      rw [List.drop_zero]
      by_cases hn : a.2.2.2.2.1 = []
      · rw [hn]; simp [sumN]; omega
      · have := hs.2 hn
        have : 0 < a.2.2.2.2.1.length := List.length_pos_iff.2 hn
        omega⟩
    rw [show ((0 : Nat) : Int) = 0 from rfl, List.drop_zero] at this
    simp only [if_true, this]; rfl
theorem w13 (a : Taking) (h : SmT a) : g13 a = some (if rightB a then (if wholeB a then (a.2.2.2.1, 0) else ([], 4)) else ([], 250)) := by
  have hb := h.b
  unfold g13
  rw [w16 a h, Option.bind_some]
  cases hr : rightB a with
  | false => rfl
  | true =>
    simp only [if_true, w32, Option.bind_some, w33 a.2.2.2.1 (by omega)]
    cases wholeB a <;> rfl
/-! ### Counting -/
def cnt (l : List Claim) : Int → Nat → Int
  | _, 0 => 0
  | i, k + 1 => (if inC l i then 0 else 1) + cnt l (i + 1) k
theorem cnt_add (l : List Claim) : ∀ (k m : Nat) (i : Int), cnt l i (k + m) = cnt l i k + cnt l (i + k) m
  | 0, m, i => by simp [cnt]
  | k + 1, m, i => by
    rw [show k + 1 + m = (k + m) + 1 by omega]
    simp only [cnt]
    rw [cnt_add l k m (i + 1), show i + 1 + (k : Int) = i + ((k + 1 : Nat) : Int) by omega]; omega
theorem cnt_out (l : List Claim) : ∀ (k : Nat) (i : Int), (∀ j, i ≤ j → j < i + k → inC l j = false) → cnt l i k = k
  | 0, i, _ => rfl
  | k + 1, i, h => by
    simp only [cnt]
    rw [h i (by omega) (by omega), cnt_out l k (i + 1) fun j h1 h2 => h j (by omega) (by omega)]
    simp; omega
theorem cnt_in (l : List Claim) : ∀ (k : Nat) (i : Int), (∀ j, i ≤ j → j < i + k → inC l j = true) → cnt l i k = 0
  | 0, i, _ => rfl
  | k + 1, i, h => by
    simp only [cnt]
    rw [h i (by omega) (by omega), cnt_in l k (i + 1) fun j h1 h2 => h j (by omega) (by omega)]
    simp
theorem cnt_congr (l l' : List Claim) : ∀ (k : Nat) (i : Int), (∀ j, i ≤ j → j < i + k → inC l j = inC l' j) → cnt l i k = cnt l' i k
  | 0, i, _ => rfl
  | k + 1, i, h => by
    simp only [cnt]
    rw [h i (by omega) (by omega), cnt_congr l l' k (i + 1) fun j h1 h2 => h j (by omega) (by omega)]
theorem inC_lo {tot : Int} : ∀ {l : List Claim} {e : Int}, chain tot e l = true → ∀ j, j ≤ e → inC l j = false
  | [], e, h, j, hj => rfl
  | c :: r, e, h, j, hj => by
    obtain ⟨h1, h2, h3, h4⟩ := chain_cons.1 h
    rw [inC_cons, inC_lo h4 j (by omega), decide_eq_false (show ¬ c.1 ≤ j by omega)]; rfl
theorem cnt_chain {tot : Int} : ∀ {l : List Claim} {e i : Int} {k : Nat}, chain tot e l = true → (∀ c ∈ l, i ≤ c.1) → i + k = tot → cnt l i k = k - sumN l
  | [], e, i, k, h, hi, hk => by rw [cnt_out [] k i fun _ _ _ => rfl]; simp [sumN]
  | c :: r, e, i, k, h, hi, hk => by
    obtain ⟨h1, h2, h3, h4⟩ := chain_cons.1 h
    have hic := hi c (by simp)
    obtain ⟨p, hp⟩ := Int.eq_ofNat_of_zero_le (show 0 ≤ c.1 - i by omega)
    obtain ⟨q, hq⟩ := Int.eq_ofNat_of_zero_le (show 0 ≤ c.2 by omega)
    obtain ⟨m, hm⟩ := Int.eq_ofNat_of_zero_le (show 0 ≤ tot - (c.1 + c.2) by omega)
    have hk' : k = p + (q + m) := by omega
    subst hk'
    rw [cnt_add, cnt_add]
    rw [cnt_out _ p i fun j j1 j2 => by
      rw [inC_cons, inC_lo h4 j (by omega), decide_eq_false (show ¬ c.1 ≤ j by omega)]; rfl]
    rw [cnt_in _ q _ fun j j1 j2 => by
      rw [inC_cons, decide_eq_true (show c.1 ≤ j by omega), decide_eq_true (show j < c.1 + c.2 by omega)]; rfl]
    rw [cnt_congr (c :: r) r m _ fun j j1 j2 => by
      rw [inC_cons, decide_eq_false (show ¬ j < c.1 + c.2 by omega), Bool.and_false]; rfl]
    rw [cnt_chain (tot := tot) (e := c.1 + c.2) h4 (fun d hd => by
      have : ∀ {l : List Claim} {e : Int}, chain tot e l = true → ∀ d ∈ l, e < d.1 := by
        intro l
        induction l with
        | nil => intro e _ d hd; cases hd
        | cons x l ih =>
          intro e hx d hd
          obtain ⟨x1, x2, x3, x4⟩ := chain_cons.1 hx
          rcases List.mem_cons.1 hd with rfl | hd
          · exact x2
          · have := ih x4 d hd; omega
      have := this h4 d hd
      omega) (by omega)]
    simp only [sumN]; omega
theorem l3 (b : List Int) (e n tot : Int) (a1 a2 a3 : Int) (a4 : List Int) (got : List Claim) (a6 a7 a8 a9 : Int) (hb : got.length < 1000000000) (hok : Bd got) : ∀ (k : Nat) (i m : Int), i + k = tot → 0 ≤ i → i + k ≤ 1000 → 0 ≤ m → m ≤ i →
    lpU g3x0 (b, e, n, m, tot, i, a1, a2, a3, a4, got, a6, a7, a8, a9) = some (b, e, n, m + cnt got i k, a1, a2, a3, a4, got, a6, a7, a8, a9)
  | 0, i, m, hi, _, _, _, _ => by
    have hd : decide (i < tot) = false := decide_eq_false (by omega)
    rw [lp_end (x := (b, e, n, m, a1, a2, a3, a4, got, a6, a7, a8, a9)) (by simp only [g3x0, hd, Bool.false_eq_true, if_false])]
    simp [cnt]
  | k + 1, i, m, hi, i0, ik, m0, mi => by
    have hd : decide (i < tot) = true := decide_eq_true (by omega)
    have hw : IntKind.i64.wrap (i + 1) = i + 1 := wi64 (by omega)
    have hwm : IntKind.i64.wrap (m + 1) = m + 1 := wi64 (by omega)
    simp only [cnt]
    cases hin : inC got i with
    | true =>
      rw [lp_next (s' := (b, e, n, m, tot, i + 1, a1, a2, a3, a4, got, a6, a7, a8, a9)) (by
        simp only [g3x0, hd, if_true, w17 got hb hok i, hin, Option.bind_some, Bool.not_true, Bool.false_eq_true, if_false, hw]),
        l3 b e n tot a1 a2 a3 a4 got a6 a7 a8 a9 hb hok k (i + 1) m (by omega) (by omega) (by omega) m0 (by omega)]
      simp
    | false =>
      rw [lp_next (s' := (b, e, n, m + 1, tot, i + 1, a1, a2, a3, a4, got, a6, a7, a8, a9)) (by
        simp only [g3x0, hd, if_true, w17 got hb hok i, hin, Option.bind_some, Bool.not_false, hw, hwm]),
        l3 b e n tot a1 a2 a3 a4 got a6 a7 a8 a9 hb hok k (i + 1) (m + 1) (by omega) (by omega) (by omega) (by omega) (by omega)]
      simp; omega
theorem whole_sum {a : Taking} (h : rightB a = true) : wholeB a = decide (a.2.2.1 - sumN a.2.2.2.2.1 = 0) := by
  obtain ⟨_, hc, _⟩ := right_iff.1 h
  have ht := right_tot h
  have hs := (sum_chain hc).2
  unfold wholeB
  generalize a.2.2.2.2.1 = l at *
  match l with
  | [] =>
    simp only [sumN]
    exact (decide_eq_false (by omega)).symm
  | [c] =>
    obtain ⟨h1, h2, h3, h4⟩ := chain_cons.1 hc
    simp only [sumN]
    rw [Bool.eq_iff_iff]
    simp only [Bool.and_eq_true, beq_iff_eq, decide_eq_true_eq]
    constructor
    · rintro ⟨q1, q2⟩; exact decide_eq_true (by omega)
    · intro q
      have q := of_decide_eq_true q
      have q2 : c.2 = a.2.2.1 := by omega
      exact ⟨by omega, q2⟩
  | c :: d :: r =>
    have := hs (by simp)
    simp only [List.length_cons] at this
    exact (decide_eq_false (by omega)).symm
end Go.Proofs.Ytmbhpchkhilheaa.Ev.U
namespace Go.Proofs.Ytmbhpchkhilheaa.Ev.U
open Go
/-! ### Covered -/
theorem l58 (got : List Claim) (h : Claim → Option Bool) (f : Claim → Bool) (hf : ∀ c ∈ got, h c = some (f c)) (hb : got.length < 1000000000) : ∀ (k i : Nat), i + k = got.length →
    ∃ r, lpU g58x0 (got, h, (got.length : Int), (i : Int)) = some r ∧ (r = .inl () ∧ (got.drop i).any f = false ∨ (∃ j : Nat, r = .inr (j : Int)) ∧ (got.drop i).any f = true)
  | 0, i, hi => by
    have hd : decide ((i : Int) < (got.length : Int)) = false := decide_eq_false (by omega)
    refine ⟨.inl (), lp_end (by simp only [g58x0, hd, Bool.false_eq_true, if_false]), .inl ⟨rfl, ?_⟩⟩
    rw [List.drop_of_length_le (by omega)]; rfl
  | k + 1, i, hi => by
    have hd : decide ((i : Int) < (got.length : Int)) = true := decide_eq_true (by omega)
    have h1 : i < got.length := by omega
    have hh := hf got[i] (List.getElem_mem h1)
    rw [drop_cons' h1, List.any_cons]
    cases hc : f got[i] with
    | true =>
      rw [hc] at hh
      exact ⟨.inr (i : Int), lp_end (by simp only [g58x0, hd, if_true, idx_some' h1, Option.bind_some, hh]), .inr ⟨⟨i, rfl⟩, rfl⟩⟩
    | false =>
      rw [hc] at hh
      obtain ⟨r, r1, r2⟩ := l58 got h f hf hb k (i + 1) (by omega)
      refine ⟨r, ?_, by simpa using r2⟩
      rw [lp_next (s' := (got, h, (got.length : Int), ((i + 1 : Nat) : Int))) (by simp only [g58x0, hd, if_true, idx_some' h1, Option.bind_some, hh, Bool.false_eq_true, if_false, wnext (show i < 1000000000000 by omega)]), r1]
theorem w56 (got : List Claim) (h : Claim → Option Bool) (f : Claim → Bool) (hf : ∀ c ∈ got, h c = some (f c)) (hb : got.length < 1000000000) : g56 got h = some (got.any f) := by
  unfold g56 g58
  obtain ⟨r, r1, r2⟩ := l58 got h f hf hb got.length 0 (by omega)
  rw [show ((0 : Nat) : Int) = 0 from rfl] at r1
  rw [List.drop_zero] at r2
  rw [r1]
  rcases r2 with ⟨rfl, r2⟩ | ⟨⟨j, rfl⟩, r2⟩
  · rw [r2]; rfl
  · rw [r2]
    simp only [Option.bind_some]
    rw [decide_eq_true (show (j : Int) ≥ 0 by omega)]
theorem w57 (c : Claim) (x : Int) (hc : -1000000 ≤ c.1 ∧ c.1 ≤ 1000000) (hx : -1000000 ≤ x ∧ x ≤ 1000000) : h57 c x = (decide (c.1 ≤ x) && decide (x < c.1 + c.2)) := by
  show (if decide (x ≥ c.1) = true then decide (IntKind.i64.wrap (x - c.1) < c.2) else false) = _
  rw [wi64 (by omega)]
  rw [show decide (x - c.1 < c.2) = decide (x < c.1 + c.2) from decide_eq_decide.2 (by omega)]
  show (if decide (x ≥ c.1) = true then _ else false) = (decide (x ≥ c.1) && _)
  cases decide (x ≥ c.1) <;> rfl
theorem w55 (got : List Claim) (x : Int) (hb : got.length < 1000000000) (hok : Bd got) (hx : -1000000 ≤ x ∧ x ≤ 1000000) : g55 got x = some (inC got x) := by
  unfold g55
  rw [w56 got _ (fun c => decide (c.1 ≤ x) && decide (x < c.1 + c.2)) (fun c hc => by
    have := hok c hc
    show some (h57 c x) = _
    rw [w57 c x (by omega) hx]) hb]
  rfl
/-! ### Rows -/
/-- A place more. -/
def push (out : List Claim) (i : Int) : List Claim := match out.getLast? with
  | some c => if c.1 + c.2 = i then out.set (out.length - 1) (c.1, c.2 + 1) else out ++ [(i, 1)]
  | none => out ++ [(i, 1)]
def rowsF (f : Int → Bool) : List Claim → Int → Nat → List Claim
  | out, _, 0 => out
  | out, i, k + 1 => rowsF f (if f i then push out i else out) (i + 1) k
/-- Rows up to a place. -/
structure RowOk (out : List Claim) (i : Int) : Prop where
  b : ∀ c ∈ out, 0 ≤ c.1 ∧ 0 < c.2 ∧ c.1 + c.2 ≤ i
  l : (out.length : Int) ≤ i
theorem RowOk.mono {out : List Claim} {i j : Int} (h : RowOk out i) (hij : i ≤ j) : RowOk out j := ⟨fun c hc => by have := h.b c hc; omega, by have := h.l; omega⟩
theorem RowOk.push {out : List Claim} {i : Int} (h : RowOk out i) (hi : 0 ≤ i) : RowOk (U.push out i) (i + 1) := by
  unfold U.push
  split
  · rename_i c hc
    have hm := List.mem_of_getLast? hc
    have hcb := h.b c hm
    split
    · rename_i he
      refine ⟨fun d hd => ?_, by rw [List.length_set]; have := h.l; omega⟩
      rcases List.mem_or_eq_of_mem_set hd with hd | rfl
      · have := h.b d hd; omega
      · exact ⟨hcb.1, by show 0 < c.2 + 1; omega, by show c.1 + (c.2 + 1) ≤ i + 1; omega⟩
    · refine ⟨fun d hd => ?_, by rw [List.length_append]; have := h.l; simp; omega⟩
      rcases List.mem_append.1 hd with hd | hd
      · have := h.b d hd; omega
      · obtain rfl := List.mem_singleton.1 hd
        exact ⟨hi, by show (0 : Int) < 1; omega, by show i + 1 ≤ i + 1; omega⟩
  · refine ⟨fun d hd => ?_, by rw [List.length_append]; have := h.l; simp; omega⟩
    rcases List.mem_append.1 hd with hd | hd
    · have := h.b d hd; omega
    · obtain rfl := List.mem_singleton.1 hd
      exact ⟨hi, by show (0 : Int) < 1; omega, by show i + 1 ≤ i + 1; omega⟩
theorem rowsF_ok (f : Int → Bool) : ∀ (k : Nat) (out : List Claim) (i : Int), RowOk out i → 0 ≤ i → RowOk (rowsF f out i k) (i + k)
  | 0, out, i, h, _ => by simpa [rowsF] using h
  | k + 1, out, i, h, hi => by
    simp only [rowsF]
    have : RowOk (if f i then push out i else out) (i + 1) := by
      split
      · exact h.push hi
      · exact h.mono (by omega)
    have := rowsF_ok f k _ (i + 1) this (by omega)
    rwa [show i + 1 + (k : Int) = i + ((k + 1 : Nat) : Int) by omega] at this
theorem l53 (h : Int → Option Bool) (f : Int → Bool) (n : Int) (hn : n ≤ 1000) (hf : ∀ i, 0 ≤ i → i < n → h i = some (f i)) : ∀ (k : Nat) (i : Int) (out : List Claim), i + k = n → 0 ≤ i → RowOk out i →
    lpU g53x0 (h, out, n, i) = some (rowsF f out i k)
  | 0, i, out, hi, _, _ => by
    have hd : decide (i < n) = false := decide_eq_false (by omega)
    exact lp_end (by simp only [g53x0, hd, Bool.false_eq_true, if_false]; rfl)
  | k + 1, i, out, hi, i0, ho => by
    have hd : decide (i < n) = true := decide_eq_true (by omega)
    have hw : IntKind.i64.wrap (i + 1) = i + 1 := wi64 (by omega)
    have hol := ho.l
    have hx2 : IntKind.i64.wrap ((out.length : Int) - 1) = (out.length : Int) - 1 := wi64 (by omega)
    have hhi := hf i i0 (by omega)
    simp only [rowsF]
    cases hfi : f i with
    | false =>
      rw [hfi] at hhi
      rw [lp_next (s' := (h, out, n, i + 1)) (by simp only [g53x0, hd, if_true, eqI_self, Option.bind_some, hhi, Bool.not_false, hw])]
      simp only [Bool.false_eq_true, if_false]
      exact l53 h f n hn hf k (i + 1) out (by omega) (by omega) (ho.mono (by omega))
    | true =>
      rw [hfi] at hhi
      have hp : g53x0 (h, out, n, i) = some (.inl (h, push out i, n, i + 1)) := by
        simp only [g53x0, hd, if_true, eqI_self, Option.bind_some, hhi, Bool.not_true, Bool.false_eq_true, if_false, hx2, hw]
        cases hl : out.getLast? with
        | none =>
          obtain rfl : out = [] := List.getLast?_eq_none_iff.1 hl
          have : decide (((([] : List Claim).length : Nat) : Int) - 1 ≥ 0) = false := rfl
          simp only [this, Bool.false_eq_true, if_false, Option.bind_some, apd_ok (show (([] : List Claim).length + [(i, (1 : Int))].length) * 16 ≤ 140737488355328 by simp), push]
          rfl
        | some c =>
          have hm := List.mem_of_getLast? hl
          have hcb := ho.b c hm
          have hpos : 0 < out.length := List.length_pos_of_mem hm
          have hge : decide ((out.length : Int) - 1 ≥ 0) = true := decide_eq_true (by omega)
          have hcast : (out.length : Int) - 1 = ((out.length - 1 : Nat) : Int) := by omega
          have hidx : idx out ((out.length : Int) - 1) = some c := by rw [hcast, idx_nat, ← List.getLast?_eq_getElem?, hl]
          have hchk : chkI ((out.length : Int) - 1) (out.length : Int) = some () := chkI_some (by omega)
          have hws : IntKind.i64.wrap (c.1 + c.2) = c.1 + c.2 := wi64 (by omega)
          have hws2 : IntKind.i64.wrap (c.2 + 1) = c.2 + 1 := wi64 (by omega)
          simp only [hge, if_true, hidx, hchk, Option.bind_some, hws, hws2, push, hl]
          by_cases he : c.1 + c.2 = i
          · rw [if_pos he, if_pos (by simpa using he), hcast, Int.toNat_natCast]
          · rw [if_neg he, if_neg (by simpa using he), apd_ok (by simp; omega)]; rfl
      rw [lp_next hp]
      simp only [if_true]
      exact l53 h f n hn hf k (i + 1) (push out i) (by omega) (by omega) (ho.push i0)
theorem w53 (h : Int → Option Bool) (f : Int → Bool) (n : Int) (hn : 0 ≤ n ∧ n ≤ 1000) (hf : ∀ i, 0 ≤ i → i < n → h i = some (f i)) : g53 n h = some (rowsF f [] 0 n.toNat) := by
  unfold g53
  rw [l53 h f n hn.2 hf n.toNat 0 [] (by omega) (by omega) ⟨fun c hc => (by cases hc), by simp⟩]
  rfl
end Go.Proofs.Ytmbhpchkhilheaa.Ev.U
namespace Go.Proofs.Ytmbhpchkhilheaa.Ev.U
open Go
/-- Do bytes go with what has come in? -/
def fitsB (b : List Int) (got : List Claim) (off : Int) : List Int → Int → Bool
  | [], _ => true
  | d :: r, i => (if inC got (off + i) then b[(off + i).toNat]? == some d else true) && fitsB b got off r (i + 1)
theorem fitsB_cons (b : List Int) (got : List Claim) (off d : Int) (r : List Int) (i : Int) : fitsB b got off (d :: r) i = ((if inC got (off + i) then b[(off + i).toNat]? == some d else true) && fitsB b got off r (i + 1)) := rfl
theorem l52 (data : List Int) (a1 a2 a3 : Int) (b : List Int) (got : List Claim) (a6 a7 a8 a9 x1 x2 x3 x4 x5 off x7 x8 x9 x10 : Int) (x11 : Bool) (x12 : List Int) (x13 : List Claim)
    (hg : got.length < 1000000000) (hok : Bd got) (hin : ∀ j, inC got j = true → 0 ≤ j ∧ j < b.length) (h0 : 0 ≤ off) (h1 : off + data.length ≤ 100000) : ∀ (k i : Nat), i + k = data.length →
    lpU g52x0 (data, (data.length : Int), (i : Int), a1, a2, a3, b, got, a6, a7, a8, a9, x1, x2, x3, x4, x5, off, x7, x8, x9, x10, x11, x12, x13) = some (if fitsB b got off (data.drop i) i then .inl () else .inr false)
  | 0, i, hi => by
    have hd : decide ((i : Int) < (data.length : Int)) = false := decide_eq_false (by omega)
    rw [lp_end (x := .inl ()) (by simp only [g52x0, hd, Bool.false_eq_true, if_false])]
    rw [List.drop_of_length_le (by omega)]; rfl
  | k + 1, i, hi => by
    have hd : decide ((i : Int) < (data.length : Int)) = true := decide_eq_true (by omega)
    have h2 : i < data.length := by omega
    have hw : IntKind.i64.wrap (off + (i : Int)) = off + i := wi64 (by omega)
    have ih := l52 data a1 a2 a3 b got a6 a7 a8 a9 x1 x2 x3 x4 x5 off x7 x8 x9 x10 x11 x12 x13 hg hok hin h0 h1 k (i + 1) (by omega)
    rw [drop_cons' h2, fitsB_cons]
    have hc := w55 got (off + i) hg hok (by omega)
    rcases Bool.eq_false_or_eq_true (inC got (off + i)) with hq | hq
    case inr =>
      rw [hq] at hc
      rw [lp_next (s' := (data, (data.length : Int), ((i + 1 : Nat) : Int), a1, a2, a3, b, got, a6, a7, a8, a9, x1, x2, x3, x4, x5, off, x7, x8, x9, x10, x11, x12, x13)) (by
        simp only [g52x0, hd, if_true, idx_some' h2, Option.bind_some, hw, hc, Bool.not_false, wnext (show i < 1000000000000 by omega)]), ih]
      simp [hq]
    case inl =>
      rw [hq] at hc
      obtain ⟨q1, q2⟩ := hin _ hq
      have hb : idx b (off + (i : Int)) = some (b[(off + (i : Int)).toNat]'(by omega)) := by
        unfold idx
        rw [if_pos q1, List.getElem?_eq_getElem (by omega)]
      have hb' : b[(off + (i : Int)).toNat]? = some (b[(off + (i : Int)).toNat]'(by omega)) := List.getElem?_eq_getElem (by omega)
      rw [hb']
      by_cases he : b[(off + (i : Int)).toNat]'(by omega) = data[i]
      · rw [lp_next (s' := (data, (data.length : Int), ((i + 1 : Nat) : Int), a1, a2, a3, b, got, a6, a7, a8, a9, x1, x2, x3, x4, x5, off, x7, x8, x9, x10, x11, x12, x13)) (by
          simp only [g52x0, hd, if_true, idx_some' h2, Option.bind_some, hw, hc, hb, he, Bool.not_true, Bool.false_eq_true, if_false, bne_self_eq_false, wnext (show i < 1000000000000 by omega)]), ih]
        simp [hq, he]
      · have hne : (b[(off + (i : Int)).toNat]'(by omega) != data[i]) = true := by simpa using he
        rw [lp_end (x := .inr false) (by simp only [g52x0, hd, if_true, idx_some' h2, Option.bind_some, hw, hc, hb, hne, Bool.not_true, Bool.false_eq_true, if_false])]
        have : (some (b[(off + (i : Int)).toNat]'(by omega)) == some data[i]) = false := by simpa using he
        simp [hq, this]
/-- Bytes laid in; the claims then. -/
def putB (b : List Int) (off : Int) (d : List Int) : List Int := b.take off.toNat ++ d ++ b.drop (off.toNat + d.length)
def ownB (off n i : Int) : Bool := decide (off ≤ i) && decide (i < off + n)
def putG (got : List Claim) (tot off n : Int) : List Claim := rowsF (fun i => inC got i || ownB off n i) [] 0 tot.toNat
def wholeG (g : List Claim) (tot : Int) : Bool := match g with
  | [c] => c.1 == 0 && c.2 == tot
  | _ => false
theorem wholeB_G (a : Taking) : wholeB a = wholeG a.2.2.2.2.1 a.2.2.1 := rfl
def nextS (s : Int) : Int := if IntKind.u32.wrap (s + 1) = 0 then 1 else IntKind.u32.wrap (s + 1)
/-- What a data segment makes of a session. -/
def dataF (a : Taking) (x : Segment) : Taking × List Segment :=
  if a.2.2.2.2.2.2.1 = 4 then (a, [])
  else if x.2.2.2.2.2.2.1 = a.2.2.1 ∧ fitsB a.2.2.2.1 a.2.2.2.2.1 x.2.2.2.2.2.1 x.2.2.2.2.2.2.2.2.2.2.2.1 0 = true then
    let b := putB a.2.2.2.1 x.2.2.2.2.2.1 x.2.2.2.2.2.2.2.2.2.2.2.1
    let g := putG a.2.2.2.2.1 a.2.2.1 x.2.2.2.2.2.1 x.2.2.2.2.2.2.2.2.2.2.2.1.length
    let st := if wholeG g a.2.2.1 then 2 else a.2.2.2.2.2.2.1
    if x.2.2.2.2.2.2.2.2.2.2.1 then
      ((a.1, a.2.1, a.2.2.1, b, g, nextS a.2.2.2.2.2.1, st, a.2.2.2.2.2.2.2.1, a.2.2.2.2.2.2.2.2), [(2, a.1, a.2.1, nextS a.2.2.2.2.2.1, x.2.2.2.1, 0, 0, 0, a.2.2.1, 0, false, [], g.take 20)])
    else ((a.1, a.2.1, a.2.2.1, b, g, a.2.2.2.2.2.1, st, a.2.2.2.2.2.2.2.1, a.2.2.2.2.2.2.2.2), [])
  else ((a.1, a.2.1, a.2.2.1, List.replicate a.2.2.1.toNat 0, [], a.2.2.2.2.2.1, 4, a.2.2.2.2.2.2.2.1, a.2.2.2.2.2.2.2.2), [(6, a.1, a.2.1, 0, 0, 0, 0, 0, 0, 3, false, [], [])])
/-- A session, and a data segment, that go in. -/
structure InOk (a : Taking) (x : Segment) : Prop where
  tot : 1 ≤ a.2.2.1 ∧ a.2.2.1 ≤ 512
  len : (a.2.2.2.1.length : Int) = a.2.2.1
  ch : chain a.2.2.1 (-1) a.2.2.2.2.1 = true
  glen : a.2.2.2.2.1.length < 1000000
  off : 0 ≤ x.2.2.2.2.2.1
  fit : x.2.2.2.2.2.1 + x.2.2.2.2.2.2.2.2.2.2.2.1.length ≤ x.2.2.2.2.2.2.1
  xt : x.2.2.2.2.2.2.1 ≤ 512
theorem inC_rng {tot : Int} (ht : tot ≤ 1000) {l : List Claim} (h : chain tot (-1) l = true) {j : Int} (hj : inC l j = true) : 0 ≤ j ∧ j < tot := by
  obtain ⟨c, hc, hq⟩ := List.any_eq_true.1 hj
  have := chain_bd ht (by omega) h c hc
  simp only [Bool.and_eq_true, decide_eq_true_eq] at hq
  omega
theorem w52 (a : Taking) (x : Segment) (h : InOk a x) : g52 a x = some (decide (x.2.2.2.2.2.2.1 = a.2.2.1) && fitsB a.2.2.2.1 a.2.2.2.2.1 x.2.2.2.2.2.1 x.2.2.2.2.2.2.2.2.2.2.2.1 0) := by
  obtain ⟨h1, h2, h3, h4, h5, h6, h7⟩ := h
  unfold g52
  by_cases he : x.2.2.2.2.2.2.1 = a.2.2.1
  · have hn : (x.2.2.2.2.2.2.1 != a.2.2.1) = false := by simpa using he
    rw [hn, decide_eq_true he]
    have := l52 x.2.2.2.2.2.2.2.2.2.2.2.1 a.1 a.2.1 a.2.2.1 a.2.2.2.1 a.2.2.2.2.1 a.2.2.2.2.2.1 a.2.2.2.2.2.2.1 a.2.2.2.2.2.2.2.1 a.2.2.2.2.2.2.2.2 x.1 x.2.1 x.2.2.1 x.2.2.2.1 x.2.2.2.2.1 x.2.2.2.2.2.1 x.2.2.2.2.2.2.1 x.2.2.2.2.2.2.2.1 x.2.2.2.2.2.2.2.2.1 x.2.2.2.2.2.2.2.2.2.1 x.2.2.2.2.2.2.2.2.2.2.1 x.2.2.2.2.2.2.2.2.2.2.2.1 x.2.2.2.2.2.2.2.2.2.2.2.2
      (by omega) (chain_Bd (by omega) h3) (fun j hj => by have := inC_rng (by omega) h3 hj; omega) h5 (by omega) x.2.2.2.2.2.2.2.2.2.2.2.1.length 0 (by omega)
    rw [show ((0 : Nat) : Int) = 0 from rfl, List.drop_zero] at this
    rw [if_neg (by simp), this]
    cases fitsB a.2.2.2.1 a.2.2.2.2.1 x.2.2.2.2.2.1 x.2.2.2.2.2.2.2.2.2.2.2.1 0 <;> rfl
  · have hn : (x.2.2.2.2.2.2.1 != a.2.2.1) = true := by simpa using he
    rw [hn, decide_eq_false he]; rfl
theorem cut0 {α : Type} (xs : List α) (n : Int) (h : 0 ≤ n ∧ n ≤ xs.length) : cut xs 0 n = some (xs.take n.toNat) := by
  unfold cut
  rw [if_pos ⟨by omega, h⟩]; rfl
theorem cpyL_put (b : List Int) (off : Int) (d : List Int) (h0 : 0 ≤ off) (h1 : off + d.length ≤ b.length) : cpyL b off ((b.length : Int) - off) d = some (putB b off d) := by
  unfold cpyL putB
  rw [if_pos (by omega), List.take_of_length_le (show d.length ≤ ((b.length : Int) - off).toNat by omega), Nat.min_eq_left (by omega)]
theorem putB_len (b : List Int) (off : Int) (d : List Int) (h0 : 0 ≤ off) (h1 : off + d.length ≤ b.length) : (putB b off d).length = b.length := by
  unfold putB; simp; omega
theorem w54 (x : Segment) (got : List Claim) (i : Int) (hb : got.length < 1000000000) (hok : Bd got) (hi : -100000 ≤ i ∧ i ≤ 100000) (ho : 0 ≤ x.2.2.2.2.2.1 ∧ x.2.2.2.2.2.1 ≤ 100000) :
    g54 i got x = some (inC got i || ownB x.2.2.2.2.2.1 x.2.2.2.2.2.2.2.2.2.2.2.1.length i) := by
  unfold g54
  rw [w55 got i hb hok (by omega), Option.bind_some, wi64 (by omega)]
  have : decide (i - x.2.2.2.2.2.1 < (x.2.2.2.2.2.2.2.2.2.2.2.1.length : Int)) = decide (i < x.2.2.2.2.2.1 + (x.2.2.2.2.2.2.2.2.2.2.2.1.length : Int)) := decide_eq_decide.2 (by omega)
  rw [this]
  show some (if inC got i = true then true else if decide (x.2.2.2.2.2.1 ≤ i) = true then _ else false) = _
  unfold ownB
  cases inC got i <;> cases decide (x.2.2.2.2.2.1 ≤ i) <;> rfl
theorem w48 (a : Taking) (x : Segment) (h : InOk a x) : g48 a x = some (dataF a x) := by
  have hf := w52 a x h
  obtain ⟨h1, h2, h3, h4, h5, h6, h7⟩ := h
  obtain ⟨a1, a2, a3, a4, a5, a6, a7, a8, a9⟩ := a
  obtain ⟨x1, x2, x3, x4, x5, x6, x7, x8, x9, x10, x11, x12, x13⟩ := x
  simp only at h1 h2 h3 h4 h5 h6 h7 hf
  unfold g48 dataF
  simp only [hf, eqI_self, Option.bind_some]
  by_cases hs : a7 = 4
  · have : (a7 == 4) = true := by simpa using hs
    simp only [this, if_true, if_pos hs]
  · have hs' : (a7 == 4) = false := by simpa using hs
    simp only [hs', Bool.false_eq_true, if_false, if_neg hs]
    by_cases hfit : x7 = a3 ∧ fitsB a4 a5 x6 x12 0 = true
    · have hfb : (decide (x7 = a3) && fitsB a4 a5 x6 x12 0) = true := by simpa using hfit
      rw [if_pos hfit]
      have hxa := hfit.1
      have hrow := w53 (fun v11 => (g54 v11 a5 (x1, x2, x3, x4, x5, x6, x7, x8, x9, x10, x11, x12, x13)).bind some) (fun i => inC a5 i || ownB x6 x12.length i) a3 (by omega) (fun i i0 i1 => by
        show (g54 i a5 _).bind some = _
        rw [w54 _ a5 i (by omega) (chain_Bd (by omega) h3) (by omega) (by show 0 ≤ x6 ∧ x6 ≤ 100000; omega)]; rfl)
      have hcp := cpyL_put a4 x6 x12 h5 (by omega)
      have hpl := putB_len a4 x6 x12 h5 (by omega)
      have hro : RowOk (putG a5 a3 x6 x12.length) (0 + (a3.toNat : Int)) := rowsF_ok _ _ _ _ ⟨fun c hc => (by cases hc), by simp⟩ (by omega)
      have hgl := hro.l
      rw [show rowsF (fun i => inC a5 i || ownB x6 x12.length i) [] 0 a3.toNat = putG a5 a3 x6 x12.length from rfl] at hrow
      simp only [hfb, Bool.not_true, Bool.false_eq_true, if_false, chkS_some (show 0 ≤ x6 ∧ x6 ≤ (a4.length : Int) ∧ (a4.length : Int) ≤ (a4.length : Int) by omega), Option.bind_some, hcp, hrow, eqI_self, w32]
      generalize hG : putG a5 a3 x6 x12.length = G at *
      have hwg : wholeB (a1, a2, a3, putB a4 x6 x12, G, a6, a7, a8, a9) = wholeG G a3 := rfl
      have hcut : cut G 0 (if (20 : Int) < (G.length : Int) then (20 : Int) else (G.length : Int)) = some (G.take 20) := by
        rw [cut0 _ _ (by split <;> omega)]
        congr 1
        split
        · rfl
        · rw [List.take_of_length_le (by omega), List.take_of_length_le (by omega)]
      have hcl := w41 (G.take 20) (by simp; omega)
      rw [hwg]
      cases wholeG G a3 <;> cases x11 <;> simp only [Bool.false_eq_true, if_false, if_true, Option.bind_some, Bool.not_true, Bool.not_false]
      · by_cases hz : IntKind.u32.wrap (a6 + 1) = 0
        · simp only [hz, beq_self_eq_true, if_true, Option.bind_some, hcut, hcl, nextS, h49]
        · have hz' : (IntKind.u32.wrap (a6 + 1) == 0) = false := by simpa using hz
          simp only [hz', hz, Bool.false_eq_true, if_false, Option.bind_some, hcut, hcl, nextS, h49]
      · by_cases hz : IntKind.u32.wrap (a6 + 1) = 0
        · simp only [hz, beq_self_eq_true, if_true, Option.bind_some, hcut, hcl, nextS, h49]
        · have hz' : (IntKind.u32.wrap (a6 + 1) == 0) = false := by simpa using hz
          simp only [hz', hz, Bool.false_eq_true, if_false, Option.bind_some, hcut, hcl, nextS, h49]
    · have hfb : (decide (x7 = a3) && fitsB a4 a5 x6 x12 0) = false := by
        cases hq : (decide (x7 = a3) && fitsB a4 a5 x6 x12 0) with
        | false => rfl
        | true => exact absurd (by simpa using hq) hfit
      rw [if_neg hfit]
      simp only [hfb, Bool.not_false, if_true, mkl_ok (show 0 ≤ a3 by omega) (Int.le_refl a3) (show ((1 : Nat) : Int) * a3 ≤ 140737488355328 by omega), Option.bind_some]
      rfl
end Go.Proofs.Ytmbhpchkhilheaa.Ev.U
namespace Go.Proofs.Ytmbhpchkhilheaa.Ev.U
open Go
/-- Are both the same? -/
def sameS (x y : Segment) : Bool := x.1 == y.1 && x.2.1 == y.2.1 && x.2.2.1 == y.2.2.1 && x.2.2.2.1 == y.2.2.2.1 && x.2.2.2.2.1 == y.2.2.2.2.1 && x.2.2.2.2.2.1 == y.2.2.2.2.2.1 && x.2.2.2.2.2.2.1 == y.2.2.2.2.2.2.1 && x.2.2.2.2.2.2.2.1 == y.2.2.2.2.2.2.2.1 && x.2.2.2.2.2.2.2.2.1 == y.2.2.2.2.2.2.2.2.1 && x.2.2.2.2.2.2.2.2.2.1 == y.2.2.2.2.2.2.2.2.2.1 && x.2.2.2.2.2.2.2.2.2.2.1 == y.2.2.2.2.2.2.2.2.2.2.1 && decide (x.2.2.2.2.2.2.2.2.2.2.2.1 = y.2.2.2.2.2.2.2.2.2.2.2.1) && decide (x.2.2.2.2.2.2.2.2.2.2.2.2 = y.2.2.2.2.2.2.2.2.2.2.2.2)
theorem sameS_iff (x y : Segment) : sameS x y = true ↔ x = y := by
  obtain ⟨x1, x2, x3, x4, x5, x6, x7, x8, x9, x10, x11, x12, x13⟩ := x
  obtain ⟨y1, y2, y3, y4, y5, y6, y7, y8, y9, y10, y11, y12, y13⟩ := y
  simp [sameS, Prod.ext_iff, and_assoc]
theorem sameS_self (x : Segment) : sameS x x = true := (sameS_iff x x).2 rfl
/-- Segments that are gone through. -/
structure SmS (x : Segment) : Prop where
  d : x.2.2.2.2.2.2.2.2.2.2.2.1.length < 1000000
  c : x.2.2.2.2.2.2.2.2.2.2.2.2.length < 1000000
theorem w47 (x y : Segment) (h : SmS x) : g47 x y = some (sameS x y) := by
  have hd := h.d
  have hc := h.c
  obtain ⟨x1, x2, x3, x4, x5, x6, x7, x8, x9, x10, x11, x12, x13⟩ := x
  obtain ⟨y1, y2, y3, y4, y5, y6, y7, y8, y9, y10, y11, y12, y13⟩ := y
  simp only at hd hc
  have e : ((x1 == y1) && ((x2 == y2) && ((x6 == y6) && ((x7 == y7) && ((x8 == y8) && ((x9 == y9) && ((x10 == y10) && ((x3 == y3) && ((x4 == y4) && ((x5 == y5) && ((x11 == y11) && true))))))))))) = (x1 == y1 && x2 == y2 && x3 == y3 && x4 == y4 && x5 == y5 && x6 == y6 && x7 == y7 && x8 == y8 && x9 == y9 && x10 == y10 && x11 == y11) := by
    simp only [Bool.and_true, Bool.true_and, Bool.and_assoc, Bool.and_comm, Bool.and_left_comm]
  simp only [g47, h51, e, w44 x12 y12 (by omega), w31 x13 y13 (by omega), sameS]
  generalize (x1 == y1 && x2 == y2 && x3 == y3 && x4 == y4 && x5 == y5 && x6 == y6 && x7 == y7 && x8 == y8 && x9 == y9 && x10 == y10 && x11 == y11) = c, decide (x12 = y12) = c1, decide (x13 = y13) = c2
  cases c <;> cases c1 <;> cases c2 <;> rfl
theorem l37 (x1 x2 x3 x4 x5 x6 x7 x8 x9 x10 : Int) (x11 : Bool) (x12 : List Int) (x13 : List Claim) (y1 y2 y3 y4 y5 y6 y7 y8 y9 y10 : Int) (y11 : Bool) (y12 : List Int) (y13 : List Claim) (hl : x13.length = y13.length) (hb : x13.length < 1000000000) : ∀ (k i : Nat), i + k = x13.length →
    lpU g37x0 ((x13.length : Int), (i : Int), x1, x2, x3, x4, x5, x6, x7, x8, x9, x10, x11, x12, x13, y1, y2, y3, y4, y5, y6, y7, y8, y9, y10, y11, y12, y13) = some (if x13.drop i = y13.drop i then .inl (x1, x2, x3, x4, x5, x6, x7, x8, x9, x10, x11, x12, x13, y1, y2, y3, y4, y5, y6, y7, y8, y9, y10, y11, y12, y13) else .inr false)
  | 0, i, hi => by
    have hd : decide ((i : Int) < (x13.length : Int)) = false := decide_eq_false (by omega)
    rw [lp_end (x := .inl (x1, x2, x3, x4, x5, x6, x7, x8, x9, x10, x11, x12, x13, y1, y2, y3, y4, y5, y6, y7, y8, y9, y10, y11, y12, y13)) (by simp only [g37x0, hd, Bool.false_eq_true, if_false])]
    rw [List.drop_of_length_le (by omega), List.drop_of_length_le (by omega), if_pos rfl]
  | k + 1, i, hi => by
    have hd : decide ((i : Int) < (x13.length : Int)) = true := decide_eq_true (by omega)
    have h1 : i < x13.length := by omega
    have hs := eq_step hl h1
    have hc : ((x13[i].1 == (y13[i]'(by omega)).1) && ((x13[i].2 == (y13[i]'(by omega)).2) && true)) = decide (x13[i] = y13[i]'(by omega)) := by
      rw [Bool.eq_iff_iff]; simp [Prod.ext_iff]
    by_cases e : x13[i] = y13[i]'(by omega)
    · rw [lp_next (s' := ((x13.length : Int), ((i + 1 : Nat) : Int), x1, x2, x3, x4, x5, x6, x7, x8, x9, x10, x11, x12, x13, y1, y2, y3, y4, y5, y6, y7, y8, y9, y10, y11, y12, y13)) (by
        simp only [g37x0, hd, if_true, idx_some' h1, idx_some' (show i < y13.length by omega), Option.bind_some, hc, decide_eq_true e, Bool.not_true, Bool.false_eq_true, if_false, wnext (show i < 1000000000000 by omega)]), l37 x1 x2 x3 x4 x5 x6 x7 x8 x9 x10 x11 x12 x13 y1 y2 y3 y4 y5 y6 y7 y8 y9 y10 y11 y12 y13 hl hb k (i + 1) (by omega)]
      congr 1
      simp only [hs, e, true_and]
    · rw [lp_end (x := .inr false) (by simp only [g37x0, hd, if_true, idx_some' h1, idx_some' (show i < y13.length by omega), Option.bind_some, hc, decide_eq_false e, Bool.not_false])]
      rw [if_neg fun h => e (hs.1 h).1]
theorem w37 (x y : Segment) (h : SmS x) : g37 x y = some (sameS x y) := by
  have hd := h.d
  have hc := h.c
  obtain ⟨x1, x2, x3, x4, x5, x6, x7, x8, x9, x10, x11, x12, x13⟩ := x
  obtain ⟨y1, y2, y3, y4, y5, y6, y7, y8, y9, y10, y11, y12, y13⟩ := y
  simp only at hd hc
  simp only [g37, sameS]
  by_cases hl : x13.length = y13.length
  · have := l37 x1 x2 x3 x4 x5 x6 x7 x8 x9 x10 x11 x12 x13 y1 y2 y3 y4 y5 y6 y7 y8 y9 y10 y11 y12 y13 hl (by omega) x13.length 0 (by omega)
    rw [show ((0 : Nat) : Int) = 0 from rfl] at this
    have hn : ((x13.length : Int) != (y13.length : Int)) = false := by simp [hl]
    rw [this, hn]
    simp only [List.drop_zero]
    by_cases h13 : x13 = y13
    · rw [if_pos h13, decide_eq_true h13]
      have e11 : ((x11 == y11) != false) = (x11 == y11) := by cases (x11 == y11) <;> rfl
      simp only [e11, Bool.false_eq_true, if_false, Option.bind_some, Bool.and_true]
      generalize (x1 == y1) = c1, (x2 == y2) = c2, (x3 == y3) = c3, (x4 == y4) = c4, (x5 == y5) = c5, (x6 == y6) = c6, (x7 == y7) = c7, (x8 == y8) = c8, (x9 == y9) = c9, (x10 == y10) = c10, (x11 == y11) = c11, decide (x12 = y12) = c12
      cases c1 <;> try rfl
      cases c2 <;> try rfl
      cases c3 <;> try rfl
      cases c4 <;> try rfl
      cases c5 <;> try rfl
      cases c6 <;> try rfl
      cases c7 <;> try rfl
      cases c8 <;> try rfl
      cases c9 <;> try rfl
      cases c10 <;> try rfl
      cases c11 <;> rfl
    · rw [if_neg h13, decide_eq_false h13, if_neg (by simp)]
      exact congrArg some (Bool.and_false _).symm
  · have hn : ((x13.length : Int) != (y13.length : Int)) = true := by simp; omega
    have h13 : decide (x13 = y13) = false := decide_eq_false fun e => hl (by rw [e])
    rw [hn, h13, if_pos rfl]
    exact congrArg some (Bool.and_false _).symm
/-! ### Claims -/
def claimB (lo hi : Int) (l : List Claim) : Bool := decide ((l.length : Int) ≤ 20) && chain hi (lo - 1) l
theorem l46 (hi : Int) (l l0 : List Claim) (hb : l.length < 1000000000) (hh : 1 ≤ hi ∧ hi ≤ 512) : ∀ (k i : Nat) (e : Int), i + k = l.length → -1 ≤ e → lpU g46x0 (l0, hi, e, l, (l.length : Int), (i : Int)) = some (if chain hi e (l.drop i) then .inl l0 else .inr false)
  | 0, i, e, hi', he => by
    have hd : decide ((i : Int) < (l.length : Int)) = false := decide_eq_false (by omega)
    rw [lp_end (x := .inl l0) (by simp only [g46x0, hd, Bool.false_eq_true, if_false])]
    rw [List.drop_of_length_le (by omega)]; rfl
  | k + 1, i, e, hi', he => by
    have hd : decide ((i : Int) < (l.length : Int)) = true := decide_eq_true (by omega)
    have h1 : i < l.length := by omega
    obtain ⟨c, hc⟩ : ∃ c, l[i] = c := ⟨_, rfl⟩
    have hx : idx l (i : Int) = some c := by rw [idx_some' h1, hc]
    rw [drop_cons' h1, hc]
    by_cases hg : 0 < c.2 ∧ e < c.1 ∧ c.1 + c.2 ≤ hi
    · have q1 : decide (c.2 < 1) = false := decide_eq_false (by omega)
      have q2 : decide (c.1 ≤ e) = false := decide_eq_false (by omega)
      have q3 : decide (c.1 ≥ hi) = false := decide_eq_false (by omega)
      have q4 : decide (c.2 > IntKind.i64.wrap (hi - c.1)) = false := by rw [wi64 (by omega)]; exact decide_eq_false (by omega)
      rw [lp_next (s' := (l0, hi, c.1 + c.2, l, (l.length : Int), ((i + 1 : Nat) : Int))) (by
        simp only [g46x0, hd, if_true, hx, Option.bind_some, q1, q2, q3, q4, Bool.false_eq_true, if_false, wnext (show i < 1000000000000 by omega), wi64 (show -9223372036854775808 ≤ c.1 + c.2 ∧ c.1 + c.2 ≤ 9223372036854775807 by omega)]),
        l46 hi l l0 hb hh k (i + 1) (c.1 + c.2) (by omega) (by omega)]
      have : chain hi e (c :: l.drop (i + 1)) = chain hi (c.1 + c.2) (l.drop (i + 1)) := by
        simp only [chain, decide_eq_true (show c.2 > 0 by omega), decide_eq_true (show c.1 > e by omega), decide_eq_true (show c.1 ≤ hi by omega), decide_eq_true (show c.2 ≤ hi - c.1 by omega), Bool.true_and]
      rw [this]
    · have hcond : (if (if (if (decide (c.2 < (1 : Int))) then true else (decide (c.1 ≤ e))) then true else (decide (c.1 ≥ hi))) then true else (decide (c.2 > (IntKind.i64.wrap (hi - c.1))))) = true := by
        cases q1 : decide (c.2 < 1)
        · cases q2 : decide (c.1 ≤ e)
          · cases q3 : decide (c.1 ≥ hi)
            · have := of_decide_eq_false q1
              have := of_decide_eq_false q2
              have := of_decide_eq_false q3
              rw [wi64 (by omega)]
              simp only [Bool.false_eq_true, if_false]
              exact decide_eq_true (by omega)
            · rfl
          · rfl
        · rfl
      rw [lp_end (x := .inr false) (by simp only [g46x0, hd, if_true, hx, Option.bind_some, hcond])]
      have : chain hi e (c :: l.drop (i + 1)) = false := by
        cases hq : chain hi e (c :: l.drop (i + 1)) with
        | false => rfl
        | true => obtain ⟨q1, q2, q3, q4⟩ := chain_cons.1 hq; exact absurd ⟨q1, q2, q3⟩ hg
      rw [this]; rfl
theorem w46 (l : List Claim) (lo hi : Int) (hb : l.length < 1000000000) (hh : 1 ≤ hi ∧ hi ≤ 512) (hlo : 0 ≤ lo ∧ lo ≤ 512) : g46 l lo hi = some (claimB lo hi l) := by
  unfold g46
  have := l46 hi l l hb hh l.length 0 (lo - 1) (by omega) (by omega)
  rw [show ((0 : Nat) : Int) = 0 from rfl, List.drop_zero] at this
  rw [wi64 (by omega), this]
  unfold claimB
  cases chain hi (lo - 1) l
  · rw [Bool.and_false]; rfl
  · rw [Bool.and_true]; rfl
theorem l39 (hi : Int) (l : List Claim) (hb : l.length < 1000000000) (hh : 1 ≤ hi ∧ hi ≤ 512) : ∀ (k i : Nat) (e : Int), i + k = l.length → -1 ≤ e → lpU g39x0 (hi, e, l, (l.length : Int), (i : Int)) = some (if chain hi e (l.drop i) then .inl () else .inr false)
  | 0, i, e, hi', he => by
    have hd : decide ((i : Int) < (l.length : Int)) = false := decide_eq_false (by omega)
    rw [lp_end (x := .inl ()) (by simp only [g39x0, hd, Bool.false_eq_true, if_false])]
    rw [List.drop_of_length_le (by omega)]; rfl
  | k + 1, i, e, hi', he => by
    have hd : decide ((i : Int) < (l.length : Int)) = true := decide_eq_true (by omega)
    have h1 : i < l.length := by omega
    obtain ⟨c, hc⟩ : ∃ c, l[i] = c := ⟨_, rfl⟩
    have hx : idx l (i : Int) = some c := by rw [idx_some' h1, hc]
    rw [drop_cons' h1, hc]
    by_cases hg : 0 < c.2 ∧ e < c.1 ∧ c.1 + c.2 ≤ hi
    · have q1 : decide (c.2 < 1) = false := decide_eq_false (by omega)
      have q2 : decide (c.1 ≤ e) = false := decide_eq_false (by omega)
      have q3 : decide (c.2 > 512) = false := decide_eq_false (by omega)
      have q4 : decide (c.1 > 512) = false := decide_eq_false (by omega)
      have hw := wi64 (show -9223372036854775808 ≤ c.1 + c.2 ∧ c.1 + c.2 ≤ 9223372036854775807 by omega)
      have q5 : decide (c.1 + c.2 > hi) = false := decide_eq_false (by omega)
      rw [lp_next (s' := (hi, c.1 + c.2, l, (l.length : Int), ((i + 1 : Nat) : Int))) (by
        simp only [g39x0, hd, if_true, hx, Option.bind_some, hw, q1, q2, q3, q4, q5, Bool.false_eq_true, if_false, wnext (show i < 1000000000000 by omega)]),
        l39 hi l hb hh k (i + 1) (c.1 + c.2) (by omega) (by omega)]
      have : chain hi e (c :: l.drop (i + 1)) = chain hi (c.1 + c.2) (l.drop (i + 1)) := by
        simp only [chain, decide_eq_true (show c.2 > 0 by omega), decide_eq_true (show c.1 > e by omega), decide_eq_true (show c.1 ≤ hi by omega), decide_eq_true (show c.2 ≤ hi - c.1 by omega), Bool.true_and]
      rw [this]
    · have hcond : (if (if (if (if (decide (c.2 < (1 : Int))) then true else (decide (c.1 ≤ e))) then true else (decide (c.2 > (512 : Int)))) then true else (decide (c.1 > (512 : Int)))) then true else (decide ((IntKind.i64.wrap (c.1 + c.2)) > hi))) = true := by
        cases q1 : decide (c.2 < 1)
        · cases q2 : decide (c.1 ≤ e)
          · cases q3 : decide (c.2 > 512)
            · cases q4 : decide (c.1 > 512)
              · have := of_decide_eq_false q1
                have := of_decide_eq_false q2
                have := of_decide_eq_false q3
                have := of_decide_eq_false q4
                rw [wi64 (by omega)]
                simp only [Bool.false_eq_true, if_false]
                exact decide_eq_true (by omega)
              · rfl
            · rfl
          · rfl
        · rfl
      rw [lp_end (x := .inr false) (by simp only [g39x0, hd, if_true, hx, Option.bind_some, hcond])]
      have : chain hi e (c :: l.drop (i + 1)) = false := by
        cases hq : chain hi e (c :: l.drop (i + 1)) with
        | false => rfl
        | true => obtain ⟨q1, q2, q3, q4⟩ := chain_cons.1 hq; exact absurd ⟨q1, q2, q3⟩ hg
      rw [this]; rfl
theorem w39 (l : List Claim) (lo hi : Int) (hb : l.length < 1000000000) (hh : 1 ≤ hi ∧ hi ≤ 512) (hlo : 0 ≤ lo ∧ lo ≤ 512) : g39 l lo hi = some (claimB lo hi l) := by
  unfold g39 claimB
  have := l39 hi l hb hh l.length 0 (lo - 1) (by omega) (by omega)
  rw [show ((0 : Nat) : Int) = 0 from rfl, List.drop_zero] at this
  rw [wi64 (by omega), this]
  by_cases hq : (l.length : Int) ≤ 20
  · rw [decide_eq_true hq, decide_eq_false (show ¬ (l.length : Int) > 20 by omega), Bool.true_and]
    cases chain hi (lo - 1) l <;> rfl
  · rw [decide_eq_false hq, decide_eq_true (show (l.length : Int) > 20 by omega)]; rfl
end Go.Proofs.Ytmbhpchkhilheaa.Ev.U
namespace Go.Proofs.Ytmbhpchkhilheaa.Ev.U
open Go
theorem w45 (x a b : Int) : h45 x a b = inB x a b := by
  show (if decide (x ≥ a) = true then decide (x ≤ b) else false) = (decide (x ≥ a) && decide (x ≤ b))
  cases decide (x ≥ a) <;> rfl
/-- A segment with just what its kind counts. -/
def onlyF (x : Segment) : Segment :=
  if x.1 = 1 then (x.1, x.2.1, x.2.2.1, x.2.2.2.1, 0, x.2.2.2.2.2.1, x.2.2.2.2.2.2.1, 0, 0, 0, x.2.2.2.2.2.2.2.2.2.2.1, x.2.2.2.2.2.2.2.2.2.2.2.1, [])
  else if x.1 = 2 then (x.1, x.2.1, x.2.2.1, x.2.2.2.1, x.2.2.2.2.1, 0, 0, x.2.2.2.2.2.2.2.1, x.2.2.2.2.2.2.2.2.1, 0, false, [], x.2.2.2.2.2.2.2.2.2.2.2.2)
  else if x.1 = 3 then (x.1, x.2.1, x.2.2.1, x.2.2.2.1, 0, 0, 0, 0, 0, 0, false, [], [])
  else if x.1 = 4 ∨ x.1 = 6 then (x.1, x.2.1, x.2.2.1, 0, 0, 0, 0, 0, 0, x.2.2.2.2.2.2.2.2.2.1, false, [], [])
  else (x.1, x.2.1, x.2.2.1, 0, 0, 0, 0, 0, 0, 0, false, [], [])
/-- What its kind asks. -/
def kindB (x : Segment) : Bool :=
  if x.1 = 1 then inB x.2.2.2.2.2.2.1 1 512 && inB (x.2.2.2.2.2.2.2.2.2.2.2.1.length : Int) 1 100 && inB x.2.2.2.2.2.1 0 (x.2.2.2.2.2.2.1 - x.2.2.2.2.2.2.2.2.2.2.2.1.length) && (x.2.2.2.2.2.2.2.2.2.2.1 == decide (x.2.2.2.1 > 0))
  else if x.1 = 2 then decide (x.2.2.2.1 > 0) && decide (x.2.2.2.2.1 > 0) && inB x.2.2.2.2.2.2.2.2.1 1 512 && inB x.2.2.2.2.2.2.2.1 0 (x.2.2.2.2.2.2.2.2.1 - 1) && claimB x.2.2.2.2.2.2.2.1 x.2.2.2.2.2.2.2.2.1 x.2.2.2.2.2.2.2.2.2.2.2.2
  else if x.1 = 3 then decide (x.2.2.2.1 > 0)
  else if x.1 = 4 ∨ x.1 = 6 then inB x.2.2.2.2.2.2.2.2.2.1 0 255
  else decide (x.1 = 5 ∨ x.1 = 7)
def headB (x : Segment) : Bool := inB x.2.1 1 6 && decide (x.2.2.1 > 0)
def segOk (x : Segment) : Bool := headB x && kindB x && sameS x (onlyF x)
theorem fin30 (ok : Bool) (x o : Segment) (h : SmS x) : ((if (!(!ok)) = true then g47 x o else some false).bind fun y40 => if (if (!ok) = true then true else (!y40)) = true then some (200 : Int) else some 0) = some (if ok && sameS x o then 0 else 200) := by
  cases ok with
  | false => rfl
  | true =>
    rw [w47 x o h]
    cases hq : sameS x o <;> simp [hq]
theorem b33' (x : Bool) : (x != false) = x := by cases x <;> rfl
theorem if_and (a b : Bool) : (if a = true then b else false) = (a && b) := by cases a <;> rfl
theorem w30 (x : Segment) (h : SmS x) : g30 x = some (if segOk x then 0 else 200) := by
  have hd := h.d
  have hc := h.c
  have fin := fun ok o => fin30 ok x o h
  obtain ⟨x1, x2, x3, x4, x5, x6, x7, x8, x9, x10, x11, x12, x13⟩ := x
  simp only at hd hc fin
  have hh : (if inB x2 1 6 = true then decide (x3 > 0) else false) = headB (x1, x2, x3, x4, x5, x6, x7, x8, x9, x10, x11, x12, x13) := if_and _ _
  simp only [g30, w45, hh]
  unfold segOk
  generalize headB (x1, x2, x3, x4, x5, x6, x7, x8, x9, x10, x11, x12, x13) = hb
  by_cases k1 : x1 = 1
  · subst k1
    simp only [beq_self_eq_true, if_true, Option.bind_some, fin]
    simp only [kindB, onlyF, if_true, b33']
    congr 2
    rw [eq_iff_iff]
    suffices hs : (if (if (if (if hb = true then inB x7 1 512 else false) = true then inB (x12.length : Int) 1 100 else false) = true then inB x6 0 (IntKind.i64.wrap (x7 - (x12.length : Int))) else false) = true then (x11 == decide (x4 > 0)) else false) = (hb && (inB x7 1 512 && inB (x12.length : Int) 1 100 && inB x6 0 (x7 - (x12.length : Int)) && (x11 == decide (x4 > 0)))) by rw [hs]
    cases hb with
    | false => rfl
    | true =>
      cases q1 : inB x7 1 512 with
      | false => rfl
      | true =>
        simp only [inB, Bool.and_eq_true, decide_eq_true_eq] at q1
        rw [wi64 (by omega)]
        cases inB (x12.length : Int) 1 100 <;> cases inB x6 0 (x7 - (x12.length : Int)) <;> simp
  · have e1 : (x1 == 1) = false := by simpa using k1
    simp only [e1, Bool.false_eq_true, if_false, kindB, onlyF, if_neg k1]
    by_cases k2 : x1 = 2
    · subst k2
      simp only [beq_self_eq_true, if_true]
      have hx : (if (if (if (if (if hb = true then decide (x4 > 0) else false) = true then decide (x5 > 0) else false) = true then inB x9 1 512 else false) = true then inB x8 0 (IntKind.i64.wrap (x9 - 1)) else false) = true then g46 x13 x8 x9 else some false) = some ((hb && (decide (x4 > 0) && decide (x5 > 0) && inB x9 1 512 && inB x8 0 (x9 - 1))) && claimB x8 x9 x13) := by
        cases hb with
        | false => rfl
        | true =>
          cases decide (x4 > 0) with
          | false => rfl
          | true =>
            cases decide (x5 > 0) with
            | false => rfl
            | true =>
              cases q1 : inB x9 1 512 with
              | false => rfl
              | true =>
                simp only [inB, Bool.and_eq_true, decide_eq_true_eq] at q1
                rw [wi64 (by omega)]
                cases q2 : inB x8 0 (x9 - 1) with
                | false => rfl
                | true =>
                  simp only [inB, Bool.and_eq_true, decide_eq_true_eq] at q2
                  simp only [if_true, Bool.true_and]
                  exact w46 x13 x8 x9 (by omega) (by omega) (by omega)
      have hy : ∀ y : Bool, (if (if (if (if (if hb = true then decide (x4 > 0) else false) = true then decide (x5 > 0) else false) = true then inB x9 1 512 else false) = true then inB x8 0 (IntKind.i64.wrap (x9 - 1)) else false) = true then y else false) = ((hb && (decide (x4 > 0) && decide (x5 > 0) && inB x9 1 512 && inB x8 0 (x9 - 1))) && y) := by
        intro y
        cases hb with
        | false => rfl
        | true =>
          cases decide (x4 > 0) with
          | false => rfl
          | true =>
            cases decide (x5 > 0) with
            | false => rfl
            | true =>
              cases q1 : inB x9 1 512 with
              | false => rfl
              | true =>
                simp only [inB, Bool.and_eq_true, decide_eq_true_eq] at q1
                rw [wi64 (by omega)]
                cases inB x8 0 (x9 - 1) <;> rfl
      simp only [hx, hy, Option.bind_some, fin]
      congr 2
      rw [eq_iff_iff]
      generalize (decide (x4 > 0) && decide (x5 > 0) && inB x9 1 512 && inB x8 0 (x9 - 1)) = c1, claimB x8 x9 x13 = c2
      cases hb <;> cases c1 <;> cases c2 <;> simp
    · have e2 : (x1 == 2) = false := by simpa using k2
      simp only [e2, Bool.false_eq_true, if_false, if_neg k2]
      by_cases k3 : x1 = 3
      · subst k3
        simp only [beq_self_eq_true, if_true, Option.bind_some, fin, if_and]
      · have e3 : (x1 == 3) = false := by simpa using k3
        simp only [e3, Bool.false_eq_true, if_false, if_neg k3]
        by_cases k4 : x1 = 4
        · subst k4
          simp only [beq_self_eq_true, if_true, Option.bind_some, fin, if_and, true_or]
        · have e4 : (x1 == 4) = false := by simpa using k4
          simp only [e4, Bool.false_eq_true, if_false]
          by_cases k6 : x1 = 6
          · subst k6
            simp only [beq_self_eq_true, if_true, Option.bind_some, fin, if_and, or_true]
          · have e6 : (x1 == 6) = false := by simpa using k6
            simp only [e6, Option.bind_some, Bool.false_eq_true, if_false, if_neg (show ¬ (x1 = 4 ∨ x1 = 6) by omega)]
            by_cases k5 : x1 = 5
            · subst k5
              simp only [beq_self_eq_true, if_true, Option.bind_some, fin, true_or, decide_true, Bool.and_true]
            · have e5 : (x1 == 5) = false := by simpa using k5
              simp only [e5, Bool.false_eq_true, if_false]
              by_cases k7 : x1 = 7
              · subst k7
                simp only [beq_self_eq_true, if_true, Option.bind_some, fin, or_true, decide_true, Bool.and_true]
              · have e7 : (x1 == 7) = false := by simpa using k7
                simp only [e7, Bool.false_eq_true, if_false, Option.bind_some, fin]
                rw [decide_eq_false (show ¬ (x1 = 5 ∨ x1 = 7) by omega)]
                simp
end Go.Proofs.Ytmbhpchkhilheaa.Ev.U
