/- From a call that a claim makes to the evaluator. Conditions: none. -/
import Derived.Test.YtmbhpchkhilheaaJ15
import Derived.Test.YtmbhpchkhilheaaU1
import Derived.Test.YtmbhpchkhilheaaEvS
import Derived.ProofKit
import Derived.WalkKit
import Derived.OpenShut
import Derived.ShutString
import Derived.ChangeOld
import Derived.Below
import Derived.SizedLaws
set_option linter.all false
namespace Go.Proofs.Ytmbhpchkhilheaa.Ev.U
open Go
theorem w38 (x : Segment) : g38 x = some (onlyF x) := by
  unfold g38 onlyF
  by_cases k1 : x.1 = 1
  · simp [k1]
  by_cases k2 : x.1 = 2
  · simp [k2]
  by_cases k3 : x.1 = 3
  · simp [k3]
  by_cases k4 : x.1 = 4
  · simp [k4]
  by_cases k6 : x.1 = 6
  · simp [k6]
  simp [k1, k2, k3, k4, k6]
theorem w20 (x : Segment) (h : SmS x) (hs : 0 ≤ x.2.2.1) : g20 x = some (segOk x) := by
  have hd := h.d
  have hc := h.c
  have hh : (if (if decide (x.2.1 < 1) = true then true else decide (x.2.1 > 6)) = true then true else (x.2.2.1 == 0)) = !headB x := by
    rw [Bool.eq_iff_iff]
    simp only [headB, inB, Bool.if_true_left, Bool.or_eq_true, decide_eq_true_eq, beq_iff_eq, Bool.not_eq_true', Bool.and_eq_false_iff, decide_eq_false_iff_not]
    omega
  simp only [g20, hh, w38, w37 x _ h, Bool.not_not]
  unfold segOk
  cases hb : headB x with
  | false => rfl
  | true =>
    simp only [if_true, Option.bind_some, Bool.not_true, Bool.false_eq_true, if_false, Bool.true_and]
    cases hq : sameS x (onlyF x) with
    | false => simp
    | true =>
      simp only [Bool.not_true, Bool.false_eq_true, if_false, Bool.and_true]
      obtain ⟨x1, x2, x3, x4, x5, x6, x7, x8, x9, x10, x11, x12, x13⟩ := x
      simp only at hd hc hs
      clear hq hh hb h
      simp only [kindB, b33']
      by_cases k1 : x1 = 1
      · subst k1
        simp only [beq_self_eq_true, if_true]
        congr 1
        show (if (if (if (if (if (if decide (x7 ≥ 1) = true then decide (x7 ≤ 512) else false) = true then decide ((x12.length : Int) ≥ 1) else false) = true then decide ((x12.length : Int) ≤ 100) else false) = true then decide (x6 ≥ 0) else false) = true then decide (x6 ≤ IntKind.i64.wrap (x7 - (x12.length : Int))) else false) = true then (x11 == decide (x4 > 0)) else false) = _
        have hin : ∀ a b c : Int, (if decide (a ≥ b) = true then decide (a ≤ c) else false) = inB a b c := fun a b c => if_and _ _
        rw [hin]
        cases q1 : inB x7 1 512 with
        | false => rfl
        | true =>
          simp only [inB, Bool.and_eq_true, decide_eq_true_eq] at q1
          rw [wi64 (by omega)]
          simp only [inB]
          show (if (if (if (if (if true = true then decide (1 ≤ (x12.length : Int)) else false) = true then _ else false) = true then decide (0 ≤ x6) else false) = true then _ else false) = true then _ else false) = _
          generalize decide (1 ≤ (x12.length : Int)) = c1, decide ((x12.length : Int) ≤ 100) = c2, decide (0 ≤ x6) = c3, decide (x6 ≤ x7 - (x12.length : Int)) = c4, (x11 == decide (x4 > 0)) = c5
          cases c1 <;> cases c2 <;> cases c3 <;> cases c4 <;> cases c5 <;> rfl
      · have e1 : (x1 == 1) = false := by simpa using k1
        simp only [e1, Bool.false_eq_true, if_false, if_neg k1]
        by_cases k2 : x1 = 2
        · subst k2
          simp only [beq_self_eq_true, if_true]
          have hx : (if (if (if (if decide (x4 > 0) = true then decide (x5 > 0) else false) = true then decide (x8 ≥ 0) else false) = true then decide (x8 < x9) else false) = true then decide (x9 ≤ 512) else false) = (decide (x4 > 0) && decide (x5 > 0) && inB x9 1 512 && inB x8 0 (x9 - 1)) := by
            simp only [inB, if_and]
            rw [Bool.eq_iff_iff]
            simp only [Bool.and_eq_true, decide_eq_true_eq, ge_iff_le, gt_iff_lt]
            constructor
            · rintro ⟨⟨⟨⟨q1, q2⟩, q3⟩, q4⟩, q5⟩
              exact ⟨⟨⟨q1, q2⟩, by omega, q5⟩, q3, by omega⟩
            · rintro ⟨⟨⟨q1, q2⟩, q3, q4⟩, q5, q6⟩
              exact ⟨⟨⟨⟨q1, q2⟩, q5⟩, by omega⟩, q4⟩
          simp only [hx]
          cases hc1 : (decide (x4 > 0) && decide (x5 > 0) && inB x9 1 512 && inB x8 0 (x9 - 1)) with
          | false => rfl
          | true =>
            simp only [inB, Bool.and_eq_true, decide_eq_true_eq] at hc1
            simp only [if_true, w39 x13 x8 x9 (by omega) (by omega) (by omega), Option.bind_some, Bool.true_and]
        · have e2 : (x1 == 2) = false := by simpa using k2
          simp only [e2, Bool.false_eq_true, if_false, if_neg k2]
          by_cases k3 : x1 = 3
          · subst k3; rfl
          · have e3 : (x1 == 3) = false := by simpa using k3
            simp only [e3, Bool.false_eq_true, if_false, if_neg k3]
            have hin : ∀ a b c : Int, (if decide (a ≥ b) = true then decide (a ≤ c) else false) = inB a b c := fun a b c => if_and _ _
            by_cases k4 : x1 = 4
            · subst k4
              simp only [beq_self_eq_true, if_true, Option.bind_some, hin, true_or]
            · have e4 : (x1 == 4) = false := by simpa using k4
              simp only [e4, Bool.false_eq_true, if_false]
              by_cases k6 : x1 = 6
              · subst k6
                simp only [beq_self_eq_true, if_true, Option.bind_some, hin, or_true]
              · have e6 : (x1 == 6) = false := by simpa using k6
                simp only [e6, Option.bind_some, Bool.false_eq_true, if_false, if_neg (show ¬ (x1 = 4 ∨ x1 = 6) by omega)]
                by_cases k5 : x1 = 5
                · subst k5; rfl
                · have e5 : (x1 == 5) = false := by simpa using k5
                  simp only [e5, Bool.false_eq_true, if_false]
                  by_cases k7 : x1 = 7
                  · subst k7; rfl
                  · have e7 : (x1 == 7) = false := by simpa using k7
                    simp only [e7, Bool.false_eq_true, if_false]
                    rw [decide_eq_false (show ¬ (x1 = 5 ∨ x1 = 7) by omega)]
/-- Does a segment go forward? -/
def fwdB (x : Segment) : Bool := x.1 == 1 || x.1 == 3 || x.1 == 4 || x.1 == 7
theorem w21 (x : Segment) : g21 x = some (fwdB x) := by
  unfold g21 fwdB
  cases x.1 == 1 <;> cases x.1 == 3 <;> cases x.1 == 4 <;> cases x.1 == 7 <;> rfl
theorem segOk_data {x : Segment} (h : segOk x = true) (k : x.1 = 1) : 0 ≤ x.2.2.2.2.2.1 ∧ x.2.2.2.2.2.1 + x.2.2.2.2.2.2.2.2.2.2.2.1.length ≤ x.2.2.2.2.2.2.1 ∧ x.2.2.2.2.2.2.1 ≤ 512 ∧ 1 ≤ x.2.2.2.2.2.2.1 ∧ 1 ≤ x.2.2.2.2.2.2.2.2.2.2.2.1.length ∧ x.2.2.2.2.2.2.2.2.2.2.2.1.length ≤ 100 := by
  simp only [segOk, Bool.and_eq_true] at h
  have := h.1.2
  simp only [kindB, if_pos k, inB, Bool.and_eq_true, decide_eq_true_eq] at this
  omega
/-- What a segment makes of a session. -/
def takeF (a : Taking) (x : Segment) (now : Int) : Taking × List Segment :=
  if x.1 = 1 then dataF (a.1, a.2.1, a.2.2.1, a.2.2.2.1, a.2.2.2.2.1, a.2.2.2.2.2.1, a.2.2.2.2.2.2.1, a.2.2.2.2.2.2.2.1, now + a.2.2.2.2.2.2.2.1) x
  else if x.1 = 4 then ((a.1, a.2.1, a.2.2.1, a.2.2.2.1, a.2.2.2.2.1, a.2.2.2.2.2.1, if a.2.2.2.2.2.2.1 = 1 then 4 else a.2.2.2.2.2.2.1, a.2.2.2.2.2.2.2.1, now + a.2.2.2.2.2.2.2.1), [(5, a.1, a.2.1, 0, 0, 0, 0, 0, 0, 0, false, [], [])])
  else ((a.1, a.2.1, a.2.2.1, a.2.2.2.1, a.2.2.2.2.1, a.2.2.2.2.2.1, a.2.2.2.2.2.2.1, a.2.2.2.2.2.2.2.1, now + a.2.2.2.2.2.2.2.1), [])
structure TkOk (a : Taking) (x : Segment) (now : Int) : Prop where
  sm : SmT a
  life : 0 ≤ a.2.2.2.2.2.2.2.1 ∧ a.2.2.2.2.2.2.2.1 ≤ 65536
  now : 0 ≤ now ∧ now ≤ 1048576
  inn : x.1 = 1 → InOk a x
theorem w36 (a : Taking) (x : Segment) (now : Int) (h : TkOk a x now) : g36 a x now = some (takeF a x now) := by
  obtain ⟨⟨hb, hg⟩, hl, hn, hi⟩ := h
  have hw : IntKind.i64.wrap (now + a.2.2.2.2.2.2.2.1) = now + a.2.2.2.2.2.2.2.1 := wi64 (by omega)
  simp only [g36, w33 a.2.2.2.1 (by omega), w41 a.2.2.2.2.1 (by omega), Option.bind_some, hw]
  unfold takeF
  by_cases k1 : x.1 = 1
  · have e1 : (x.1 == 1) = true := by simpa using k1
    have hin := hi k1
    rw [e1, if_pos rfl, if_pos k1, w48 (a.1, a.2.1, a.2.2.1, a.2.2.2.1, a.2.2.2.2.1, a.2.2.2.2.2.1, a.2.2.2.2.2.2.1, a.2.2.2.2.2.2.2.1, now + a.2.2.2.2.2.2.2.1) x ⟨hin.tot, hin.len, hin.ch, hin.glen, hin.off, hin.fit, hin.xt⟩]
    rfl
  · have e1 : (x.1 == 1) = false := by simpa using k1
    rw [e1, if_neg (by simp), if_neg k1]
    by_cases k4 : x.1 = 4
    · have e4 : (x.1 == 4) = true := by simpa using k4
      rw [e4, if_pos rfl, if_pos k4]
      by_cases s1 : a.2.2.2.2.2.2.1 = 1
      · have : (a.2.2.2.2.2.2.1 == 1) = true := by simpa using s1
        simp only [this, if_true, if_pos s1, Option.bind_some, h49]
      · have : (a.2.2.2.2.2.2.1 == 1) = false := by simpa using s1
        simp only [this, Bool.false_eq_true, if_false, if_neg s1, Option.bind_some, h49]
    · have e4 : (x.1 == 4) = false := by simpa using k4
      rw [e4, if_neg (by simp), if_neg k4]
def Z9 : Taking := ((0 : Int), (0 : Int), (0 : Int), [], [], (0 : Int), (0 : Int), (0 : Int), (0 : Int))
def newT (x : Segment) (life : Int) : Taking := (x.2.1, x.2.2.1, x.2.2.2.2.2.2.1, List.replicate x.2.2.2.2.2.2.1.toNat 0, [], 0, 1, life, 0)
theorem new_ok {x : Segment} {now life : Int} (hs : segOk x = true) (k : x.1 = 1) (hn : 0 ≤ now ∧ now ≤ 1048576) (hl : 1 ≤ life ∧ life ≤ 65536) : TkOk (newT x life) x now := by
  obtain ⟨q1, q2, q3, q4, _⟩ := segOk_data hs k
  exact ⟨⟨by simp [newT]; omega, by simp [newT]⟩, ⟨by show 0 ≤ life; omega, hl.2⟩, hn, fun _ => ⟨⟨q4, q3⟩, by show ((List.replicate x.2.2.2.2.2.2.1.toNat (0 : Int)).length : Int) = x.2.2.2.2.2.2.1; rw [List.length_replicate]; omega, rfl, by simp [newT], q1, q2, q3⟩⟩
theorem w24 (x : Segment) (now life : Int) (h : SmS x) : g24 x now life = some (if segOk x = true ∧ x.1 = 1 ∧ (0 ≤ now ∧ now ≤ 1048576) ∧ (1 ≤ life ∧ life ≤ 65536) then ((takeF (newT x life) x now).1, (takeF (newT x life) x now).2, 0) else (Z9, [], 2)) := by
  unfold g24
  rw [w30 x h, Option.bind_some]
  by_cases hc : segOk x = true ∧ x.1 = 1 ∧ (0 ≤ now ∧ now ≤ 1048576) ∧ (1 ≤ life ∧ life ≤ 65536)
  · obtain ⟨c1, c2, c3, c4⟩ := hc
    have e2 : (x.1 != 1) = false := by simpa using c2
    have e3 : h35 now 0 1048576 = true := by rw [w35]; simp only [inB, Bool.and_eq_true, decide_eq_true_eq]; exact c3
    have e4 : h35 life 1 65536 = true := by rw [w35]; simp only [inB, Bool.and_eq_true, decide_eq_true_eq]; exact c4
    obtain ⟨q1, q2, q3, q4, _⟩ := segOk_data c1 c2
    rw [if_pos (show segOk x = true ∧ x.1 = 1 ∧ (0 ≤ now ∧ now ≤ 1048576) ∧ (1 ≤ life ∧ life ≤ 65536) from ⟨c1, c2, c3, c4⟩)]
    simp only [c1, if_true, bne_self_eq_false, e2, e3, e4, Bool.not_true, Bool.false_eq_true, if_false, mkl_ok (show 0 ≤ x.2.2.2.2.2.2.1 by omega) (Int.le_refl _) (show ((1 : Nat) : Int) * x.2.2.2.2.2.2.1 ≤ 140737488355328 by omega), Option.bind_some]
    rw [show (x.2.1, x.2.2.1, x.2.2.2.2.2.2.1, List.replicate x.2.2.2.2.2.2.1.toNat (0 : Int), ([] : List Claim), (0 : Int), (1 : Int), life, (0 : Int)) = newT x life from rfl, w36 _ x now (new_ok c1 c2 c3 c4)]
    rfl
  · rw [if_neg hc, if_pos]
    · rfl
    · rw [w35, w35]
      cases q1 : segOk x with
      | false => rfl
      | true =>
        by_cases c2 : x.1 = 1
        · have e2 : (x.1 != 1) = false := by simpa using c2
          rw [e2]
          cases q3 : inB now 0 1048576 with
          | false => rfl
          | true =>
            cases q4 : inB life 1 65536 with
            | false => rfl
            | true =>
              simp only [inB, Bool.and_eq_true, decide_eq_true_eq] at q3 q4
              exact absurd ⟨q1, c2, q3, q4⟩ hc
        · have e2 : (x.1 != 1) = true := by simpa using c2
          rw [e2]; rfl
theorem right_take {a : Taking} {x : Segment} {now : Int} (hr : rightB a = true) (hsm : SmT a) (hs : segOk x = true) (hn : 0 ≤ now ∧ now ≤ 1048576) : TkOk a x now := by
  have ht := right_tot hr
  obtain ⟨_, hc, hp⟩ := right_iff.1 hr
  simp only [postB, inB, Bool.and_eq_true, decide_eq_true_eq] at hp
  exact ⟨hsm, by omega, hn, fun k => by
    obtain ⟨q1, q2, q3, q4, _⟩ := segOk_data hs k
    exact ⟨⟨ht.1, ht.2.1⟩, ht.2.2, hc, hsm.g, q1, q2, q3⟩⟩
theorem w19 (a : Taking) (x : Segment) (now : Int) (ha : SmT a) (h : SmS x) : g19 a x now = some (if rightB a = true then (if segOk x = true ∧ x.2.1 = a.1 ∧ x.2.2.1 = a.2.1 ∧ fwdB x = true ∧ 0 ≤ now ∧ now ≤ 1048576 then ((takeF a x now).1, (takeF a x now).2, 0) else (Z9, [], 2)) else (Z9, [], 250)) := by
  unfold g19
  rw [w16 a ha, Option.bind_some]
  cases hr : rightB a with
  | false => rfl
  | true =>
    simp only [if_true, bne_self_eq_false, Bool.false_eq_true, if_false, w30 x h, Option.bind_some, w21, w35]
    by_cases hc : segOk x = true ∧ x.2.1 = a.1 ∧ x.2.2.1 = a.2.1 ∧ fwdB x = true ∧ 0 ≤ now ∧ now ≤ 1048576
    · obtain ⟨c1, c2, c3, c4, c5⟩ := hc
      have e5 : inB now 0 1048576 = true := by simp only [inB, Bool.and_eq_true, decide_eq_true_eq]; exact c5
      rw [if_pos (show segOk x = true ∧ x.2.1 = a.1 ∧ x.2.2.1 = a.2.1 ∧ fwdB x = true ∧ 0 ≤ now ∧ now ≤ 1048576 from ⟨c1, c2, c3, c4, c5⟩)]
      simp only [c1, c2, c3, c4, e5, if_true, bne_self_eq_false, Bool.false_eq_true, if_false, Bool.not_false, Bool.not_true, Option.bind_some, w36 a x now (right_take hr ha c1 c5)]
    · rw [if_neg hc]
      have e2 : (x.2.1 != a.1) = !decide (x.2.1 = a.1) := by rw [Bool.eq_iff_iff]; simp
      have e3 : (x.2.2.1 != a.2.1) = !decide (x.2.2.1 = a.2.1) := by rw [Bool.eq_iff_iff]; simp
      have hall : (segOk x && decide (x.2.1 = a.1) && decide (x.2.2.1 = a.2.1) && fwdB x && inB now 0 1048576) = false := by
        cases hq : (segOk x && decide (x.2.1 = a.1) && decide (x.2.2.1 = a.2.1) && fwdB x && inB now 0 1048576) with
        | false => rfl
        | true =>
          simp only [inB, Bool.and_eq_true, decide_eq_true_eq] at hq
          exact absurd ⟨hq.1.1.1.1, hq.1.1.1.2, hq.1.1.2, hq.1.2, hq.2⟩ hc
      rw [e2, e3]
      clear hc
      generalize decide (x.2.1 = a.1) = c2, decide (x.2.2.1 = a.2.1) = c3, fwdB x = c4, inB now 0 1048576 = c5, segOk x = c1 at *
      cases c1 <;> cases c2 <;> cases c3 <;> cases c4 <;> cases c5 <;> first | rfl | exact absurd hall (by decide)
/-- A moment comes. -/
def tickF (a : Taking) (now : Int) : Taking × List Segment :=
  if now < a.2.2.2.2.2.2.2.2 ∨ a.2.2.2.2.2.2.1 = 4 then (a, [])
  else ((a.1, a.2.1, a.2.2.1, a.2.2.2.1, a.2.2.2.2.1, a.2.2.2.2.2.1, 4, a.2.2.2.2.2.2.2.1, a.2.2.2.2.2.2.2.2), if a.2.2.2.2.2.2.1 = 1 then [(6, a.1, a.2.1, 0, 0, 0, 0, 0, 0, 4, false, [], [])] else [])
theorem w26 (a : Taking) (now : Int) (ha : SmT a) : g26 a now = some (if rightB a = true then (if 0 ≤ now ∧ now ≤ 1048576 then ((tickF a now).1, (tickF a now).2, 0) else (Z9, [], 2)) else (Z9, [], 250)) := by
  unfold g26
  rw [w16 a ha, Option.bind_some]
  cases hr : rightB a with
  | false => rfl
  | true =>
    have hb := ha.b
    have hg := ha.g
    simp only [if_true, bne_self_eq_false, Bool.false_eq_true, if_false, w35, w33 a.2.2.2.1 (by omega), w41 a.2.2.2.2.1 (by omega), Option.bind_some]
    by_cases hc : 0 ≤ now ∧ now ≤ 1048576
    · have e : inB now 0 1048576 = true := by simp only [inB, Bool.and_eq_true, decide_eq_true_eq]; exact hc
      rw [e, if_pos hc]
      simp only [Bool.not_true, Bool.false_eq_true, if_false]
      unfold tickF
      by_cases hd : now < a.2.2.2.2.2.2.2.2 ∨ a.2.2.2.2.2.2.1 = 4
      · have : (if decide (now < a.2.2.2.2.2.2.2.2) = true then true else (a.2.2.2.2.2.2.1 == 4)) = true := by
          rcases hd with hd | hd
          · simp [hd]
          · simp [hd]
        rw [this, if_pos rfl, if_pos hd]
      · have : (if decide (now < a.2.2.2.2.2.2.2.2) = true then true else (a.2.2.2.2.2.2.1 == 4)) = false := by
          simp only [not_or] at hd
          simp [hd.1, hd.2]
        rw [this, if_neg (by simp), if_neg hd]
        by_cases s1 : a.2.2.2.2.2.2.1 = 1
        · have : (a.2.2.2.2.2.2.1 == 1) = true := by simpa using s1
          rw [this, if_pos rfl, if_pos s1, apd_ok (by simp)]
          rfl
        · have : (a.2.2.2.2.2.2.1 == 1) = false := by simpa using s1
          rw [this, if_neg (by simp), if_neg s1]
    · have e : inB now 0 1048576 = false := by
        simp only [inB, Bool.and_eq_false_iff, decide_eq_false_iff_not]; omega
      rw [e, if_neg hc]; rfl
end Go.Proofs.Ytmbhpchkhilheaa.Ev.U
namespace Go.Proofs.Ytmbhpchkhilheaa.Ev.U
open Go
def S0 : Segment := ((1 : Int), (1 : Int), (5 : Int), (1 : Int), (0 : Int), (0 : Int), (2 : Int), (0 : Int), (0 : Int), (0 : Int), true, [(7 : Int), (8 : Int)], [])
def T0 : Taking := ((1 : Int), (5 : Int), (2 : Int), [7, 8], [((0 : Int), (2 : Int))], 1, 2, 100, 100)
def C0 : Segment := ((2 : Int), (1 : Int), (5 : Int), (1 : Int), (1 : Int), (0 : Int), (0 : Int), (0 : Int), (2 : Int), (0 : Int), false, [], [((0 : Int), (2 : Int))])
theorem s0_ok : segOk S0 = true := by decide
theorem t0_take : takeF (newT S0 100) S0 0 = (T0, [C0]) := by kernel_rfl
theorem t0_right : rightB T0 = true := by decide
theorem t0_whole : wholeB T0 = true := by decide
theorem w8 : g8 = some true := by
  have h := w24 S0 0 100 ⟨by decide, by decide⟩
  rw [if_pos ⟨s0_ok, rfl, by decide, by decide⟩, t0_take] at h
  have h2 := w13 T0 ⟨by decide, by decide⟩
  rw [t0_right, t0_whole] at h2
  show (g24 S0 0 100).bind _ = _
  rw [h, Option.bind_some]
  show (g13 T0).bind _ = _
  rw [h2]
  rfl
def ZS : Segment := ((0 : Int), (0 : Int), (0 : Int), (0 : Int), (0 : Int), (0 : Int), (0 : Int), (0 : Int), (0 : Int), (0 : Int), false, [], [])
theorem small_of {a : Taking} {x : Segment} (h : h9 a x = false) : SmT a ∧ SmS x := by
  simp only [h9] at h
  cases h1 : decide ((a.2.2.2.1.length : Int) > 5000) with
  | true => rw [h1] at h; cases h
  | false =>
    cases h2 : decide ((a.2.2.2.2.1.length : Int) > 2000) with
    | true => rw [h1, h2] at h; cases h
    | false =>
      cases h3 : decide ((x.2.2.2.2.2.2.2.2.2.2.2.1.length : Int) > 5000) with
      | true => rw [h1, h2, h3] at h; cases h
      | false =>
        rw [h1, h2, h3] at h
        have h1 := of_decide_eq_false h1
        have h2 := of_decide_eq_false h2
        have h3 := of_decide_eq_false h3
        have h4 := of_decide_eq_false h
        exact ⟨⟨by omega, by omega⟩, ⟨by omega, by omega⟩⟩
theorem w3 (a b : Taking) (h0 : 0 ≤ a.2.1) : g3 a b = some true := by
  unfold g3
  rw [w8, Option.bind_some]
  simp only [Bool.not_true, Bool.false_eq_true, if_false]
  show (if (if h9 a ZS = true then true else h9 b ZS) = true then some true else _) = _
  cases hl : h9 a ZS with
  | true => rfl
  | false =>
    cases hl' : h9 b ZS with
    | true => rfl
    | false =>
      have ha := (small_of hl).1
      have hx8 : (sameT a b == sameT a b) = true := by simp
      simp only [Bool.false_eq_true, if_false, w10 a b ha, w11 a b ha, w12 a ha, w10 a a ha, Option.bind_some, hx8, sameT_self, w13 a ha, w14 a ha, w15 a ha h0, w16 a ha, bne_self_eq_false, Bool.not_false, Bool.not_true, if_true]
      cases hr : rightB a with
      | false =>
        simp only [Bool.false_eq_true, if_false, Bool.not_false, if_true, List.length_nil, w12 a ha, Option.bind_some, w16 a ha, hr, Int.natCast_zero, beq_self_eq_true]
      | true =>
        have hb := ha.b
        have hg := ha.g
        have ht := right_tot hr
        obtain ⟨_, hc, _⟩ := right_iff.1 hr
        have hl3 := fun (b : List Int) (e n : Int) => l3 b e n a.2.2.1 a.1 a.2.1 a.2.2.1 a.2.2.2.1 a.2.2.2.2.1 a.2.2.2.2.2.1 a.2.2.2.2.2.2.1 a.2.2.2.2.2.2.2.1 a.2.2.2.2.2.2.2.2 (by omega) (chain_Bd (by omega) hc) a.2.2.1.toNat 0 0 (by omega) (by omega) (by omega) (by omega) (by omega)
        have hcn : (0 : Int) + cnt a.2.2.2.2.1 0 a.2.2.1.toNat = a.2.2.1 - sumN a.2.2.2.2.1 := by
          rw [cnt_chain hc (fun c hc' => by have := chain_bd (by omega) (by omega) hc c hc'; omega) (by omega)]
          omega
        have hm : (a.2.2.1 - sumN a.2.2.2.2.1 != a.2.2.1 - sumN a.2.2.2.2.1) = false := by simp
        simp only [Bool.not_true, Bool.false_eq_true, if_false, if_true, hl3, hcn, Option.bind_some, hm, Bool.not_false]
        have w12' : g12 (a.1, a.2.1, a.2.2.1, a.2.2.2.1, a.2.2.2.2.1, a.2.2.2.2.2.1, a.2.2.2.2.2.2.1, a.2.2.2.2.2.2.2.1, a.2.2.2.2.2.2.2.2) = some a := w12 a ha
        rw [w12', Option.bind_some, w16 a ha, hr, Option.bind_some]
        simp only [if_true, bne_self_eq_false, Bool.false_eq_true, if_false]
        rw [whole_sum hr]
        have hs := sum_chain hc
        have hp : 0 ≤ a.2.2.1 - sumN a.2.2.2.2.1 := by
          by_cases hn : a.2.2.2.2.1 = []
          · rw [hn]; simp [sumN]; omega
          · have := hs.2 hn
            have : 0 < a.2.2.2.2.1.length := List.length_pos_iff.2 hn
            omega
        by_cases hz : a.2.2.1 - sumN a.2.2.2.2.1 = 0
        · rw [hz]
          simp only [decide_true, if_true, w18 a.2.2.2.1 a.2.2.2.1 (by omega), Option.bind_some]
          rfl
        · rw [decide_eq_false hz, decide_eq_true (show a.2.2.1 - sumN a.2.2.2.2.1 > 0 by omega)]
          rfl
end Go.Proofs.Ytmbhpchkhilheaa.Ev.U
namespace Go.Proofs.Ytmbhpchkhilheaa.Ev.U
open Go
theorem l500 (x y : List Int) (hb : x.length < 1000000) : ∀ (k i : Nat), i + k = x.length → lpU g50x0 (x, y, x.take i, (i : Int)) = some (y, x)
  | 0, i, hi => by
    have hd : decide ((i : Int) < (x.length : Int)) = false := decide_eq_false (by omega)
    rw [lp_end (x := (y, x.take i)) (by simp only [g50x0, hd, Bool.false_eq_true, if_false]), List.take_of_length_le (by omega)]
  | k + 1, i, hi => by
    have hd : decide ((i : Int) < (x.length : Int)) = true := decide_eq_true (by omega)
    have h1 : i < x.length := by omega
    have ha : apd 1 (x.take i) [x[i]] = some (x.take (i + 1)) := by
      rw [apd_ok (by simp; omega), List.take_succ_eq_append_getElem h1]
    rw [lp_next (s' := (x, y, x.take (i + 1), ((i + 1 : Nat) : Int))) (by simp only [g50x0, hd, if_true, idx_some' h1, Option.bind_some, ha, wnext (show i < 1000000000000 by omega)]), l500 x y hb k (i + 1) (by omega)]
theorem w50 (x : List Int) (hb : x.length < 1000000) : g50 x [] = some x := by
  unfold g50
  have hw : IntKind.i64.wrap ((x.length : Int) + (([] : List Int).length : Int)) = (x.length : Int) := by rw [wi64 (by simp; omega)]; simp
  have h0 := l500 x [] hb x.length 0 (by omega)
  rw [show ((0 : Nat) : Int) = 0 from rfl, List.take_zero] at h0
  rw [hw, mkl_ok (by omega) (by omega) (by omega), Option.bind_some]
  show (lpU g50x0 (x, [], [], 0)).bind _ = _
  rw [h0, Option.bind_some]
  show (lpU g50x1 ([], x, 0)).bind _ = _
  rw [lp_end (x := x) (by rfl)]
  rfl
/-! ### Put -/
def putI (off : Int) (d : List Int) (b : List Int) (i : Int) : List Int := if ownB off d.length i then b.set i.toNat ((d[(i - off).toNat]?).getD 0) else b
def wrF (off : Int) (d : List Int) : List Int → Int → Nat → List Int
  | b, _, 0 => b
  | b, i, k + 1 => wrF off d (putI off d b i) (i + 1) k
def fit1 (b0 : List Int) (got : List Claim) (off : Int) (d : List Int) (i : Int) : Bool := if inC got i && ownB off d.length i then b0[i.toNat]? == some ((d[(i - off).toNat]?).getD 0) else true
def fitR (b0 : List Int) (got : List Claim) (off : Int) (d : List Int) : Int → Nat → Bool
  | _, 0 => true
  | i, k + 1 => fit1 b0 got off d i && fitR b0 got off d (i + 1) k
theorem l40 (a1 a2 tot : Int) (a4 : List Int) (got : List Claim) (a6 a7 a8 a9 x1 x2 x3 x4 x5 off x7 x8 x9 x10 : Int) (x11 : Bool) (d : List Int) (x13 : List Claim)
    (hg : got.length < 1000000000) (hok : Bd got) (h0 : 0 ≤ off) (hod : off + d.length ≤ 100000) (ht : tot ≤ 1000) : ∀ (k : Nat) (i : Int) (b : List Int) (l : List Claim), i + k = tot → 0 ≤ i → (b.length : Int) = tot → b[i.toNat]? = a4[i.toNat]? → (∀ j : Nat, i ≤ (j : Int) → b[j]? = a4[j]?) → RowOk l i →
    lpU g40x0 (b, l, i, a1, a2, tot, a4, got, a6, a7, a8, a9, x1, x2, x3, x4, x5, off, x7, x8, x9, x10, x11, d, x13, 0, 0, 0, 0, 0, 0, 0) =
      some (if fitR a4 got off d i k then .inl (wrF off d b i k, rowsF (fun i => inC got i || ownB off d.length i) l i k, a1, a2, tot, a4, got, a6, a7, a8, a9, 0, 0, 0, 0, 0, 0, 0) else .inr ((a1, a2, tot, a4, got, a6, a7, a8, a9), false))
  | 0, i, b, l, hi, i0, hbl, hbi, hbj, hl => by
    have hd : decide (i < tot) = false := decide_eq_false (by omega)
    rw [lp_end (x := .inl (b, l, a1, a2, tot, a4, got, a6, a7, a8, a9, 0, 0, 0, 0, 0, 0, 0)) (by simp only [g40x0, hd, Bool.false_eq_true, if_false])]
    rfl
  | k + 1, i, b, l, hi, i0, hbl, hbi, hbj, hl => by
    have hd : decide (i < tot) = true := decide_eq_true (by omega)
    have hw : IntKind.i64.wrap (i + 1) = i + 1 := wi64 (by omega)
    have hoff : IntKind.i64.wrap (off + (d.length : Int)) = off + d.length := wi64 (by omega)
    have hown : (if decide (i ≥ off) = true then decide (i < off + (d.length : Int)) else false) = ownB off d.length i := if_and _ _
    have hio : IntKind.i64.wrap (i - off) = i - off := wi64 (by omega)
    have hck : chkI i (b.length : Int) = some () := chkI_some (by omega)
    have hbl' : i.toNat < b.length := by omega
    have hidx : idx b i = some (b[i.toNat]) := by
      unfold idx
      rw [if_pos i0, List.getElem?_eq_getElem hbl']
    have hbe : a4[i.toNat]? = some b[i.toNat] := by rw [← hbi, List.getElem?_eq_getElem hbl']
    have hdv : ownB off d.length i = true → idx d (i - off) = some ((d[(i - off).toNat]?).getD 0) := fun h => by
      simp only [ownB, Bool.and_eq_true, decide_eq_true_eq] at h
      unfold idx
      rw [if_pos (by omega), List.getElem?_eq_getElem (by omega)]; rfl
    have hll := hl.l
    have hx2 : IntKind.i64.wrap ((l.length : Int) - 1) = (l.length : Int) - 1 := wi64 (by omega)
    have rest : ∀ (b' : List Int) (l' : List Claim), b' = putI off d b i → l' = (if inC got i || ownB off d.length i then push l i else l) → fit1 a4 got off d i = true →
        lpU g40x0 (b', l', i + 1, a1, a2, tot, a4, got, a6, a7, a8, a9, x1, x2, x3, x4, x5, off, x7, x8, x9, x10, x11, d, x13, 0, 0, 0, 0, 0, 0, 0) = some (if fitR a4 got off d i (k + 1) then .inl (wrF off d b i (k + 1), rowsF (fun i => inC got i || ownB off d.length i) l i (k + 1), a1, a2, tot, a4, got, a6, a7, a8, a9, 0, 0, 0, 0, 0, 0, 0) else .inr ((a1, a2, tot, a4, got, a6, a7, a8, a9), false)) := by
      intro b' l' hb' hl' hf
      have hlen : (b'.length : Int) = tot := by
        subst hb'; unfold putI; split
        · rw [List.length_set]; exact hbl
        · exact hbl
      have hj : ∀ j : Nat, i + 1 ≤ (j : Int) → b'[j]? = a4[j]? := fun j hj => by
        subst hb'; unfold putI; split
        · rw [List.getElem?_set_ne (by omega)]; exact hbj j (by omega)
        · exact hbj j (by omega)
      have hro : RowOk l' (i + 1) := by
        subst hl'; split
        · exact hl.push i0
        · exact hl.mono (by omega)
      rw [l40 a1 a2 tot a4 got a6 a7 a8 a9 x1 x2 x3 x4 x5 off x7 x8 x9 x10 x11 d x13 hg hok h0 hod ht k (i + 1) b' l' (by omega) (by omega) hlen (hj _ (by omega)) hj hro]
      subst hb' hl'
      simp only [fitR, hf, Bool.true_and, wrF, rowsF]
    have hpu : (∃ c, l.getLast? = some c ∧ decide ((l.length : Int) > 0) = true ∧ idx l ((l.length : Int) - 1) = some c ∧ chkI ((l.length : Int) - 1) (l.length : Int) = some () ∧ IntKind.i64.wrap (c.1 + c.2) = c.1 + c.2 ∧ IntKind.i64.wrap (c.2 + 1) = c.2 + 1) ∨ l = [] := by
      cases hgl : l.getLast? with
      | none => exact .inr (List.getLast?_eq_none_iff.1 hgl)
      | some c =>
        have hm := List.mem_of_getLast? hgl
        have hcb := hl.b c hm
        have hpos : 0 < l.length := List.length_pos_of_mem hm
        have hcast : (l.length : Int) - 1 = ((l.length - 1 : Nat) : Int) := by omega
        exact .inl ⟨c, rfl, decide_eq_true (by omega), by rw [hcast, idx_nat, ← List.getLast?_eq_getElem?, hgl], chkI_some (by omega), wi64 (by omega), wi64 (by omega)⟩
    have hap : apd 16 l [(i, (1 : Int))] = some (l ++ [(i, (1 : Int))]) := apd_ok (by simp; omega)
    cases ho : ownB off d.length i with
    | false =>
      have hf : fit1 a4 got off d i = true := by unfold fit1; rw [ho, Bool.and_false]; rfl
      have hpi : b = putI off d b i := by unfold putI; rw [ho]; rfl
      cases hin : inC got i with
      | false =>
        rw [lp_next (s' := (b, l, i + 1, a1, a2, tot, a4, got, a6, a7, a8, a9, x1, x2, x3, x4, x5, off, x7, x8, x9, x10, x11, d, x13, 0, 0, 0, 0, 0, 0, 0)) (by
          simp only [g40x0, hd, if_true, w17 got hg hok i, hin, Option.bind_some, hoff, hown, ho, Bool.false_eq_true, if_false, eqI_self, hw])]
        exact rest b l hpi (by rw [hin, ho]; rfl) hf
      | true =>
        have hp : g40x0 (b, l, i, a1, a2, tot, a4, got, a6, a7, a8, a9, x1, x2, x3, x4, x5, off, x7, x8, x9, x10, x11, d, x13, 0, 0, 0, 0, 0, 0, 0) = some (.inl (b, push l i, i + 1, a1, a2, tot, a4, got, a6, a7, a8, a9, x1, x2, x3, x4, x5, off, x7, x8, x9, x10, x11, d, x13, 0, 0, 0, 0, 0, 0, 0)) := by
          simp only [g40x0, hd, if_true, w17 got hg hok i, hin, Option.bind_some, hoff, hown, ho, Bool.false_eq_true, if_false, eqI_self, hw, hx2]
          rcases hpu with ⟨c, q1, q2, q3, q4, q5, q6⟩ | rfl
          · simp only [q2, q3, q4, q5, q6, if_true, Option.bind_some, push, q1]
            by_cases he : c.1 + c.2 = i
            · rw [if_pos (by simpa using he), if_pos he, show ((l.length : Int) - 1).toNat = l.length - 1 by omega]
            · rw [if_neg (by simpa using he), if_neg he, hap]; rfl
          · rw [hap]; rfl
        rw [lp_next hp]
        exact rest b (push l i) hpi (by rw [hin]; rfl) hf
    | true =>
      have hdv := hdv ho
      have hpi : b.set i.toNat ((d[(i - off).toNat]?).getD 0) = putI off d b i := by unfold putI; rw [ho]; rfl
      generalize hdd : (d[(i - off).toNat]?).getD 0 = dv at *
      cases hin : inC got i with
      | false =>
        have hf : fit1 a4 got off d i = true := by unfold fit1; rw [hin]; rfl
        have hp : g40x0 (b, l, i, a1, a2, tot, a4, got, a6, a7, a8, a9, x1, x2, x3, x4, x5, off, x7, x8, x9, x10, x11, d, x13, 0, 0, 0, 0, 0, 0, 0) = some (.inl (b.set i.toNat dv, push l i, i + 1, a1, a2, tot, a4, got, a6, a7, a8, a9, x1, x2, x3, x4, x5, off, x7, x8, x9, x10, x11, d, x13, 0, 0, 0, 0, 0, 0, 0)) := by
          simp only [g40x0, hd, if_true, w17 got hg hok i, hin, Option.bind_some, hoff, hown, ho, hio, hdv, hck, hidx, Bool.false_eq_true, if_false, eqI_self, hw, hx2]
          rcases hpu with ⟨c, q1, q2, q3, q4, q5, q6⟩ | rfl
          · simp only [q2, q3, q4, q5, q6, if_true, Option.bind_some, push, q1]
            by_cases he : c.1 + c.2 = i
            · rw [if_pos (by simpa using he), if_pos he, show ((l.length : Int) - 1).toNat = l.length - 1 by omega]
            · rw [if_neg (by simpa using he), if_neg he, hap]; rfl
          · rw [hap]; rfl
        rw [lp_next hp]
        exact rest _ (push l i) hpi (by rw [ho, Bool.or_true]; rfl) hf
      | true =>
        have hfe : fit1 a4 got off d i = (b[i.toNat] == dv) := by
          unfold fit1
          rw [hin, ho, hbe, hdd]
          show (some b[i.toNat] == some dv) = _
          rw [Bool.eq_iff_iff]; simp
        by_cases hne : b[i.toNat] = dv
        · have hf : fit1 a4 got off d i = true := by rw [hfe]; simpa using hne
          have hnb : (b[i.toNat] != dv) = false := by simpa using hne
          have hp : g40x0 (b, l, i, a1, a2, tot, a4, got, a6, a7, a8, a9, x1, x2, x3, x4, x5, off, x7, x8, x9, x10, x11, d, x13, 0, 0, 0, 0, 0, 0, 0) = some (.inl (b.set i.toNat dv, push l i, i + 1, a1, a2, tot, a4, got, a6, a7, a8, a9, x1, x2, x3, x4, x5, off, x7, x8, x9, x10, x11, d, x13, 0, 0, 0, 0, 0, 0, 0)) := by
            simp only [g40x0, hd, if_true, w17 got hg hok i, hin, Option.bind_some, hoff, hown, ho, hio, hdv, hck, hidx, hnb, Bool.false_eq_true, if_false, eqI_self, hw, hx2]
            rcases hpu with ⟨c, q1, q2, q3, q4, q5, q6⟩ | rfl
            · simp only [q2, q3, q4, q5, q6, if_true, Option.bind_some, push, q1]
              by_cases he : c.1 + c.2 = i
              · rw [if_pos (by simpa using he), if_pos he, show ((l.length : Int) - 1).toNat = l.length - 1 by omega]
              · rw [if_neg (by simpa using he), if_neg he, hap]; rfl
            · rw [hap]; rfl
          rw [lp_next hp]
          exact rest _ (push l i) hpi (by rw [ho, Bool.or_true]; rfl) hf
        · have hf : fit1 a4 got off d i = false := by rw [hfe]; simpa using hne
          have hnb : (b[i.toNat] != dv) = true := by simpa using hne
          rw [lp_end (x := .inr ((a1, a2, tot, a4, got, a6, a7, a8, a9), false)) (by
            simp only [g40x0, hd, if_true, w17 got hg hok i, hin, Option.bind_some, hoff, hown, ho, hio, hdv, hck, hidx, hnb, Bool.false_eq_true, if_false, eqI_self])]
          simp only [fitR, hf, Bool.false_and, Bool.false_eq_true, if_false]
end Go.Proofs.Ytmbhpchkhilheaa.Ev.U
namespace Go.Proofs.Ytmbhpchkhilheaa.Ev.U
open Go
theorem fitR_add (b0 : List Int) (got : List Claim) (off : Int) (d : List Int) : ∀ (k m : Nat) (i : Int), fitR b0 got off d i (k + m) = (fitR b0 got off d i k && fitR b0 got off d (i + k) m)
  | 0, m, i => by simp [fitR]
  | k + 1, m, i => by
    rw [show k + 1 + m = (k + m) + 1 by omega]
    simp only [fitR]
    rw [fitR_add b0 got off d k m (i + 1), show i + 1 + (k : Int) = i + ((k + 1 : Nat) : Int) by omega, Bool.and_assoc]
theorem fitR_out (b0 : List Int) (got : List Claim) (off : Int) (d : List Int) : ∀ (k : Nat) (i : Int), (∀ j, i ≤ j → j < i + k → ownB off d.length j = false) → fitR b0 got off d i k = true
  | 0, i, _ => rfl
  | k + 1, i, h => by
    simp only [fitR]
    rw [fitR_out b0 got off d k (i + 1) fun j h1 h2 => h j (by omega) (by omega)]
    unfold fit1
    rw [h i (by omega) (by omega), Bool.and_false]; rfl
theorem fitR_mid (b0 : List Int) (got : List Claim) (off : Int) (d : List Int) (h0 : 0 ≤ off) : ∀ (k i : Nat), i + k = d.length → fitR b0 got off d (off + i) k = fitsB b0 got off (d.drop i) i
  | 0, i, hi => by rw [List.drop_of_length_le (by omega)]; rfl
  | k + 1, i, hi => by
    have h1 : i < d.length := by omega
    rw [drop_cons' h1, fitsB_cons]
    simp only [fitR]
    rw [show off + (i : Int) + 1 = off + ((i + 1 : Nat) : Int) by omega, fitR_mid b0 got off d h0 k (i + 1) (by omega)]
    have : fit1 b0 got off d (off + i) = (if inC got (off + i) then b0[(off + (i : Int)).toNat]? == some d[i] else true) := by
      unfold fit1
      have ho : ownB off d.length (off + i) = true := by simp only [ownB, Bool.and_eq_true, decide_eq_true_eq]; omega
      rw [ho, Bool.and_true, show (off + (i : Int) - off).toNat = i by omega, List.getElem?_eq_getElem h1]; rfl
    rw [this]; rfl
theorem fitR_all (b0 : List Int) (got : List Claim) (off : Int) (d : List Int) (tot : Int) (h0 : 0 ≤ off) (h1 : off + d.length ≤ tot) : fitR b0 got off d 0 tot.toNat = fitsB b0 got off d 0 := by
  have e : tot.toNat = off.toNat + (d.length + (tot - off - d.length).toNat) := by omega
  rw [e, fitR_add, fitR_add, fitR_out b0 got off d off.toNat 0 (fun j j1 j2 => by
    unfold ownB; rw [decide_eq_false (show ¬ off ≤ j by omega)]; rfl), Bool.true_and]
  rw [fitR_out b0 got off d (tot - off - d.length).toNat _ (fun j j1 j2 => by
    unfold ownB; rw [decide_eq_false (show ¬ j < off + (d.length : Int) by omega), Bool.and_false]), Bool.and_true]
  have := fitR_mid b0 got off d h0 d.length 0 (by omega)
  rw [List.drop_zero] at this
  rw [show (0 : Int) + (off.toNat : Int) = off + ((0 : Nat) : Int) by omega, this]; rfl
theorem putI_len (off : Int) (d b : List Int) (i : Int) : (putI off d b i).length = b.length := by
  unfold putI; split
  · rw [List.length_set]
  · rfl
theorem wrF_get (off : Int) (d : List Int) (h0 : 0 ≤ off) : ∀ (k : Nat) (b : List Int) (i : Int) (j : Nat), 0 ≤ i → i + k ≤ b.length → (wrF off d b i k)[j]? = if i ≤ (j : Int) ∧ (j : Int) < i + k ∧ ownB off d.length j = true then d[j - off.toNat]? else b[j]?
  | 0, b, i, j, hi, hk => by
    rw [if_neg (by omega)]; rfl
  | k + 1, b, i, j, hi, hk => by
    simp only [wrF]
    rw [wrF_get off d h0 k (putI off d b i) (i + 1) j (by omega) (by rw [putI_len]; omega)]
    by_cases hj : (j : Int) = i
    · rw [if_neg (by omega)]
      unfold putI
      cases ho : ownB off d.length i with
      | false =>
        rw [if_neg (by simp), if_neg (by rw [hj, ho]; simp)]
      | true =>
        have ho' := ho
        simp only [ownB, Bool.and_eq_true, decide_eq_true_eq] at ho'
        rw [if_pos rfl, if_pos ⟨by omega, by omega, by rw [hj]; exact ho⟩, show i.toNat = j by omega, List.getElem?_set_self (by omega), show (i - off).toNat = j - off.toNat by omega, List.getElem?_eq_getElem (by omega)]
        rfl
    · have hput : (putI off d b i)[j]? = b[j]? := by
        unfold putI; split
        · rw [List.getElem?_set_ne (by omega)]
        · rfl
      rw [hput]
      by_cases hc : i ≤ (j : Int) ∧ (j : Int) < i + ((k + 1 : Nat) : Int) ∧ ownB off d.length j = true
      · rw [if_pos hc, if_pos ⟨by omega, by omega, hc.2.2⟩]
      · rw [if_neg hc, if_neg (fun h => hc ⟨by omega, by omega, h.2.2⟩)]
theorem wrF_put (off : Int) (d b : List Int) (h0 : 0 ≤ off) (h1 : off + d.length ≤ b.length) : wrF off d b 0 b.length = putB b off d := by
  apply List.ext_getElem?
  intro j
  rw [wrF_get off d h0 b.length b 0 j (by omega) (by omega)]
  unfold putB
  by_cases hc : (0 : Int) ≤ (j : Int) ∧ (j : Int) < 0 + (b.length : Int) ∧ ownB off d.length j = true
  · rw [if_pos hc]
    have ho := hc.2.2
    simp only [ownB, Bool.and_eq_true, decide_eq_true_eq] at ho
    rw [List.getElem?_append_left (by simp; omega), List.getElem?_append_right (by simp; omega), List.length_take, show min off.toNat b.length = off.toNat by omega]
  · rw [if_neg hc]
    by_cases hj : j < off.toNat
    · rw [List.getElem?_append_left (by simp; omega), List.getElem?_append_left (by simp; omega), List.getElem?_take, if_pos hj]
    · by_cases hj2 : j < off.toNat + d.length
      · exact absurd ⟨by omega, by omega, by simp only [ownB, Bool.and_eq_true, decide_eq_true_eq]; omega⟩ hc
      · rw [List.getElem?_append_right (by simp; omega), List.getElem?_drop, List.length_append, List.length_take]
        congr 1
        omega
theorem w40 (a : Taking) (x : Segment) (h : InOk a x) (hb : a.2.2.2.1.length < 1000000) : g40 a x = some (if x.2.2.2.2.2.2.1 = a.2.2.1 ∧ fitsB a.2.2.2.1 a.2.2.2.2.1 x.2.2.2.2.2.1 x.2.2.2.2.2.2.2.2.2.2.2.1 0 = true then
    ((a.1, a.2.1, a.2.2.1, putB a.2.2.2.1 x.2.2.2.2.2.1 x.2.2.2.2.2.2.2.2.2.2.2.1, putG a.2.2.2.2.1 a.2.2.1 x.2.2.2.2.2.1 x.2.2.2.2.2.2.2.2.2.2.2.1.length, a.2.2.2.2.2.1, a.2.2.2.2.2.2.1, a.2.2.2.2.2.2.2.1, a.2.2.2.2.2.2.2.2), true) else (a, false)) := by
  obtain ⟨h1, h2, h3, h4, h5, h6, h7⟩ := h
  unfold g40
  by_cases he : x.2.2.2.2.2.2.1 = a.2.2.1
  · have hn : (x.2.2.2.2.2.2.1 != a.2.2.1) = false := by simpa using he
    have hl := l40 a.1 a.2.1 a.2.2.1 a.2.2.2.1 a.2.2.2.2.1 a.2.2.2.2.2.1 a.2.2.2.2.2.2.1 a.2.2.2.2.2.2.2.1 a.2.2.2.2.2.2.2.2 x.1 x.2.1 x.2.2.1 x.2.2.2.1 x.2.2.2.2.1 x.2.2.2.2.2.1 x.2.2.2.2.2.2.1 x.2.2.2.2.2.2.2.1 x.2.2.2.2.2.2.2.2.1 x.2.2.2.2.2.2.2.2.2.1 x.2.2.2.2.2.2.2.2.2.2.1 x.2.2.2.2.2.2.2.2.2.2.2.1 x.2.2.2.2.2.2.2.2.2.2.2.2
      (by omega) (chain_Bd (by omega) h3) h5 (by omega) (by omega) a.2.2.1.toNat 0 a.2.2.2.1 [] (by omega) (by omega) h2 rfl (fun j _ => rfl) ⟨fun c hc => (by cases hc), by simp⟩
    rw [fitR_all _ _ _ _ _ h5 (by omega)] at hl
    rw [hn, if_neg (by simp), w50 _ hb, Option.bind_some, hl]
    have hlen : a.2.2.1.toNat = a.2.2.2.1.length := by omega
    have hpw : wrF x.2.2.2.2.2.1 x.2.2.2.2.2.2.2.2.2.2.2.1 a.2.2.2.1 0 a.2.2.1.toNat = putB a.2.2.2.1 x.2.2.2.2.2.1 x.2.2.2.2.2.2.2.2.2.2.2.1 := by rw [hlen]; exact wrF_put _ _ _ h5 (by omega)
    rw [hpw]
    cases hf : fitsB a.2.2.2.1 a.2.2.2.2.1 x.2.2.2.2.2.1 x.2.2.2.2.2.2.2.2.2.2.2.1 0 with
    | true => rw [if_pos (show x.2.2.2.2.2.2.1 = a.2.2.1 ∧ true = true from ⟨he, rfl⟩)]; rfl
    | false => rw [if_neg (show ¬ (x.2.2.2.2.2.2.1 = a.2.2.1 ∧ false = true) by simp)]; rfl
  · have hn : (x.2.2.2.2.2.2.1 != a.2.2.1) = true := by simpa using he
    rw [hn, if_pos rfl, if_neg (fun h => he h.1)]
theorem w27 (a : Taking) (now : Int) : g27 a now = some (tickF a now) := by
  unfold g27 tickF
  by_cases hd : now < a.2.2.2.2.2.2.2.2 ∨ a.2.2.2.2.2.2.1 = 4
  · have : (if decide (now < a.2.2.2.2.2.2.2.2) = true then true else (a.2.2.2.2.2.2.1 == 4)) = true := by
      rcases hd with hd | hd
      · simp [hd]
      · simp [hd]
    rw [this, if_pos rfl, if_pos hd]
  · have : (if decide (now < a.2.2.2.2.2.2.2.2) = true then true else (a.2.2.2.2.2.2.1 == 4)) = false := by
      simp only [not_or] at hd
      simp [hd.1, hd.2]
    rw [this, if_neg (by simp), if_neg hd]
    by_cases s1 : a.2.2.2.2.2.2.1 = 1
    · have : (a.2.2.2.2.2.2.1 == 1) = true := by simpa using s1
      rw [this, if_pos rfl, if_pos s1]
    · have : (a.2.2.2.2.2.2.1 == 1) = false := by simpa using s1
      rw [this, if_neg (by simp), if_neg s1]
theorem l23 (x : List Segment) (hb : x.length < 1000000000) (hs : ∀ z ∈ x, SmS z) : ∀ (k i : Nat), i + k = x.length → lpU g23x0 (x, x, (i : Int)) = some (.inl ())
  | 0, i, hi => by
    have hd : decide ((i : Int) < (x.length : Int)) = false := decide_eq_false (by omega)
    rw [lp_end (x := .inl ()) (by simp only [g23x0, hd, Bool.false_eq_true, if_false])]
  | k + 1, i, hi => by
    have hd : decide ((i : Int) < (x.length : Int)) = true := decide_eq_true (by omega)
    have h1 : i < x.length := by omega
    have hw := w37 x[i] x[i] (hs _ (List.getElem_mem h1))
    rw [sameS_self] at hw
    rw [lp_next (s' := (x, x, ((i + 1 : Nat) : Int))) (by
      simp only [g23x0, hd, if_true, idx_some' h1, Option.bind_some, hw, Bool.not_true, Bool.false_eq_true, if_false, wnext (show i < 1000000000000 by omega)]), l23 x hb hs k (i + 1) (by omega)]
theorem w23 (x : List Segment) (hb : x.length < 1000000000) (hs : ∀ z ∈ x, SmS z) : g23 x x = some true := by
  unfold g23
  have := l23 x hb hs x.length 0 (by omega)
  rw [show ((0 : Nat) : Int) = 0 from rfl] at this
  rw [if_neg (by simp), this]
  rfl
end Go.Proofs.Ytmbhpchkhilheaa.Ev.U
namespace Go.Proofs.Ytmbhpchkhilheaa.Ev.U
open Go
theorem l22 (z1 z2 z3 z4 z5 z6 z7 b1 b2 b3 : Int) (b4 : List Int) (got : List Claim) (b6 b7 b8 b9 y1 y2 y3 y4 y5 y6 y7 y8 y9 y10 : Int) (y11 : Bool) (hg : got.length < 1000000) : ∀ (k i : Nat), i + k = min got.length 20 →
    lpU g22x0 ((i : Int), z1, z2, z3, z4, z5, z6, z7, b1, b2, b3, b4, got, b6, b7, b8, b9, y1, y2, y3, y4, y5, y6, y7, y8, y9, y10, y11, got.take i) = some (z1, z2, z3, z4, z5, z6, z7, b1, b2, b3, b4, got, b6, b7, b8, b9, y1, y2, y3, y4, y5, y6, y7, y8, y9, y10, y11, got.take 20)
  | 0, i, hi => by
    have hd : (if decide ((i : Int) < (got.length : Int)) = true then decide ((i : Int) < 20) else false) = false := by
      rw [if_and, Bool.and_eq_false_iff, decide_eq_false_iff_not, decide_eq_false_iff_not]; omega
    rw [lp_end (x := (z1, z2, z3, z4, z5, z6, z7, b1, b2, b3, b4, got, b6, b7, b8, b9, y1, y2, y3, y4, y5, y6, y7, y8, y9, y10, y11, got.take i)) (by simp only [g22x0, hd, Bool.false_eq_true, if_false])]
    have : got.take i = got.take 20 := by
      rcases Nat.lt_or_ge got.length 20 with h | h
      · rw [List.take_of_length_le (by omega), List.take_of_length_le (by omega)]
      · rw [show i = 20 by omega]
    rw [this]
  | k + 1, i, hi => by
    have hd : (if decide ((i : Int) < (got.length : Int)) = true then decide ((i : Int) < 20) else false) = true := by
      rw [if_and, Bool.and_eq_true, decide_eq_true_eq, decide_eq_true_eq]; omega
    have h1 : i < got.length := by omega
    have ha : apd 16 (got.take i) [got[i]] = some (got.take (i + 1)) := by
      rw [apd_ok (by simp; omega), List.take_succ_eq_append_getElem h1]
    rw [lp_next (s' := (((i + 1 : Nat) : Int), z1, z2, z3, z4, z5, z6, z7, b1, b2, b3, b4, got, b6, b7, b8, b9, y1, y2, y3, y4, y5, y6, y7, y8, y9, y10, y11, got.take (i + 1))) (by
      simp only [g22x0, hd, if_true, idx_some' h1, Option.bind_some, ha, wnext (show i < 1000000000000 by omega)]), l22 z1 z2 z3 z4 z5 z6 z7 b1 b2 b3 b4 got b6 b7 b8 b9 y1 y2 y3 y4 y5 y6 y7 y8 y9 y10 y11 hg k (i + 1) (by omega)]
theorem nextS_eq {s : Int} (h : 0 ≤ s ∧ s ≤ 4294967295) : (if s = 4294967295 then 1 else IntKind.u32.wrap (s + 1)) = nextS s := by
  unfold nextS
  by_cases e : s = 4294967295
  · subst e; rfl
  · rw [if_neg e, wu32 (by omega), if_neg (by omega)]
theorem putG_len {got : List Claim} {tot off : Int} {n : Int} (h0 : 0 ≤ tot) : ((putG got tot off n).length : Int) ≤ tot := by
  have hro : RowOk (putG got tot off n) (0 + (tot.toNat : Int)) := rowsF_ok _ _ _ _ ⟨fun c hc => (by cases hc), by simp⟩ (by omega)
  have := hro.l
  omega
theorem w22 (a : Taking) (x : Segment) (now : Int) (h : TkOk a x now) (hs : 0 ≤ a.2.2.2.2.2.1 ∧ a.2.2.2.2.2.1 ≤ 4294967295) : g22 a x now = some (takeF a x now) := by
  obtain ⟨⟨hb, hg⟩, hl, hn, hi⟩ := h
  have hw : IntKind.i64.wrap (now + a.2.2.2.2.2.2.2.1) = now + a.2.2.2.2.2.2.2.1 := wi64 (by omega)
  obtain ⟨a1, a2, a3, a4, a5, a6, a7, a8, a9⟩ := a
  obtain ⟨x1, x2, x3, x4, x5, x6, x7, x8, x9, x10, x11, x12, x13⟩ := x
  simp only at hb hg hl hn hi hs hw
  simp only [g22, hw]
  unfold takeF
  simp only
  by_cases k4 : x1 = 4
  · have e4 : (x1 == 4) = true := by simpa using k4
    rw [e4, if_pos rfl, if_neg (show ¬ x1 = 1 by omega), if_pos k4]
    by_cases s1 : a7 = 1
    · have : (a7 == 1) = true := by simpa using s1
      simp only [this, if_true, if_pos s1, Option.bind_some]
    · have : (a7 == 1) = false := by simpa using s1
      simp only [this, Bool.false_eq_true, if_false, if_neg s1, Option.bind_some]
  · have e4 : (x1 == 4) = false := by simpa using k4
    rw [e4, if_neg (by simp), if_neg k4]
    by_cases k1 : x1 = 1
    · have e1 : (x1 != 1) = false := by simpa using k1
      rw [e1, if_pos k1]
      simp only [Bool.false_eq_true, if_false]
      have hin := hi k1
      unfold dataF
      simp only
      by_cases s4 : a7 = 4
      · have : (a7 == 4) = true := by simpa using s4
        rw [this, if_pos rfl, if_pos s4]
      · have : (a7 == 4) = false := by simpa using s4
        rw [this, if_neg (by simp), if_neg s4]
        have h40 := w40 (a1, a2, a3, a4, a5, a6, a7, a8, now + a8) (x1, x2, x3, x4, x5, x6, x7, x8, x9, x10, x11, x12, x13) ⟨hin.tot, hin.len, hin.ch, hin.glen, hin.off, hin.fit, hin.xt⟩ hb
        simp only at h40
        rw [h40, Option.bind_some]
        have htot : 1 ≤ a3 ∧ a3 ≤ 512 := hin.tot
        by_cases hfit : x7 = a3 ∧ fitsB a4 a5 x6 x12 0 = true
        · rw [if_pos hfit, if_pos hfit]
          simp only [Bool.not_true, Bool.false_eq_true, if_false, w34, Option.bind_some]
          have hgl : ((putG a5 a3 x6 x12.length).length : Int) ≤ a3 := putG_len (by omega)
          rw [show wholeB (a1, a2, a3, putB a4 x6 x12, putG a5 a3 x6 x12.length, a6, a7, a8, now + a8) = wholeG (putG a5 a3 x6 x12.length) a3 from rfl]
          generalize putG a5 a3 x6 x12.length = G at *
          have hns := nextS_eq hs
          have hz : ((0 : Nat) : Int) = 0 := rfl
          have hl22 := fun (z1 z2 z3 z4 z5 z6 z7 b1 b2 b3 : Int) (b4 : List Int) (b6 b7 b8 b9 y1 y2 y3 y4 y5 y6 y7 y8 y9 y10 : Int) (y11 : Bool) => l22 z1 z2 z3 z4 z5 z6 z7 b1 b2 b3 b4 G b6 b7 b8 b9 y1 y2 y3 y4 y5 y6 y7 y8 y9 y10 y11 (by omega) (min G.length 20) 0 (by omega)
          simp only [hz, List.take_zero] at hl22
          cases hwg : wholeG G a3 <;> cases x11 <;> simp only [Bool.false_eq_true, if_false, if_true, Option.bind_some, Bool.not_true, Bool.not_false] <;>
          · by_cases hs5 : a6 = 4294967295
            · have hs5' : (a6 == 4294967295) = true := by simpa using hs5
              rw [if_pos hs5] at hns
              simp only [hs5', if_true, Option.bind_some, hl22, ← hns]
            · have hs5' : (a6 == 4294967295) = false := by simpa using hs5
              rw [if_neg hs5] at hns
              simp only [hs5', Bool.false_eq_true, if_false, Option.bind_some, hl22, ← hns]
        · rw [if_neg hfit, if_neg hfit]
          simp only [Bool.not_false, if_true, mkl_ok (show 0 ≤ a3 by omega) (Int.le_refl a3) (show ((1 : Nat) : Int) * a3 ≤ 140737488355328 by omega), Option.bind_some]
    · have e1 : (x1 != 1) = true := by simpa using k1
      rw [e1, if_neg k1]
      rfl
theorem w25 (x : Segment) (now life : Int) (hs : segOk x = true) (k : x.1 = 1) (hn : 0 ≤ now ∧ now ≤ 1048576) (hl : 1 ≤ life ∧ life ≤ 65536) : g25 x now life = some (takeF (newT x life) x now) := by
  obtain ⟨q1, q2, q3, q4, _⟩ := segOk_data hs k
  unfold g25
  rw [mkl_ok (show 0 ≤ x.2.2.2.2.2.2.1 by omega) (Int.le_refl _) (show ((1 : Nat) : Int) * x.2.2.2.2.2.2.1 ≤ 140737488355328 by omega), Option.bind_some]
  show (g22 (newT x life) x now).bind _ = _
  rw [w22 (newT x life) x now (new_ok hs k hn hl) (by show (0 : Int) ≤ 0 ∧ (0 : Int) ≤ 4294967295; omega)]
  rfl
/-- What a session sends is small. -/
theorem take_out {a : Taking} {x : Segment} {now : Int} : (takeF a x now).2.length < 1000 ∧ ∀ z ∈ (takeF a x now).2, SmS z := by
  have one : ∀ {z : Segment}, SmS z → [z].length < 1000 ∧ ∀ y ∈ [z], SmS y := fun hz => ⟨by simp, fun y hy => by obtain rfl := List.mem_singleton.1 hy; exact hz⟩
  have nil : ([] : List Segment).length < 1000 ∧ ∀ y ∈ ([] : List Segment), SmS y := ⟨by simp, fun y hy => by cases hy⟩
  unfold takeF
  split
  · unfold dataF
    split
    · exact nil
    · split
      · simp only
        split
        · exact one ⟨by simp, by simp; omega⟩
        · exact nil
      · exact one ⟨by simp, by simp⟩
  · split
    · exact one ⟨by simp, by simp⟩
    · exact nil
theorem tick_out {a : Taking} {now : Int} : (tickF a now).2.length < 1000 ∧ ∀ z ∈ (tickF a now).2, SmS z := by
  have one : ∀ {z : Segment}, SmS z → [z].length < 1000 ∧ ∀ y ∈ [z], SmS y := fun hz => ⟨by simp, fun y hy => by obtain rfl := List.mem_singleton.1 hy; exact hz⟩
  have nil : ([] : List Segment).length < 1000 ∧ ∀ y ∈ ([] : List Segment), SmS y := ⟨by simp, fun y hy => by cases hy⟩
  unfold tickF
  split
  · exact nil
  · simp only
    split
    · exact one ⟨by simp, by simp⟩
    · exact nil
/-- What a session becomes stays small. -/
theorem take_sm {a : Taking} {x : Segment} {now : Int} (h : TkOk a x now) : SmT (takeF a x now).1 := by
  obtain ⟨⟨hb, hg⟩, hl, hn, hi⟩ := h
  unfold takeF
  split
  · rename_i k1
    have hin := hi k1
    have htot := hin.tot
    have hfit := hin.fit
    have hlen := hin.len
    have hoff := hin.off
    unfold dataF
    split
    · exact ⟨hb, hg⟩
    · split
      · rename_i hf
        have he := hf.1
        simp only at he
        have hpl := putB_len a.2.2.2.1 x.2.2.2.2.2.1 x.2.2.2.2.2.2.2.2.2.2.2.1 hoff (by omega)
        have hgl : ((putG a.2.2.2.2.1 a.2.2.1 x.2.2.2.2.2.1 x.2.2.2.2.2.2.2.2.2.2.2.1.length).length : Int) ≤ a.2.2.1 := putG_len (by omega)
        simp only
        split
        · exact ⟨by simp only; omega, by simp only; omega⟩
        · exact ⟨by simp only; omega, by simp only; omega⟩
      · exact ⟨by simp; omega, by simp⟩
  · split
    · exact ⟨hb, hg⟩
    · exact ⟨hb, hg⟩
end Go.Proofs.Ytmbhpchkhilheaa.Ev.U
namespace Go.Proofs.Ytmbhpchkhilheaa.Ev.U
open Go
theorem z9_sm : SmT Z9 := ⟨by decide, by decide⟩
theorem w11Z : g11 Z9 ((0 : Int), (0 : Int), (0 : Int), [], [], (0 : Int), (0 : Int), (0 : Int), (0 : Int)) = some true := by
  have := w11 Z9 Z9 z9_sm
  rw [sameT_self] at this
  exact this
theorem w11S {a : Taking} (h : SmT a) : g11 a a = some true := by rw [w11 a a h, sameT_self]
theorem w4 (a : Taking) (x : Segment) (now : Int) (h0 : 0 ≤ a.2.1) (hs : 0 ≤ a.2.2.2.2.2.1 ∧ a.2.2.2.2.2.1 ≤ 4294967295) (hx : 0 ≤ x.2.2.1) : g4 a x now = some true := by
  unfold g4
  rw [w8, Option.bind_some]
  simp only [Bool.not_true, Bool.false_eq_true, if_false]
  cases hl : h9 a x with
  | true => rfl
  | false =>
    obtain ⟨ha, hsx⟩ := small_of hl
    simp only [Bool.false_eq_true, if_false, w12 a ha, Option.bind_some, w19 a x now ha hsx, w15 a ha h0]
    cases hr : rightB a with
    | false =>
      simp only [Bool.false_eq_true, if_false, Bool.not_false, if_true, w11Z, Option.bind_some, List.length_nil, beq_self_eq_true, Int.natCast_zero]
    | true =>
      simp only [if_true, Bool.not_true, Bool.false_eq_true, if_false, w20 x hsx hx, Option.bind_some, w21]
      by_cases hc : segOk x = true ∧ x.2.1 = a.1 ∧ x.2.2.1 = a.2.1 ∧ fwdB x = true ∧ 0 ≤ now ∧ now ≤ 1048576
      · rw [if_pos hc]
        obtain ⟨c1, c2, c3, c4, c5⟩ := hc
        have e2 : (x.2.1 != a.1) = false := by simpa using c2
        have e3 : (x.2.2.1 != a.2.1) = false := by simpa using c3
        have n1 : decide (now < 0) = false := decide_eq_false (by omega)
        have n2 : decide (now > 1048576) = false := decide_eq_false (by omega)
        have tk := right_take hr ha c1 c5
        have to := take_out (a := a) (x := x) (now := now)
        simp only [c1, e2, e3, c4, n1, n2, Bool.not_true, Bool.false_eq_true, if_false, Bool.not_false, if_true, Option.bind_some, w22 a x now tk hs, beq_self_eq_true, w11S (take_sm tk), w23 _ (show (takeF a x now).2.length < 1000000000 by omega) to.2]
      · rw [if_neg hc]
        have hcond : (if (if (if (if (if (if (!segOk x) = true then true else (x.2.1 != a.1)) = true then true else (x.2.2.1 != a.2.1)) = true then true else !fwdB x) = true then true else decide (now < 0)) = true then true else decide (now > 1048576)) = true then true else false) = true := by
          simp only [Bool.if_true_left, Bool.if_false_right, Bool.and_true, Bool.or_eq_true, Bool.not_eq_true', bne_iff_ne, ne_eq, decide_eq_true_eq, Bool.decide_eq_true]
          cases hf : segOk x <;> cases hg : fwdB x <;> simp <;> try omega
          simp only [hf, hg, true_and] at hc
          omega
        generalize hx19 : (if (if (!segOk x) = true then true else (x.2.1 != a.1)) = true then true else (x.2.2.1 != a.2.1)) = b at *
        cases b with
        | true =>
          simp only [Bool.not_true, Bool.false_eq_true, if_false, Option.bind_some, if_true, w11Z, List.length_nil, beq_self_eq_true, Int.natCast_zero]
        | false =>
          simp only [Bool.not_false, if_true, Option.bind_some, Bool.false_eq_true, if_false] at hcond ⊢
          generalize (if (if (!fwdB x) = true then true else decide (now < 0)) = true then true else decide (now > 1048576)) = b2 at *
          cases b2 with
          | false => exact absurd hcond (by decide)
          | true => simp only [if_true, w11Z, Option.bind_some, List.length_nil, beq_self_eq_true, Int.natCast_zero]
theorem tick_sm {a : Taking} {now : Int} (h : SmT a) : SmT (tickF a now).1 := by
  obtain ⟨hb, hg⟩ := h
  unfold tickF
  split <;> exact ⟨hb, hg⟩
/-- The second half of ReceiverBegins. -/
theorem fin5 (a : Taking) (now : Int) (h0 : 0 ≤ a.2.1) (ha : SmT a) : ((g12 a).bind fun y35 =>
    (g26 y35 now).bind fun y36 =>
    (g15 a).bind fun y37 =>
    if (!y37) = true then
      ((g11 y36.1 ((0 : Int), (0 : Int), (0 : Int), [], [], (0 : Int), (0 : Int), (0 : Int), (0 : Int))).bind fun y39 =>
        some (if (if y39 = true then ((y36.2.1.length : Int) == (0 : Int)) else false) = true then (y36.2.2 == (250 : Int)) else false))
    else
      (if (if decide (now < (0 : Int)) = true then true else decide (now > (1048576 : Int))) = true then
        ((g11 y36.1 ((0 : Int), (0 : Int), (0 : Int), [], [], (0 : Int), (0 : Int), (0 : Int), (0 : Int))).bind fun y48 =>
          some (if (if y48 = true then ((y36.2.1.length : Int) == (0 : Int)) else false) = true then (y36.2.2 == (2 : Int)) else false))
      else
        ((g27 a now).bind fun y54 =>
          (if (y36.2.2 == (0 : Int)) = true then g11 y36.1 y54.1 else some false).bind fun y56 =>
          (if (if (y36.2.2 == (0 : Int)) = true then y56 else false) = true then g23 y36.2.1 y54.2 else some false).bind fun y58 =>
          some (if (if (y36.2.2 == (0 : Int)) = true then y56 else false) = true then y58 else false)))) = some true := by
  simp only [w12 a ha, Option.bind_some, w26 a now ha, w15 a ha h0]
  cases hr : rightB a with
  | false => simp only [Bool.false_eq_true, if_false, Bool.not_false, if_true, w11Z, Option.bind_some, List.length_nil, beq_self_eq_true, Int.natCast_zero]
  | true =>
    simp only [if_true, Bool.not_true, Bool.false_eq_true, if_false]
    by_cases hn : 0 ≤ now ∧ now ≤ 1048576
    · have n1 : decide (now < 0) = false := decide_eq_false (by omega)
      have n2 : decide (now > 1048576) = false := decide_eq_false (by omega)
      have to := tick_out (a := a) (now := now)
      simp only [if_pos hn, n1, n2, Bool.false_eq_true, if_false, if_true, w27, Option.bind_some, beq_self_eq_true, w11S (tick_sm (now := now) ha), w23 _ (show (tickF a now).2.length < 1000000000 by omega) to.2]
    · have hcond : (if decide (now < (0 : Int)) = true then true else decide (now > (1048576 : Int))) = true := by
        simp only [Bool.if_true_left, Bool.or_eq_true, decide_eq_true_eq, Bool.decide_eq_true]
        omega
      simp only [if_neg hn, hcond, if_true, w11Z, Option.bind_some, List.length_nil, beq_self_eq_true, Int.natCast_zero]
theorem w5 (x : Segment) (a : Taking) (c : Claim) (h0 : 0 ≤ a.2.1) (hx : 0 ≤ x.2.2.1) : g5 x a c = some true := by
  unfold g5
  rw [w8, Option.bind_some]
  simp only [Bool.not_true, Bool.false_eq_true, if_false]
  cases hl : h9 a x with
  | true => rfl
  | false =>
    obtain ⟨ha, hsx⟩ := small_of hl
    have hfin := fin5 a c.1 h0 ha
    simp only [Bool.false_eq_true, if_false, w24 x c.1 c.2 hsx, Option.bind_some, w20 x hsx hx]
    by_cases hc : segOk x = true ∧ x.1 = 1 ∧ (0 ≤ c.1 ∧ c.1 ≤ 1048576) ∧ (1 ≤ c.2 ∧ c.2 ≤ 65536)
    · rw [if_pos hc]
      obtain ⟨c1, c2, c3, c4⟩ := hc
      have e2 : (x.1 != 1) = false := by simpa using c2
      have n1 : decide (c.1 < 0) = false := decide_eq_false (by omega)
      have n2 : decide (c.1 > 1048576) = false := decide_eq_false (by omega)
      have n3 : decide (c.2 < 1) = false := decide_eq_false (by omega)
      have n4 : decide (c.2 > 65536) = false := decide_eq_false (by omega)
      have tk := new_ok c1 c2 c3 c4
      have to := take_out (a := newT x c.2) (x := x) (now := c.1)
      simp only [c1, e2, n1, n2, n3, n4, Bool.not_true, Bool.false_eq_true, if_false, w25 x c.1 c.2 c1 c2 c3 c4, Option.bind_some, bne_self_eq_false, Bool.not_false, if_true, w11S (take_sm tk), w23 _ (show (takeF (newT x c.2) x c.1).2.length < 1000000000 by omega) to.2]
      simp only [n1, n2, Bool.false_eq_true, if_false] at hfin
      exact hfin
    · rw [if_neg hc]
      have hcond : (if (if (if (if (if (!segOk x) = true then true else (x.1 != 1)) = true then true else decide (c.1 < 0)) = true then true else decide (c.1 > 1048576)) = true then true else decide (c.2 < 1)) = true then true else decide (c.2 > 65536)) = true := by
        simp only [Bool.if_true_left, Bool.or_eq_true, Bool.not_eq_true', bne_iff_ne, ne_eq, decide_eq_true_eq, Bool.decide_eq_true]
        cases hf : segOk x
        · simp
        · simp only [hf, true_and] at hc
          simp only [Bool.true_eq_false, false_or]
          omega
      simp only [hcond, if_true, w11Z, Option.bind_some, List.length_nil, Int.natCast_zero, Bool.not_true, Bool.false_eq_true, if_false, bne_self_eq_false]
      exact hfin
end Go.Proofs.Ytmbhpchkhilheaa.Ev.U
namespace Go.Proofs.Ytmbhpchkhilheaa.Ev
open Go

/-- A list in a mode; q: it is nil as long as it is empty. -/
def lst (m : Mode) (z : Nat) (q : Bool) (xs : List D) : D := if (q && xs.isEmpty) = true then .sl .nl 0 [] else .sl m z xs
theorem lst_f {m : Mode} {z : Nat} {xs : List D} : lst m z false xs = .sl m z xs := by simp [lst]
def aggE (P : Program) (t : TypeId) : Bool := match P.underlying t with
  | some (.struct _) => true
  | some (.array _ _) => true
  | _ => false
/-- A value of a type, of its cells. -/
def mkV (P : Program) (t : TypeId) (ds : List D) : D := if aggE P t = true then .agg ds else ds.headD .u

/-- The cells of a value of a type. -/
inductive RD (P : Program) : TypeId → List D → Prop
  | bool (t : TypeId) (b : Bool) (h : P.underlying t = some .bool) : RD P t [.v (.bool b)]
  | int (t : TypeId) (k : IntKind) (n : Int) (h : P.underlying t = some (.int k)) (hw : (Lit.int k n).wf = true) : RD P t [.v (.int k n)]
  | str (t : TypeId) (s : ByteArray) (h : P.underlying t = some .string) (hs : s.size ≤ maxLen) : RD P t [.v (.string s)]
  | sl (t e : TypeId) (q : Bool) (xs : List (List D)) (h : P.underlying t = some (.slice e)) (hn : xs.length ≤ maxLen) (hx : ∀ (i : Nat) x, xs[i]? = some x → RD P e x) : RD P t [lst .ro (P.cellsOf e) q (xs.map (mkV P e))]
  | st (t : TypeId) (fs : Array Field) (xs : List (List D)) (h : P.underlying t = some (.struct fs)) (hl : xs.length = fs.size) (hx : ∀ (i : Nat) f x, fs[i]? = some f → xs[i]? = some x → RD P f.type x) : RD P t xs.flatten
  | arr (t e : TypeId) (n : Nat) (xs : List (List D)) (h : P.underlying t = some (.array n e)) (hl : xs.length = n) (hx : ∀ (i : Nat) x, xs[i]? = some x → RD P e x) : RD P t xs.flatten

section
variable {P : Program} {t e : TypeId} {ds : List D}
theorem RD.und (h : RD P t ds) : (∃ b, P.underlying t = some .bool ∧ ds = [.v (.bool b)]) ∨ (∃ k n, P.underlying t = some (.int k) ∧ (Lit.int k n).wf = true ∧ ds = [.v (.int k n)]) ∨ (∃ s, P.underlying t = some .string ∧ s.size ≤ maxLen ∧ ds = [.v (.string s)]) ∨
    (∃ (e : TypeId) (q : Bool) (xs : List (List D)), P.underlying t = some (.slice e) ∧ (xs.length ≤ maxLen ∧ ∀ (i : Nat) x, xs[i]? = some x → RD P e x) ∧ ds = [lst .ro (P.cellsOf e) q (xs.map (mkV P e))]) ∨
    (∃ (fs : Array Field) (xs : List (List D)), P.underlying t = some (.struct fs) ∧ xs.length = fs.size ∧ (∀ (i : Nat) f x, fs[i]? = some f → xs[i]? = some x → RD P f.type x) ∧ ds = xs.flatten) ∨
    (∃ (n : Nat) (e : TypeId) (xs : List (List D)), P.underlying t = some (.array n e) ∧ xs.length = n ∧ (∀ (i : Nat) x, xs[i]? = some x → RD P e x) ∧ ds = xs.flatten) := by
  cases h with
  | bool _ b h => exact .inl ⟨b, h, rfl⟩
  | int _ k n h hw => exact .inr (.inl ⟨k, n, h, hw, rfl⟩)
  | str _ s h hs => exact .inr (.inr (.inl ⟨s, h, hs, rfl⟩))
  | sl _ e q xs h hn hx => exact .inr (.inr (.inr (.inl ⟨e, q, xs, h, ⟨hn, hx⟩, rfl⟩)))
  | st _ fs xs h hl hx => exact .inr (.inr (.inr (.inr (.inl ⟨fs, xs, h, hl, hx, rfl⟩))))
  | arr _ e n xs h hl hx => exact .inr (.inr (.inr (.inr (.inr ⟨n, e, xs, h, hl, hx, rfl⟩))))
theorem RD.bool' (hu : P.underlying t = some .bool) (hh : RD P t ds) : ∃ b, ds = [.v (.bool b)] := by
  rcases hh.und with ⟨b, h, hw⟩ | ⟨k', n, h, hw⟩ | ⟨s, h, hw⟩ | ⟨e', q, xs, h, hw⟩ | ⟨fs', xs, h, hw⟩ | ⟨n', e', xs, h, hw⟩ <;> rw [hu] at h <;> cases h
  exact ⟨b, hw⟩
theorem RD.int' {k : IntKind} (hu : P.underlying t = some (.int k)) (hh : RD P t ds) : ∃ n, (Lit.int k n).wf = true ∧ ds = [.v (.int k n)] := by
  rcases hh.und with ⟨b, h, hw⟩ | ⟨k', n, h, hw⟩ | ⟨s, h, hw⟩ | ⟨e', q, xs, h, hw⟩ | ⟨fs', xs, h, hw⟩ | ⟨n', e', xs, h, hw⟩ <;> rw [hu] at h <;> cases h
  exact ⟨n, hw⟩
theorem RD.str' (hu : P.underlying t = some .string) (hh : RD P t ds) : ∃ s, s.size ≤ maxLen ∧ ds = [.v (.string s)] := by
  rcases hh.und with ⟨b, h, hw⟩ | ⟨k', n, h, hw⟩ | ⟨s, h, hw⟩ | ⟨e', q, xs, h, hw⟩ | ⟨fs', xs, h, hw⟩ | ⟨n', e', xs, h, hw⟩ <;> rw [hu] at h <;> cases h
  exact ⟨s, hw⟩
theorem RD.sl' (hu : P.underlying t = some (.slice e)) (hh : RD P t ds) : ∃ (q : Bool) (xs : List (List D)), (xs.length ≤ maxLen ∧ ∀ x, x ∈ xs → RD P e x) ∧ ds = [lst .ro (P.cellsOf e) q (xs.map (mkV P e))] := by
  rcases hh.und with ⟨b, h, hw⟩ | ⟨k', n, h, hw⟩ | ⟨s, h, hw⟩ | ⟨e', q, xs, h, hw⟩ | ⟨fs', xs, h, hw⟩ | ⟨n', e', xs, h, hw⟩ <;> rw [hu] at h <;> cases h
  exact ⟨q, xs, ⟨hw.1.1, fun x hm => by obtain ⟨i, hi⟩ := List.mem_iff_getElem?.1 hm; exact hw.1.2 i x hi⟩, hw.2⟩
theorem RD.st' {fs : Array Field} (hu : P.underlying t = some (.struct fs)) (hh : RD P t ds) : ∃ xs : List (List D), xs.length = fs.size ∧ (∀ (i : Nat) f x, fs[i]? = some f → xs[i]? = some x → RD P f.type x) ∧ ds = xs.flatten := by
  rcases hh.und with ⟨b, h, hw⟩ | ⟨k', n, h, hw⟩ | ⟨s, h, hw⟩ | ⟨e', q, xs, h, hw⟩ | ⟨fs', xs, h, hw⟩ | ⟨n', e', xs, h, hw⟩ <;> rw [hu] at h <;> cases h
  exact ⟨xs, hw⟩
theorem RD.arr' {n : Nat} (hu : P.underlying t = some (.array n e)) (hh : RD P t ds) : ∃ xs : List (List D), xs.length = n ∧ (∀ (i : Nat) x, xs[i]? = some x → RD P e x) ∧ ds = xs.flatten := by
  rcases hh.und with ⟨b, h, hw⟩ | ⟨k', n, h, hw⟩ | ⟨s, h, hw⟩ | ⟨e', q, xs, h, hw⟩ | ⟨fs', xs, h, hw⟩ | ⟨n', e', xs, h, hw⟩ <;> rw [hu] at h <;> cases h
  exact ⟨xs, hw⟩
theorem lst_cells {m : Mode} {z : Nat} {q : Bool} {xs : List D} : (lst m z q xs).cells = [lst m z q xs] := by unfold lst; split <;> rfl
theorem mkV_cells (hh : RD P t ds) : (mkV P t ds).cells = ds := by
  rcases hh.und with ⟨_, h, rfl⟩ | ⟨k', n, h, hw, rfl⟩ | ⟨_, h, _, rfl⟩ | ⟨_, q, xs, h, hx, rfl⟩ | ⟨_, xs, h, hl, hx, rfl⟩ | ⟨_, _, xs, h, hl, hx, rfl⟩ <;> simp only [mkV, aggE, h, Bool.false_eq_true, ↓reduceIte, List.headD_cons]
  · rfl
  · rfl
  · rfl
  · exact lst_cells
  · rfl
  · rfl
end

/-- The types that are read. -/
def contig (P : Program) : Nat → List Field → Nat → Bool
  | o, [], n => o == n
  | o, f :: fs, n => f.offset == o && contig P (o + P.cellsOf f.type) fs n
def okTy (P : Program) : Nat → TypeId → Bool
  | 0, _ => false
  | k + 1, t => match P.underlying t with
    | some .bool => true
    | some (.int _) => true
    | some .string => true
    | some (.slice e) => okTy P k e && decide (0 < P.cellsOf e)
    | some (.struct fs) => contig P 0 fs.toList (P.cellsOf t) && fs.toList.all fun f => okTy P k f.type
    | some (.array n e) => okTy P k e && P.cellsOf t == n * P.cellsOf e
    | _ => false

section
variable {H : Type} {enc : TypeId × Value → H} {P : Program} {w : World} {base : Nat} {sp : Nat → Bool} {held : Bool} {fr : Nat → Nat}
/-- Cells, told. -/
def Tl (w : World) (fr : Nat → Nat) (cs : List Value) (ds : List D) : Prop := ds.length = cs.length ∧ ∀ (i : Nat) v c, cs[i]? = some v → ds[i]? = some c → RF w fr v c
theorem Tl.one {v : Value} {d : D} (h : RF w fr v d) : Tl w fr [v] [d] := ⟨rfl, fun i v' c h1 h2 => by
  cases i with
  | zero => simp at h1 h2; subst h1 h2; exact h
  | succ i => simp at h1⟩
theorem Tl.app {a b : List Value} {x y : List D} (h : Tl w fr a x) (k : Tl w fr b y) : Tl w fr (a ++ b) (x ++ y) := by
  refine ⟨by rw [List.length_append, List.length_append, h.1, k.1], fun i v c h1 h2 => ?_⟩
  rcases Nat.lt_or_ge i a.length with hi | hi
  · rw [List.getElem?_append_left hi] at h1
    rw [List.getElem?_append_left (by rw [h.1]; exact hi)] at h2
    exact h.2 i v c h1 h2
  · rw [List.getElem?_append_right hi] at h1
    rw [List.getElem?_append_right (by rw [h.1]; exact hi), h.1] at h2
    exact k.2 _ v c h1 h2
theorem tl_fields {Q : TypeId → List D → Prop} {cs : List Value} : ∀ (fs : List Field) (o : Nat), contig P o fs cs.length = true → (∀ f ∈ fs, ∃ ds, Q f.type ds ∧ Tl w fr ((cs.drop f.offset).take (P.cellsOf f.type)) ds) →
    ∃ xs : List (List D), xs.length = fs.length ∧ (∀ (i : Nat) f x, fs[i]? = some f → xs[i]? = some x → Q f.type x) ∧ Tl w fr (cs.drop o) xs.flatten
  | [], o, h, _ => by
    simp only [contig, beq_iff_eq] at h
    refine ⟨[], rfl, fun i f x h => by simp at h, ?_⟩
    rw [h, List.drop_length]
    exact ⟨rfl, fun i v c h => by simp at h⟩
  | f :: fs, o, h, hf => by
    simp only [contig, Bool.and_eq_true, beq_iff_eq] at h
    obtain ⟨ho, h⟩ := h
    obtain ⟨ds, h1, h2⟩ := hf f (List.mem_cons_self ..)
    obtain ⟨xs, h3, h4, h5⟩ := tl_fields fs _ h (fun g hg => hf g (List.mem_cons_of_mem _ hg))
    refine ⟨ds :: xs, by simp [h3], fun i g x hg hx => ?_, ?_⟩
    · cases i with
      | zero => simp at hg hx; subst hg hx; exact h1
      | succ i => simp at hg hx; exact h4 i g x hg hx
    · rw [ho] at h2
      have e : cs.drop o = (cs.drop o).take (P.cellsOf f.type) ++ cs.drop (o + P.cellsOf f.type) := by rw [← List.drop_drop, List.take_append_drop]
      rw [e, List.flatten_cons]
      exact h2.app h5
theorem tl_elems {Q : List D → Prop} {cs : List Value} {z : Nat} : ∀ (m o : Nat), cs.length = (o + m) * z → (∀ i, o ≤ i → i < o + m → ∃ ds, Q ds ∧ Tl w fr ((cs.drop (i * z)).take z) ds) →
    ∃ xs : List (List D), xs.length = m ∧ (∀ (i : Nat) x, xs[i]? = some x → Q x) ∧ Tl w fr (cs.drop (o * z)) xs.flatten
  | 0, o, h, _ => by
    refine ⟨[], rfl, fun i x h => by simp at h, ?_⟩
    rw [Nat.add_zero] at h
    rw [← h, List.drop_length]
    exact ⟨rfl, fun i v c h => by simp at h⟩
  | m + 1, o, h, hf => by
    obtain ⟨ds, h1, h2⟩ := hf o (Nat.le_refl _) (by omega)
    obtain ⟨xs, h3, h4, h5⟩ := tl_elems m (o + 1) (by rw [h]; congr 1; omega) (fun i h1 h2 => hf i (by omega) (by omega))
    refine ⟨ds :: xs, by simp [h3], fun i x hx => ?_, ?_⟩
    · cases i with
      | zero => simp at hx; subst hx; exact h1
      | succ i => simp at hx; exact h4 i x hx
    · have e : cs.drop (o * z) = (cs.drop (o * z)).take z ++ cs.drop ((o + 1) * z) := by rw [Nat.add_mul, Nat.one_mul, ← List.drop_drop, List.take_append_drop]
      rw [e, List.flatten_cons]
      exact h2.app h5

theorem cells?_get {base : Nat} {a : Addr} {n : Nat} {vs : List Value} (h : w.cells? base a n = some vs) : vs.length = n ∧ ∀ i, i < n → w.cell? (a.add i) = vs[i]? := by
  unfold World.cells? at h
  split at h
  · refine ⟨by simpa using mapM_some_length h, fun i hi => ?_⟩
    exact mapM_some_get h i i (by rw [List.getElem?_range hi])
  · cases h
theorem spot_of {a : Addr} {k : Nat} {v : Value} (h : w.cell? (a.add 0) = some v) : a.spot = none := by
  simp only [Addr.add, ↓reduceIte] at h
  unfold World.cell? at h
  split at h
  · split at h
    · cases h
    · rename_i hs
      cases hq : a.spot with
      | none => rfl
      | some _ => rw [hq] at hs; exact absurd rfl hs
  · cases h

/-- What is read, is told. -/
theorem read_tl (hsp : ∀ b, sp b = true) (hfr : ∀ b o, (w.cell? ⟨b, o, none⟩).isSome → o < fr b) : ∀ (k : Nat) (t : TypeId), okTy P k t = true → ∀ (n : Nat) (cs : List Value) (x : DataW H × List MemPlace), DataW.trod enc P w base sp held n t cs = some x → ∃ ds, RD P t ds ∧ Tl w fr cs ds
  | 0, _, h => by cases h
  | k + 1, t, h => by
    intro n cs x hx
    unfold okTy at h
    split at h
    · rename_i hu
      obtain ⟨b, rfl, _⟩ := DataW.trod_bool hu hx
      exact ⟨_, .bool t b hu, .one (.v _ rfl)⟩
    · rename_i hu
      obtain ⟨m, rfl, _, hw⟩ := DataW.trod_int hu hx
      exact ⟨_, .int t _ m hu hw, .one (.v _ rfl)⟩
    · rename_i hu
      obtain ⟨s, rfl, _, hs⟩ := DataW.trod_string hu hx
      exact ⟨_, .str t s hu hs, .one (.v _ rfl)⟩
    · rename_i e hu
      rw [Bool.and_eq_true, decide_eq_true_eq] at h
      obtain ⟨h, hz⟩ := h
      rcases DataW.trod_slice hu hx with ⟨rfl, _⟩ | ⟨a, len, cap, elems, rest, m, _, rfl, _, _, hlc, hcap, hlen, hel, hrest, _⟩
      · refine ⟨_, .sl t e true [] hu (Nat.zero_le _) (fun i x h => by simp at h), .one ?_⟩
        exact .nl 0
      · have each : ∀ i, i < len → ∃ vs ds, (∀ j, j < P.cellsOf e → w.cell? ((a.add (i * P.cellsOf e)).add j) = vs[j]?) ∧ vs.length = P.cellsOf e ∧ RD P e ds ∧ Tl w fr vs ds := by
          intro i hi
          have h1 := hel i hi
          rw [List.getElem?_eq_getElem (by omega)] at h1
          cases hc : w.cells? base (a.add (i * P.cellsOf e)) (P.cellsOf e) with
          | none => rw [hc] at h1; cases h1
          | some vs =>
            rw [hc] at h1
            obtain ⟨ds, h2, h3⟩ := read_tl hsp hfr k e h m vs _ h1
            obtain ⟨h4, h5⟩ := cells?_get hc
            exact ⟨vs, ds, h5, h4, h2, h3⟩
        have all : ∃ xs : List (List D), xs.length = len ∧ ∀ (i : Nat) x, xs[i]? = some x → RD P e x ∧ ∃ vs : List Value, (∀ j, j < P.cellsOf e → w.cell? ((a.add (i * P.cellsOf e)).add j) = vs[j]?) ∧ vs.length = P.cellsOf e ∧ Tl w fr vs x := by
          clear hx hel hlen hlc hcap hrest
          induction len with
          | zero => exact ⟨[], rfl, fun i x h => by simp at h⟩
          | succ len ih =>
            obtain ⟨xs, h1, h2⟩ := ih (fun i hi => each i (by omega))
            obtain ⟨vs, ds, h3, h4, h5, h6⟩ := each len (by omega)
            refine ⟨xs ++ [ds], by simp [h1], fun i x hx => ?_⟩
            rcases Nat.lt_trichotomy i xs.length with hi | hi | hi
            · rw [List.getElem?_append_left hi] at hx; exact h2 i x hx
            · rw [List.getElem?_append_right (by omega), hi, Nat.sub_self] at hx
              simp at hx
              subst hx
              rw [hi, h1]
              exact ⟨h5, vs, h3, h4, h6⟩
            · rw [List.getElem?_append_right (by omega)] at hx
              have : i - xs.length ≠ 0 := by omega
              cases hk : i - xs.length with
              | zero => omega
              | succ q => rw [hk] at hx; simp at hx
        obtain ⟨xs, h1, h2⟩ := all
        refine ⟨_, .sl t e false xs hu (by omega) (fun i x hx => (h2 i x hx).1), .one ?_⟩
        rw [lst_f]
        rcases Nat.eq_zero_or_pos len with h0 | h0
        · subst h0
          obtain rfl : xs = [] := List.eq_nil_of_length_eq_zero h1
          rcases Nat.eq_zero_or_pos cap with c0 | c0
          · subst c0
            exact .z a _
          · obtain ⟨r1, r2⟩ := hrest (hsp _)
            have r3 := r2 0 (by omega)
            rw [List.getElem?_eq_getElem (by omega)] at r3
            cases hc : w.cells? base (a.add ((0 + 0) * P.cellsOf e)) (P.cellsOf e) with
            | none => rw [hc] at r3; cases r3
            | some vs =>
              obtain ⟨h4, h5⟩ := cells?_get hc
              have h6 := h5 0 hz
              rw [List.getElem?_eq_getElem (by omega), Nat.add_zero, Nat.zero_mul] at h6
              have hsp' : a.spot = none := spot_of (k := 0) (by simpa [Addr.add] using h6)
              obtain ⟨b, off, s⟩ := a
              simp only at hsp'
              subst hsp'
              exact .ro b off cap _ [] (fun _ _ => undef) (Nat.zero_le _) hcap (.inl rfl) (fun i d h => by simp at h) (fun i d j c h => by simp at h) (fun i d j c h => by simp at h)
        obtain ⟨x0, hx0⟩ : ∃ x0, xs[0]? = some x0 := ⟨_, List.getElem?_eq_getElem (by omega)⟩
        obtain ⟨_, v0, h3, h4, _⟩ := h2 0 x0 hx0
        have hsp : a.spot = none := by
          have := h3 0 hz
          rw [List.getElem?_eq_getElem (by omega), Nat.zero_mul] at this
          exact spot_of (k := 0) (by simpa [Addr.add] using this)
        obtain ⟨b, off, s⟩ := a
        simp only at hsp
        subst hsp
        simp only [add_lit] at h2
        have hcell : ∀ (i : Nat) d (j : Nat) c, (xs.map (mkV P e))[i]? = some d → d.cells[j]? = some c → ∃ v, w.cell? ⟨b, off + i * P.cellsOf e + j, none⟩ = some v ∧ RF w fr v c := by
          intro i d j c hd hj
          rw [List.getElem?_map] at hd
          cases hxi : xs[i]? with
          | none => rw [hxi] at hd; cases hd
          | some x =>
            rw [hxi] at hd
            injection hd with hd
            subst hd
            obtain ⟨g1, vs, g2, g3, g4⟩ := h2 i x hxi
            rw [mkV_cells g1] at hj
            have hjl := getq_lt hj
            rw [g4.1, g3] at hjl
            have hv : vs[j]? = some vs[j] := List.getElem?_eq_getElem (by omega)
            exact ⟨vs[j], by rw [g2 j hjl, hv], g4.2 j _ c hv hj⟩
        have hcl : ∀ (i : Nat) d, (xs.map (mkV P e))[i]? = some d → d.cells.length = P.cellsOf e := by
          intro i d hd
          rw [List.getElem?_map] at hd
          cases hxi : xs[i]? with
          | none => rw [hxi] at hd; cases hd
          | some x =>
            rw [hxi] at hd
            injection hd with hd
            subst hd
            obtain ⟨g1, vs, g2, g3, g4⟩ := h2 i x hxi
            rw [mkV_cells g1, g4.1, g3]
        have hml : (xs.map (mkV P e)).length = len := by rw [List.length_map, h1]
        rw [← hml]
        refine .ro b off cap _ _ (fun i j => (w.cell? ⟨b, off + i * P.cellsOf e + j, none⟩).getD undef) (by omega) hcap (.inr ?_) hcl (fun i d j c hd hj => ?_) (fun i d j c hd hj => ?_)
        · rw [hml]
          obtain ⟨d, hd⟩ : ∃ d, (xs.map (mkV P e))[len - 1]? = some d := ⟨_, List.getElem?_eq_getElem (by omega)⟩
          obtain ⟨c, hc⟩ : ∃ c, d.cells[P.cellsOf e - 1]? = some c := ⟨_, List.getElem?_eq_getElem (by rw [hcl _ _ hd]; omega)⟩
          obtain ⟨v, hv, _⟩ := hcell _ _ _ _ hd hc
          have := hfr b (off + (len - 1) * P.cellsOf e + (P.cellsOf e - 1)) (by rw [hv]; rfl)
          have e1 : len * P.cellsOf e = (len - 1) * P.cellsOf e + P.cellsOf e := by
            conv => lhs; rw [show len = (len - 1) + 1 by omega, Nat.add_mul, Nat.one_mul]
          omega
        · obtain ⟨v, hv, _⟩ := hcell _ _ _ _ hd hj
          rw [hv]; rfl
        · obtain ⟨v, hv, hr⟩ := hcell _ _ _ _ hd hj
          rw [hv]; exact hr
    · rename_i fs hu
      rw [Bool.and_eq_true] at h
      obtain ⟨hc, hall⟩ := h
      obtain ⟨ys, m, _, _, hl, hys, hf⟩ := DataW.trod_struct hu hx
      rw [← hl] at hc
      obtain ⟨xs, h1, h2, h3⟩ := tl_fields (P := P) (w := w) (fr := fr) (Q := RD P) (cs := cs) fs.toList 0 hc (fun f hm => by
        obtain ⟨i, hi⟩ := List.mem_iff_getElem?.1 hm
        have hi' : fs[i]? = some f := by rw [← Array.getElem?_toList]; exact hi
        have h4 := hf i f hi'
        rw [List.getElem?_eq_getElem (by rw [hys]; exact (Array.getElem?_eq_some_iff.1 hi').1)] at h4
        exact read_tl hsp hfr k f.type (List.all_eq_true.1 hall f hm) m _ _ h4)
      refine ⟨_, .st t fs xs hu (by rw [h1]; rfl) (fun i f x hf hx => h2 i f x (by rw [Array.getElem?_toList]; exact hf) hx), ?_⟩
      simpa using h3
    · rename_i m e hu
      rw [Bool.and_eq_true, beq_iff_eq] at h
      obtain ⟨h, hz⟩ := h
      obtain ⟨ys, m', _, _, hl, hys, hf⟩ := DataW.trod_array hu hx
      obtain ⟨xs, h1, h2, h3⟩ := tl_elems (w := w) (fr := fr) (Q := RD P e) (cs := cs) (z := P.cellsOf e) m 0 (by rw [hl, hz, Nat.zero_add]) (fun i _ hi => by
        have h4 := hf i (by omega)
        rw [List.getElem?_eq_getElem (by omega)] at h4
        exact read_tl hsp hfr k e h m' _ _ h4)
      refine ⟨_, .arr t e m xs hu h1 h2, ?_⟩
      simpa using h3
    · cases h
end
end Go.Proofs.Ytmbhpchkhilheaa.Ev
namespace Go.Proofs.Ytmbhpchkhilheaa.Ev
open Go Go.RowKit

def g0 (w : World) : G := ⟨w.heap.size, fun _ _ => none, fun b => match w.heap[b]? with | some (.cells cs _ _) => cs.size | _ => 0, fun _ => none, fun _ => false⟩
theorem fr0 {w : World} (b o : Nat) (h : (w.cell? ⟨b, o, none⟩).isSome) : o < (g0 w).fr b := by
  unfold World.cell? at h
  simp only [Option.isSome_none, Bool.false_eq_true, ↓reduceIte] at h
  simp only [g0]
  split at h
  · rename_i hb
    rw [hb]
    simp only
    exact (Array.getElem?_eq_some_iff.1 (Option.isSome_iff_exists.1 h).choose_spec).1
  · cases h
theorem inv0 (w : World) : Inv (g0 w) w where
  base := Nat.le_refl _
  fresh b hb := by
    refine ⟨?_, rfl⟩
    simp only [g0]
    rw [Array.getElem?_eq_none hb]
  box f s b h := by cases h
  inj f s f' s' b h := by cases h
  tk b l h := by cases h
  cells b o h := by
    simp only [g0] at h
    split at h
    · rename_i hb
      unfold World.cell?
      simp only [hb, Option.isSome_none, Bool.false_eq_true, ↓reduceIte]
      rw [Array.getElem?_eq_getElem h]; rfl
    · cases h
  dm b h := by cases h
  dt b h := by cases h
theorem sb0 (w : World) : SB (g0 w) w [] where
  rel f s ds h := by simp [bxl] at h
  dom f s h := by cases h
  bnd f s ds d h := by simp [bxl] at h

section
variable {H : Type} {enc : TypeId × Value → H} {w : World} {base b0 k : Nat} {sp : Nat → Bool} {held : Bool} {t : TypeId} {v : Value} {d : DataW H} {ps : List MemPlace}
theorem open_arg (hsp : ∀ b, sp b = true) (hk : okTy PP k t = true) (hval : Value.okWide PP w .any b0 t v) (h : DataW.Trod enc PP w base sp held t v d ps) : ∃ ds, RD PP t ds ∧ ∀ L, RV (g0 w) w L v (mkV PP t ds) := by
  obtain ⟨n, h⟩ := h
  obtain ⟨ds, h1, h2⟩ := read_tl hsp (fr := (g0 w).fr) fr0 k t hk n _ _ h
  refine ⟨ds, h1, fun L => ?_⟩
  have agg : ∀ cs : Array Value, v = .agg cs → RV (g0 w) w L v (.agg ds) := by
    intro cs e
    subst e
    have e : (Value.agg cs).cells.toList = cs.toList := rfl
    rw [e] at h2
    refine ⟨cs, rfl, h2.1.symm, fun c d hc => ?_⟩
    have hl := getq_lt hc
    rw [h2.1] at hl
    have hv : cs[c]? = some cs[c] := Array.getElem?_eq_getElem hl
    exact ⟨_, hv, (h2.2 c _ _ (by rw [Array.getElem?_toList]; exact hv) hc).toRC _⟩
  have one : v.cells.toList = [v] → ∀ d', ds = [d'] → d'.aggB = false → RV (g0 w) w L v d' := by
    intro e d' e' ha
    subst e'
    rw [e] at h2
    rw [RV_ne ha]
    exact (h2.2 0 v d' rfl rfl).toRC _
  rcases h1.und with ⟨b, hu, e⟩ | ⟨k', m, hu, _, e⟩ | ⟨s, hu, _, e⟩ | ⟨e', q, xs, hu, _, e⟩ | ⟨fs, xs, hu, _, _, e⟩ | ⟨m, e', xs, hu, _, _, e⟩ <;> simp only [mkV, aggE, hu, Bool.false_eq_true, ↓reduceIte]
  · obtain ⟨x, rfl⟩ := WideShapes.okWide_bool hu hval
    rw [e]; exact one rfl _ e rfl
  · obtain ⟨x, rfl⟩ := WideShapes.okWide_int hu hval
    rw [e]; exact one rfl _ e rfl
  · obtain ⟨x, rfl⟩ := WideShapes.okWide_string hu hval
    rw [e]; exact one rfl _ e rfl
  · obtain ⟨x, l, c, rfl⟩ := WideShapes.okWide_slice hu hval
    rw [e]; exact one rfl _ e (by unfold lst; split <;> rfl)
  · simp only [Value.okWide, hu] at hval
    obtain ⟨cs, rfl, _⟩ := hval
    exact agg cs rfl
  · simp only [Value.okWide, hu] at hval
    obtain ⟨cs, rfl, _⟩ := hval
    exact agg cs rfl
end

theorem run0 {prog : Nat → Option Fn} (hp : MProg PP prog) {f : Nat} {ds : List D} {r : D} (hf : f < RL) (h : EF prog f ds [] = some (r, [])) {W : World} {vs : Array Value} (hs : vs.size = ds.length)
    (hv : ∀ (i : Nat) d, ds[i]? = some d → ∃ x, vs[i]? = some x ∧ ∀ L, RV (g0 W) W L x d) :
    Calls PP f vs W fun e W' => ∃ x g', e = .returned x ∧ RT g' W' retL x r ∧ Below W.heap.size W W' := by
  obtain ⟨_, _, h2⟩ := (EF_good hp f ds [] r [] h).1 hf
  have h3 := h2 (g0 W) W vs (inv0 W) (sb0 W) hs (fun i d hi => by
    obtain ⟨x, hx, hr⟩ := hv i d hi
    exact ⟨x, hx, hr _⟩)
  refine ((callsIn_wide (n := 0)).1 h3).mono fun e W' ⟨x, g', he, hi, _, _, hx, hr⟩ => ⟨x, g', he, hr, hx.os, hx.tape, hx.output, hx.size, hx.old⟩
end Go.Proofs.Ytmbhpchkhilheaa.Ev
