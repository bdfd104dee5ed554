/- The law ReceiverOver, as it is given: it returns true whatever it is given, and leaves it as it was. Conditions: none. -/
import Derived.Test.YtmbhpchkhilheaaJ15
import Derived.Test.YtmbhpchkhilheaaU1
import Derived.Test.YtmbhpchkhilheaaEvS
import Derived.ProofKit
import Derived.WalkKit
import Derived.OpenShut
import Derived.ShutString
import Derived.ChangeOld
import Derived.Below
import Derived.SizedLaws
import Derived.Test.YtmbhpchkhilheaaUi
import Derived.Test.YtmbhpchkhilheaaFt15
import Derived.Test.YtmbhpchkhilheaaRows
import Derived.KernelRfl
set_option linter.all false
namespace Go.Proofs.Ytmbhpchkhilheaa.Ev.U
open Go
theorem w38 (x : Segment) : g38 x = some (onlyF x) := by
  unfold g38 onlyF
  by_cases k1 : x.1 = 1
  · simp [k1]
  by_cases k2 : x.1 = 2
  · simp [k2]
  by_cases k3 : x.1 = 3
  · simp [k3]
  by_cases k4 : x.1 = 4
  · simp [k4]
  by_cases k6 : x.1 = 6
  · simp [k6]
  simp [k1, k2, k3, k4, k6]
theorem w20 (x : Segment) (h : SmS x) (hs : 0 ≤ x.2.2.1) : g20 x = some (segOk x) := by
  have hd := h.d
  have hc := h.c
  have hh : (if (if decide (x.2.1 < 1) = true then true else decide (x.2.1 > 6)) = true then true else (x.2.2.1 == 0)) = !headB x := by
    rw [Bool.eq_iff_iff]
    simp only [headB, inB, Bool.if_true_left, Bool.or_eq_true, decide_eq_true_eq, beq_iff_eq, Bool.not_eq_true', Bool.and_eq_false_iff, decide_eq_false_iff_not]
    omega
  simp only [g20, hh, w38, w37 x _ h, Bool.not_not]
  unfold segOk
  cases hb : headB x with
  | false => rfl
  | true =>
    simp only [if_true, Option.bind_some, Bool.not_true, Bool.false_eq_true, if_false, Bool.true_and]
    cases hq : sameS x (onlyF x) with
    | false => simp
    | true =>
      simp only [Bool.not_true, Bool.false_eq_true, if_false, Bool.and_true]
      obtain ⟨x1, x2, x3, x4, x5, x6, x7, x8, x9, x10, x11, x12, x13⟩ := x
      simp only at hd hc hs
      clear hq hh hb h
      simp only [kindB, b33']
      by_cases k1 : x1 = 1
      · subst k1
        simp only [beq_self_eq_true, if_true]
        congr 1
        show (if (if (if (if (if (if decide (x7 ≥ 1) = true then decide (x7 ≤ 512) else false) = true then decide ((x12.length : Int) ≥ 1) else false) = true then decide ((x12.length : Int) ≤ 100) else false) = true then decide (x6 ≥ 0) else false) = true then decide (x6 ≤ IntKind.i64.wrap (x7 - (x12.length : Int))) else false) = true then (x11 == decide (x4 > 0)) else false) = _
        have hin : ∀ a b c : Int, (if decide (a ≥ b) = true then decide (a ≤ c) else false) = inB a b c := fun a b c => if_and _ _
        rw [hin]
        cases q1 : inB x7 1 512 with
        | false => rfl
        | true =>
          simp only [inB, Bool.and_eq_true, decide_eq_true_eq] at q1
          rw [wi64 (by omega)]
          simp only [inB]
          show (if (if (if (if (if true = true then decide (1 ≤ (x12.length : Int)) else false) = true then _ else false) = true then decide (0 ≤ x6) else false) = true then _ else false) = true then _ else false) = _
          generalize decide (1 ≤ (x12.length : Int)) = c1, decide ((x12.length : Int) ≤ 100) = c2, decide (0 ≤ x6) = c3, decide (x6 ≤ x7 - (x12.length : Int)) = c4, (x11 == decide (x4 > 0)) = c5
          cases c1 <;> cases c2 <;> cases c3 <;> cases c4 <;> cases c5 <;> rfl
      · have e1 : (x1 == 1) = false := by simpa using k1
        simp only [e1, Bool.false_eq_true, if_false, if_neg k1]
        by_cases k2 : x1 = 2
        · subst k2
          simp only [beq_self_eq_true, if_true]
          have hx : (if (if (if (if decide (x4 > 0) = true then decide (x5 > 0) else false) = true then decide (x8 ≥ 0) else false) = true then decide (x8 < x9) else false) = true then decide (x9 ≤ 512) else false) = (decide (x4 > 0) && decide (x5 > 0) && inB x9 1 512 && inB x8 0 (x9 - 1)) := by
            simp only [inB, if_and]
            rw [Bool.eq_iff_iff]
            simp only [Bool.and_eq_true, decide_eq_true_eq, ge_iff_le, gt_iff_lt]
            constructor
            · rintro ⟨⟨⟨⟨q1, q2⟩, q3⟩, q4⟩, q5⟩
              exact ⟨⟨⟨q1, q2⟩, by omega, q5⟩, q3, by omega⟩
            · rintro ⟨⟨⟨q1, q2⟩, q3, q4⟩, q5, q6⟩
              exact ⟨⟨⟨⟨q1, q2⟩, q5⟩, by omega⟩, q4⟩
          simp only [hx]
          cases hc1 : (decide (x4 > 0) && decide (x5 > 0) && inB x9 1 512 && inB x8 0 (x9 - 1)) with
          | false => rfl
          | true =>
            simp only [inB, Bool.and_eq_true, decide_eq_true_eq] at hc1
            simp only [if_true, w39 x13 x8 x9 (by omega) (by omega) (by omega), Option.bind_some, Bool.true_and]
        · have e2 : (x1 == 2) = false := by simpa using k2
          simp only [e2, Bool.false_eq_true, if_false, if_neg k2]
          by_cases k3 : x1 = 3
          · subst k3; rfl
          · have e3 : (x1 == 3) = false := by simpa using k3
            simp only [e3, Bool.false_eq_true, if_false, if_neg k3]
            have hin : ∀ a b c : Int, (if decide (a ≥ b) = true then decide (a ≤ c) else false) = inB a b c := fun a b c => if_and _ _
            by_cases k4 : x1 = 4
            · subst k4
              simp only [beq_self_eq_true, if_true, Option.bind_some, hin, true_or]
            · have e4 : (x1 == 4) = false := by simpa using k4
              simp only [e4, Bool.false_eq_true, if_false]
              by_cases k6 : x1 = 6
              · subst k6
                simp only [beq_self_eq_true, if_true, Option.bind_some, hin, or_true]
              · have e6 : (x1 == 6) = false := by simpa using k6
                simp only [e6, Option.bind_some, Bool.false_eq_true, if_false, if_neg (show ¬ (x1 = 4 ∨ x1 = 6) by omega)]
                by_cases k5 : x1 = 5
                · subst k5; rfl
                · have e5 : (x1 == 5) = false := by simpa using k5
                  simp only [e5, Bool.false_eq_true, if_false]
                  by_cases k7 : x1 = 7
                  · subst k7; rfl
                  · have e7 : (x1 == 7) = false := by simpa using k7
                    simp only [e7, Bool.false_eq_true, if_false]
                    rw [decide_eq_false (show ¬ (x1 = 5 ∨ x1 = 7) by omega)]
/-- Does a segment go forward? -/
def fwdB (x : Segment) : Bool := x.1 == 1 || x.1 == 3 || x.1 == 4 || x.1 == 7
theorem w21 (x : Segment) : g21 x = some (fwdB x) := by
  unfold g21 fwdB
  cases x.1 == 1 <;> cases x.1 == 3 <;> cases x.1 == 4 <;> cases x.1 == 7 <;> rfl
theorem segOk_data {x : Segment} (h : segOk x = true) (k : x.1 = 1) : 0 ≤ x.2.2.2.2.2.1 ∧ x.2.2.2.2.2.1 + x.2.2.2.2.2.2.2.2.2.2.2.1.length ≤ x.2.2.2.2.2.2.1 ∧ x.2.2.2.2.2.2.1 ≤ 512 ∧ 1 ≤ x.2.2.2.2.2.2.1 ∧ 1 ≤ x.2.2.2.2.2.2.2.2.2.2.2.1.length ∧ x.2.2.2.2.2.2.2.2.2.2.2.1.length ≤ 100 := by
  simp only [segOk, Bool.and_eq_true] at h
  have := h.1.2
  simp only [kindB, if_pos k, inB, Bool.and_eq_true, decide_eq_true_eq] at this
  omega
/-- What a segment makes of a session. -/
def takeF (a : Taking) (x : Segment) (now : Int) : Taking × List Segment :=
  if x.1 = 1 then dataF (a.1, a.2.1, a.2.2.1, a.2.2.2.1, a.2.2.2.2.1, a.2.2.2.2.2.1, a.2.2.2.2.2.2.1, a.2.2.2.2.2.2.2.1, now + a.2.2.2.2.2.2.2.1) x
  else if x.1 = 4 then ((a.1, a.2.1, a.2.2.1, a.2.2.2.1, a.2.2.2.2.1, a.2.2.2.2.2.1, if a.2.2.2.2.2.2.1 = 1 then 4 else a.2.2.2.2.2.2.1, a.2.2.2.2.2.2.2.1, now + a.2.2.2.2.2.2.2.1), [(5, a.1, a.2.1, 0, 0, 0, 0, 0, 0, 0, false, [], [])])
  else ((a.1, a.2.1, a.2.2.1, a.2.2.2.1, a.2.2.2.2.1, a.2.2.2.2.2.1, a.2.2.2.2.2.2.1, a.2.2.2.2.2.2.2.1, now + a.2.2.2.2.2.2.2.1), [])
structure TkOk (a : Taking) (x : Segment) (now : Int) : Prop where
  sm : SmT a
  life : 0 ≤ a.2.2.2.2.2.2.2.1 ∧ a.2.2.2.2.2.2.2.1 ≤ 65536
  now : 0 ≤ now ∧ now ≤ 1048576
  inn : x.1 = 1 → InOk a x
theorem w36 (a : Taking) (x : Segment) (now : Int) (h : TkOk a x now) : g36 a x now = some (takeF a x now) := by
  obtain ⟨⟨hb, hg⟩, hl, hn, hi⟩ := h
  have hw : IntKind.i64.wrap (now + a.2.2.2.2.2.2.2.1) = now + a.2.2.2.2.2.2.2.1 := wi64 (by omega)
  simp only [g36, w33 a.2.2.2.1 (by omega), w41 a.2.2.2.2.1 (by omega), Option.bind_some, hw]
  unfold takeF
  by_cases k1 : x.1 = 1
  · have e1 : (x.1 == 1) = true := by simpa using k1
    have hin := hi k1
    rw [e1, if_pos rfl, if_pos k1, w48 (a.1, a.2.1, a.2.2.1, a.2.2.2.1, a.2.2.2.2.1, a.2.2.2.2.2.1, a.2.2.2.2.2.2.1, a.2.2.2.2.2.2.2.1, now + a.2.2.2.2.2.2.2.1) x ⟨hin.tot, hin.len, hin.ch, hin.glen, hin.off, hin.fit, hin.xt⟩]
    rfl
  · have e1 : (x.1 == 1) = false := by simpa using k1
    rw [e1, if_neg (by simp), if_neg k1]
    by_cases k4 : x.1 = 4
    · have e4 : (x.1 == 4) = true := by simpa using k4
      rw [e4, if_pos rfl, if_pos k4]
      by_cases s1 : a.2.2.2.2.2.2.1 = 1
      · have : (a.2.2.2.2.2.2.1 == 1) = true := by simpa using s1
        simp only [this, if_true, if_pos s1, Option.bind_some, h49]
      · have : (a.2.2.2.2.2.2.1 == 1) = false := by simpa using s1
        simp only [this, Bool.false_eq_true, if_false, if_neg s1, Option.bind_some, h49]
    · have e4 : (x.1 == 4) = false := by simpa using k4
      rw [e4, if_neg (by simp), if_neg k4]
def Z9 : Taking := ((0 : Int), (0 : Int), (0 : Int), [], [], (0 : Int), (0 : Int), (0 : Int), (0 : Int))
def newT (x : Segment) (life : Int) : Taking := (x.2.1, x.2.2.1, x.2.2.2.2.2.2.1, List.replicate x.2.2.2.2.2.2.1.toNat 0, [], 0, 1, life, 0)
theorem new_ok {x : Segment} {now life : Int} (hs : segOk x = true) (k : x.1 = 1) (hn : 0 ≤ now ∧ now ≤ 1048576) (hl : 1 ≤ life ∧ life ≤ 65536) : TkOk (newT x life) x now := by
  obtain ⟨q1, q2, q3, q4, _⟩ := segOk_data hs k
  exact ⟨⟨by simp [newT]; omega, by simp [newT]⟩, ⟨by show 0 ≤ life; omega, hl.2⟩, hn, fun _ => ⟨⟨q4, q3⟩, by show ((List.replicate x.2.2.2.2.2.2.1.toNat (0 : Int)).length : Int) = x.2.2.2.2.2.2.1; rw [List.length_replicate]; omega, rfl, by simp [newT], q1, q2, q3⟩⟩
theorem w24 (x : Segment) (now life : Int) (h : SmS x) : g24 x now life = some (if segOk x = true ∧ x.1 = 1 ∧ (0 ≤ now ∧ now ≤ 1048576) ∧ (1 ≤ life ∧ life ≤ 65536) then ((takeF (newT x life) x now).1, (takeF (newT x life) x now).2, 0) else (Z9, [], 2)) := by
  unfold g24
  rw [w30 x h, Option.bind_some]
  by_cases hc : segOk x = true ∧ x.1 = 1 ∧ (0 ≤ now ∧ now ≤ 1048576) ∧ (1 ≤ life ∧ life ≤ 65536)
  · obtain ⟨c1, c2, c3, c4⟩ := hc
    have e2 : (x.1 != 1) = false := by simpa using c2
    have e3 : h35 now 0 1048576 = true := by rw [w35]; simp only [inB, Bool.and_eq_true, decide_eq_true_eq]; exact c3
    have e4 : h35 life 1 65536 = true := by rw [w35]; simp only [inB, Bool.and_eq_true, decide_eq_true_eq]; exact c4
    obtain ⟨q1, q2, q3, q4, _⟩ := segOk_data c1 c2
    rw [if_pos (show segOk x = true ∧ x.1 = 1 ∧ (0 ≤ now ∧ now ≤ 1048576) ∧ (1 ≤ life ∧ life ≤ 65536) from ⟨c1, c2, c3, c4⟩)]
    simp only [c1, if_true, bne_self_eq_false, e2, e3, e4, Bool.not_true, Bool.false_eq_true, if_false, mkl_ok (show 0 ≤ x.2.2.2.2.2.2.1 by omega) (Int.le_refl _) (show ((1 : Nat) : Int) * x.2.2.2.2.2.2.1 ≤ 140737488355328 by omega), Option.bind_some]
    rw [show (x.2.1, x.2.2.1, x.2.2.2.2.2.2.1, List.replicate x.2.2.2.2.2.2.1.toNat (0 : Int), ([] : List Claim), (0 : Int), (1 : Int), life, (0 : Int)) = newT x life from rfl, w36 _ x now (new_ok c1 c2 c3 c4)]
    rfl
  · rw [if_neg hc, if_pos]
    · rfl
    · rw [w35, w35]
      cases q1 : segOk x with
      | false => rfl
      | true =>
        by_cases c2 : x.1 = 1
        · have e2 : (x.1 != 1) = false := by simpa using c2
          rw [e2]
          cases q3 : inB now 0 1048576 with
          | false => rfl
          | true =>
            cases q4 : inB life 1 65536 with
            | false => rfl
            | true =>
              simp only [inB, Bool.and_eq_true, decide_eq_true_eq] at q3 q4
              exact absurd ⟨q1, c2, q3, q4⟩ hc
        · have e2 : (x.1 != 1) = true := by simpa using c2
          rw [e2]; rfl
theorem right_take {a : Taking} {x : Segment} {now : Int} (hr : rightB a = true) (hsm : SmT a) (hs : segOk x = true) (hn : 0 ≤ now ∧ now ≤ 1048576) : TkOk a x now := by
  have ht := right_tot hr
  obtain ⟨_, hc, hp⟩ := right_iff.1 hr
  simp only [postB, inB, Bool.and_eq_true, decide_eq_true_eq] at hp
  exact ⟨hsm, by omega, hn, fun k => by
    obtain ⟨q1, q2, q3, q4, _⟩ := segOk_data hs k
    exact ⟨⟨ht.1, ht.2.1⟩, ht.2.2, hc, hsm.g, q1, q2, q3⟩⟩
theorem w19 (a : Taking) (x : Segment) (now : Int) (ha : SmT a) (h : SmS x) : g19 a x now = some (if rightB a = true then (if segOk x = true ∧ x.2.1 = a.1 ∧ x.2.2.1 = a.2.1 ∧ fwdB x = true ∧ 0 ≤ now ∧ now ≤ 1048576 then ((takeF a x now).1, (takeF a x now).2, 0) else (Z9, [], 2)) else (Z9, [], 250)) := by
  unfold g19
  rw [w16 a ha, Option.bind_some]
  cases hr : rightB a with
  | false => rfl
  | true =>
    simp only [if_true, bne_self_eq_false, Bool.false_eq_true, if_false, w30 x h, Option.bind_some, w21, w35]
    by_cases hc : segOk x = true ∧ x.2.1 = a.1 ∧ x.2.2.1 = a.2.1 ∧ fwdB x = true ∧ 0 ≤ now ∧ now ≤ 1048576
    · obtain ⟨c1, c2, c3, c4, c5⟩ := hc
      have e5 : inB now 0 1048576 = true := by simp only [inB, Bool.and_eq_true, decide_eq_true_eq]; exact c5
      rw [if_pos (show segOk x = true ∧ x.2.1 = a.1 ∧ x.2.2.1 = a.2.1 ∧ fwdB x = true ∧ 0 ≤ now ∧ now ≤ 1048576 from ⟨c1, c2, c3, c4, c5⟩)]
      simp only [c1, c2, c3, c4, e5, if_true, bne_self_eq_false, Bool.false_eq_true, if_false, Bool.not_false, Bool.not_true, Option.bind_some, w36 a x now (right_take hr ha c1 c5)]
    · rw [if_neg hc]
      have e2 : (x.2.1 != a.1) = !decide (x.2.1 = a.1) := by rw [Bool.eq_iff_iff]; simp
      have e3 : (x.2.2.1 != a.2.1) = !decide (x.2.2.1 = a.2.1) := by rw [Bool.eq_iff_iff]; simp
      have hall : (segOk x && decide (x.2.1 = a.1) && decide (x.2.2.1 = a.2.1) && fwdB x && inB now 0 1048576) = false := by
        cases hq : (segOk x && decide (x.2.1 = a.1) && decide (x.2.2.1 = a.2.1) && fwdB x && inB now 0 1048576) with
        | false => rfl
        | true =>
          simp only [inB, Bool.and_eq_true, decide_eq_true_eq] at hq
          exact absurd ⟨hq.1.1.1.1, hq.1.1.1.2, hq.1.1.2, hq.1.2, hq.2⟩ hc
      rw [e2, e3]
      clear hc
      generalize decide (x.2.1 = a.1) = c2, decide (x.2.2.1 = a.2.1) = c3, fwdB x = c4, inB now 0 1048576 = c5, segOk x = c1 at *
      cases c1 <;> cases c2 <;> cases c3 <;> cases c4 <;> cases c5 <;> first | rfl | exact absurd hall (by decide)
/-- A moment comes. -/
def tickF (a : Taking) (now : Int) : Taking × List Segment :=
  if now < a.2.2.2.2.2.2.2.2 ∨ a.2.2.2.2.2.2.1 = 4 then (a, [])
  else ((a.1, a.2.1, a.2.2.1, a.2.2.2.1, a.2.2.2.2.1, a.2.2.2.2.2.1, 4, a.2.2.2.2.2.2.2.1, a.2.2.2.2.2.2.2.2), if a.2.2.2.2.2.2.1 = 1 then [(6, a.1, a.2.1, 0, 0, 0, 0, 0, 0, 4, false, [], [])] else [])
theorem w26 (a : Taking) (now : Int) (ha : SmT a) : g26 a now = some (if rightB a = true then (if 0 ≤ now ∧ now ≤ 1048576 then ((tickF a now).1, (tickF a now).2, 0) else (Z9, [], 2)) else (Z9, [], 250)) := by
  unfold g26
  rw [w16 a ha, Option.bind_some]
  cases hr : rightB a with
  | false => rfl
  | true =>
    have hb := ha.b
    have hg := ha.g
    simp only [if_true, bne_self_eq_false, Bool.false_eq_true, if_false, w35, w33 a.2.2.2.1 (by omega), w41 a.2.2.2.2.1 (by omega), Option.bind_some]
    by_cases hc : 0 ≤ now ∧ now ≤ 1048576
    · have e : inB now 0 1048576 = true := by simp only [inB, Bool.and_eq_true, decide_eq_true_eq]; exact hc
      rw [e, if_pos hc]
      simp only [Bool.not_true, Bool.false_eq_true, if_false]
      unfold tickF
      by_cases hd : now < a.2.2.2.2.2.2.2.2 ∨ a.2.2.2.2.2.2.1 = 4
      · have : (if decide (now < a.2.2.2.2.2.2.2.2) = true then true else (a.2.2.2.2.2.2.1 == 4)) = true := by
          rcases hd with hd | hd
          · simp [hd]
          · simp [hd]
        rw [this, if_pos rfl, if_pos hd]
      · have : (if decide (now < a.2.2.2.2.2.2.2.2) = true then true else (a.2.2.2.2.2.2.1 == 4)) = false := by
          simp only [not_or] at hd
          simp [hd.1, hd.2]
        rw [this, if_neg (by simp), if_neg hd]
        by_cases s1 : a.2.2.2.2.2.2.1 = 1
        · have : (a.2.2.2.2.2.2.1 == 1) = true := by simpa using s1
          rw [this, if_pos rfl, if_pos s1, apd_ok (by simp)]
          rfl
        · have : (a.2.2.2.2.2.2.1 == 1) = false := by simpa using s1
          rw [this, if_neg (by simp), if_neg s1]
    · have e : inB now 0 1048576 = false := by
        simp only [inB, Bool.and_eq_false_iff, decide_eq_false_iff_not]; omega
      rw [e, if_neg hc]; rfl
end Go.Proofs.Ytmbhpchkhilheaa.Ev.U
namespace Go.Proofs.Ytmbhpchkhilheaa.Ev.U
open Go
def S0 : Segment := ((1 : Int), (1 : Int), (5 : Int), (1 : Int), (0 : Int), (0 : Int), (2 : Int), (0 : Int), (0 : Int), (0 : Int), true, [(7 : Int), (8 : Int)], [])
def T0 : Taking := ((1 : Int), (5 : Int), (2 : Int), [7, 8], [((0 : Int), (2 : Int))], 1, 2, 100, 100)
def C0 : Segment := ((2 : Int), (1 : Int), (5 : Int), (1 : Int), (1 : Int), (0 : Int), (0 : Int), (0 : Int), (2 : Int), (0 : Int), false, [], [((0 : Int), (2 : Int))])
theorem s0_ok : segOk S0 = true := by decide
theorem t0_take : takeF (newT S0 100) S0 0 = (T0, [C0]) := by kernel_rfl
theorem t0_right : rightB T0 = true := by decide
theorem t0_whole : wholeB T0 = true := by decide
theorem w8 : g8 = some true := by
  have h := w24 S0 0 100 ⟨by decide, by decide⟩
  rw [if_pos ⟨s0_ok, rfl, by decide, by decide⟩, t0_take] at h
  have h2 := w13 T0 ⟨by decide, by decide⟩
  rw [t0_right, t0_whole] at h2
  show (g24 S0 0 100).bind _ = _
  rw [h, Option.bind_some]
  show (g13 T0).bind _ = _
  rw [h2]
  rfl
def ZS : Segment := ((0 : Int), (0 : Int), (0 : Int), (0 : Int), (0 : Int), (0 : Int), (0 : Int), (0 : Int), (0 : Int), (0 : Int), false, [], [])
theorem small_of {a : Taking} {x : Segment} (h : h9 a x = false) : SmT a ∧ SmS x := by
  simp only [h9] at h
  cases h1 : decide ((a.2.2.2.1.length : Int) > 5000) with
  | true => rw [h1] at h; cases h
  | false =>
    cases h2 : decide ((a.2.2.2.2.1.length : Int) > 2000) with
    | true => rw [h1, h2] at h; cases h
    | false =>
      cases h3 : decide ((x.2.2.2.2.2.2.2.2.2.2.2.1.length : Int) > 5000) with
      | true => rw [h1, h2, h3] at h; cases h
      | false =>
        rw [h1, h2, h3] at h
        have h1 := of_decide_eq_false h1
        have h2 := of_decide_eq_false h2
        have h3 := of_decide_eq_false h3
        have h4 := of_decide_eq_false h
        exact ⟨⟨by omega, by omega⟩, ⟨by omega, by omega⟩⟩
theorem w3 (a b : Taking) (h0 : 0 ≤ a.2.1) : g3 a b = some true := by
  unfold g3
  rw [w8, Option.bind_some]
  simp only [Bool.not_true, Bool.false_eq_true, if_false]
  show (if (if h9 a ZS = true then true else h9 b ZS) = true then some true else _) = _
  cases hl : h9 a ZS with
  | true => rfl
  | false =>
    cases hl' : h9 b ZS with
    | true => rfl
    | false =>
      have ha := (small_of hl).1
      have hx8 : (sameT a b == sameT a b) = true := by simp
      simp only [Bool.false_eq_true, if_false, w10 a b ha, w11 a b ha, w12 a ha, w10 a a ha, Option.bind_some, hx8, sameT_self, w13 a ha, w14 a ha, w15 a ha h0, w16 a ha, bne_self_eq_false, Bool.not_false, Bool.not_true, if_true]
      cases hr : rightB a with
      | false =>
        simp only [Bool.false_eq_true, if_false, Bool.not_false, if_true, List.length_nil, w12 a ha, Option.bind_some, w16 a ha, hr, Int.natCast_zero, beq_self_eq_true]
      | true =>
        have hb := ha.b
        have hg := ha.g
        have ht := right_tot hr
        obtain ⟨_, hc, _⟩ := right_iff.1 hr
        have hl3 := fun (b : List Int) (e n : Int) => l3 b e n a.2.2.1 a.1 a.2.1 a.2.2.1 a.2.2.2.1 a.2.2.2.2.1 a.2.2.2.2.2.1 a.2.2.2.2.2.2.1 a.2.2.2.2.2.2.2.1 a.2.2.2.2.2.2.2.2 (by omega) (chain_Bd (by omega) hc) a.2.2.1.toNat 0 0 (by omega) (by omega) (by omega) (by omega) (by omega)
        have hcn : (0 : Int) + cnt a.2.2.2.2.1 0 a.2.2.1.toNat = a.2.2.1 - sumN a.2.2.2.2.1 := by
          rw [cnt_chain hc (fun c hc' => by have := chain_bd (by omega) (by omega) hc c hc'; omega) (by omega)]
          omega
        have hm : (a.2.2.1 - sumN a.2.2.2.2.1 != a.2.2.1 - sumN a.2.2.2.2.1) = false := by simp
        simp only [Bool.not_true, Bool.false_eq_true, if_false, if_true, hl3, hcn, Option.bind_some, hm, Bool.not_false]
        have w12' : g12 (a.1, a.2.1, a.2.2.1, a.2.2.2.1, a.2.2.2.2.1, a.2.2.2.2.2.1, a.2.2.2.2.2.2.1, a.2.2.2.2.2.2.2.1, a.2.2.2.2.2.2.2.2) = some a := w12 a ha
        rw [w12', Option.bind_some, w16 a ha, hr, Option.bind_some]
        simp only [if_true, bne_self_eq_false, Bool.false_eq_true, if_false]
        rw [whole_sum hr]
        have hs := sum_chain hc
        have hp : 0 ≤ a.2.2.1 - sumN a.2.2.2.2.1 := by
          by_cases hn : a.2.2.2.2.1 = []
          · rw [hn]; simp [sumN]; omega
          · have := hs.2 hn
            have : 0 < a.2.2.2.2.1.length := List.length_pos_iff.2 hn
            omega
        by_cases hz : a.2.2.1 - sumN a.2.2.2.2.1 = 0
        · rw [hz]
          simp only [decide_true, if_true, w18 a.2.2.2.1 a.2.2.2.1 (by omega), Option.bind_some]
          rfl
        · rw [decide_eq_false hz, decide_eq_true (show a.2.2.1 - sumN a.2.2.2.2.1 > 0 by omega)]
          rfl
end Go.Proofs.Ytmbhpchkhilheaa.Ev.U
namespace Go.Proofs.Ytmbhpchkhilheaa.Ev.U
open Go
theorem right_due {b1 b2 b3 : Int} {b4 : List Int} {b5 : List Claim} {b6 b7 b8 b9 n : Int} (h : rightB (b1, b2, b3, b4, b5, b6, b7, b8, b9) = true) (hn : 0 ≤ n ∧ n ≤ 1114112) : rightB (b1, b2, b3, b4, b5, b6, b7, b8, n) = true := by
  obtain ⟨h1, h2, h3⟩ := right_iff.1 h
  refine right_iff.2 ⟨h1, h2, ?_⟩
  simp only [postB, Bool.and_eq_true] at h3 ⊢
  refine ⟨⟨h3.1.1, ?_⟩, h3.2⟩
  simp only [inB, Bool.and_eq_true, decide_eq_true_eq]
  exact hn
theorem right_four {b1 b2 b3 : Int} {b4 : List Int} {b5 : List Claim} {b6 b7 b8 b9 : Int} (h : rightB (b1, b2, b3, b4, b5, b6, b7, b8, b9) = true) : rightB (b1, b2, b3, b4, b5, b6, 4, b8, b9) = true := by
  obtain ⟨h1, h2, h3⟩ := right_iff.1 h
  refine right_iff.2 ⟨h1, h2, ?_⟩
  simp only [postB, Bool.and_eq_true] at h3 ⊢
  exact ⟨h3.1, rfl⟩
theorem right_life {a : Taking} (h : rightB a = true) : 1 ≤ a.2.2.2.2.2.2.2.1 ∧ a.2.2.2.2.2.2.2.1 ≤ 65536 := by
  obtain ⟨h1, h2, h3⟩ := right_iff.1 h
  simp only [postB, inB, Bool.and_eq_true, decide_eq_true_eq] at h3
  omega
theorem take_four (b1 b2 b3 : Int) (b4 : List Int) (b5 : List Claim) (b6 b8 b9 now : Int) (x : Segment) : takeF (b1, b2, b3, b4, b5, b6, 4, b8, b9) x now = ((b1, b2, b3, b4, b5, b6, 4, b8, now + b8), if x.1 = 4 then [(5, b1, b2, 0, 0, 0, 0, 0, 0, 0, false, [], [])] else []) := by
  unfold takeF
  by_cases k1 : x.1 = 1
  · rw [if_pos k1, if_neg (show ¬ x.1 = 4 by omega)]
    unfold dataF
    rw [if_pos rfl]
  · rw [if_neg k1]
    by_cases k4 : x.1 = 4
    · rw [if_pos k4, if_pos k4]; rfl
    · rw [if_neg k4, if_neg k4]
theorem l7 (now : Int) (xs : List Segment) (b1 b2 b3 : Int) (b4 : List Int) (b5 : List Claim) (b6 b8 : Int) (hsm : b4.length < 1000000 ∧ b5.length < 1000000) : ∀ (k i : Nat) (b9 : Int), i + k = xs.length → i ≤ 20 → rightB (b1, b2, b3, b4, b5, b6, 4, b8, b9) = true →
    ∃ b9' : Int, rightB (b1, b2, b3, b4, b5, b6, 4, b8, b9') = true ∧ lpU g7x0 (now, xs, (xs.length : Int), (i : Int), b1, b2, b3, b4, b5, b6, 4, b8, b9) = some (.inl (now, b1, b2, b3, b4, b5, b6, 4, b8, b9'))
  | 0, i, b9, hi, h20, hr => by
    have hd : decide ((i : Int) < (xs.length : Int)) = false := decide_eq_false (by omega)
    exact ⟨b9, hr, lp_end (by simp only [g7x0, hd, Bool.false_eq_true, if_false])⟩
  | k + 1, i, b9, hi, h20, hr => by
    have hd : decide ((i : Int) < (xs.length : Int)) = true := decide_eq_true (by omega)
    have h1 : i < xs.length := by omega
    obtain ⟨x, hx⟩ : ∃ x, xs[i] = x := ⟨_, rfl⟩
    cases hq : (if ((i : Int) == 20) = true then true else h9 (b1, b2, b3, b4, b5, b6, 4, b8, b9) x) with
    | true => exact ⟨b9, hr, lp_end (by simp only [g7x0, hd, if_true, idx_some' h1, hx, Option.bind_some, hq])⟩
    | false =>
      have hne : ((i : Int) == 20) = false := by
        cases h : ((i : Int) == 20) with
        | false => rfl
        | true => rw [h, if_pos rfl] at hq; cases hq
      have h9f : h9 (b1, b2, b3, b4, b5, b6, 4, b8, b9) x = false := by rw [hne] at hq; exact hq
      have hi20 : i < 20 := by
        have : (i : Int) ≠ 20 := by simpa using hne
        omega
      obtain ⟨sa, sx⟩ := small_of h9f
      have hl := right_life hr
      simp only at hl
      have ht := w19 (b1, b2, b3, b4, b5, b6, 4, b8, b9) x now sa sx
      rw [if_pos hr, take_four] at ht
      by_cases hc : segOk x = true ∧ x.2.1 = b1 ∧ x.2.2.1 = b2 ∧ fwdB x = true ∧ 0 ≤ now ∧ now ≤ 1048576
      · rw [if_pos hc] at ht
        have hr' := right_due (n := now + b8) hr (by omega)
        obtain ⟨b9', h2, h3⟩ := l7 now xs b1 b2 b3 b4 b5 b6 b8 hsm k (i + 1) (now + b8) (by omega) (by omega) hr'
        refine ⟨b9', h2, ?_⟩
        rw [← h3]
        refine lp_next ?_
        simp only [g7x0, hd, if_true, idx_some' h1, hx, Option.bind_some, hq, ht, bne_self_eq_false, Bool.false_eq_true, if_false, Bool.not_false, wnext (show i < 1000000000000 by omega)]
        by_cases k4 : x.1 = 4
        · have e4 : (x.1 == 4) = true := by simpa using k4
          have e4' : (x.1 != 4) = false := by simpa using k4
          simp only [k4, e4, e4', if_true]
          rfl
        · have e4 : (x.1 == 4) = false := by simpa using k4
          have e4' : (x.1 != 4) = true := by simpa using k4
          simp only [k4, e4, e4', if_false, if_true]
          rfl
      · rw [if_neg hc] at ht
        obtain ⟨b9', h2, h3⟩ := l7 now xs b1 b2 b3 b4 b5 b6 b8 hsm k (i + 1) b9 (by omega) (by omega) hr
        refine ⟨b9', h2, ?_⟩
        rw [← h3]
        refine lp_next ?_
        have hz : ((2 : Int) != 0) = true := by decide
        simp only [g7x0, hd, if_true, idx_some' h1, hx, Option.bind_some, hq, ht, hz, Bool.false_eq_true, if_false, wnext (show i < 1000000000000 by omega)]
theorem tm_rng (z m : Int) (hm : 0 < m) : 0 ≤ (if (0 : Int) > z then (0 : Int) else z).tmod m ∧ (if (0 : Int) > z then (0 : Int) else z).tmod m < m := by
  have h0 : 0 ≤ (if (0 : Int) > z then (0 : Int) else z) := by split <;> omega
  exact ⟨Int.tmod_nonneg _ h0, Int.tmod_lt_of_pos _ hm⟩
theorem tick_four (b1 b2 b3 : Int) (b4 : List Int) (b5 : List Claim) (b6 b8 b9 now : Int) : tickF (b1, b2, b3, b4, b5, b6, 4, b8, b9) now = ((b1, b2, b3, b4, b5, b6, 4, b8, b9), []) := by
  unfold tickF
  rw [if_pos (.inr rfl)]
theorem w7 (a : Taking) (xs : List Segment) (now : Int) : g7 a xs now = some true := by
  unfold g7
  rw [w8, Option.bind_some]
  simp only [Bool.not_true, Bool.false_eq_true, if_false]
  show (if (!h9 a ZS) = true then g16 a else some 0).bind (fun y4 => if (if h9 a ZS = true then true else (y4 != 0)) = true then some true else _) = _
  cases hl : h9 a ZS with
  | true => rfl
  | false =>
    have ha := (small_of hl).1
    rw [Bool.not_false, if_pos rfl, w16 a ha, Option.bind_some]
    cases hr : rightB a with
    | false => rfl
    | true =>
      obtain ⟨b1, b2, b3, b4, b5, b6, b7, b8, b9⟩ := a
      have hr4 := right_four hr
      obtain ⟨b9', h2, h3⟩ := l7 now xs b1 b2 b3 b4 b5 b6 b8 ⟨ha.b, ha.g⟩ xs.length 0 b9 (by omega) (by omega) hr4
      rw [show ((0 : Nat) : Int) = 0 from rfl] at h3
      simp only [Bool.false_eq_true, if_false, if_true, bne_self_eq_false, h3, Option.bind_some]
      have htm := tm_rng now 1048576 (by omega)
      rw [w26 (b1, b2, b3, b4, b5, b6, 4, b8, b9') _ ⟨ha.b, ha.g⟩, if_pos h2, if_pos ⟨htm.1, by omega⟩, Option.bind_some]
      rw [tick_four]
      rfl
end Go.Proofs.Ytmbhpchkhilheaa.Ev.U
namespace Go.Proofs.Ytmbhpchkhilheaa.Ev
open Go

/-- A list in a mode; q: it is nil as long as it is empty. -/
def lst (m : Mode) (z : Nat) (q : Bool) (xs : List D) : D := if (q && xs.isEmpty) = true then .sl .nl 0 [] else .sl m z xs
theorem lst_f {m : Mode} {z : Nat} {xs : List D} : lst m z false xs = .sl m z xs := by simp [lst]
def aggE (P : Program) (t : TypeId) : Bool := match P.underlying t with
  | some (.struct _) => true
  | some (.array _ _) => true
  | _ => false
/-- A value of a type, of its cells. -/
def mkV (P : Program) (t : TypeId) (ds : List D) : D := if aggE P t = true then .agg ds else ds.headD .u

/-- The cells of a value of a type. -/
inductive RD (P : Program) : TypeId → List D → Prop
  | bool (t : TypeId) (b : Bool) (h : P.underlying t = some .bool) : RD P t [.v (.bool b)]
  | int (t : TypeId) (k : IntKind) (n : Int) (h : P.underlying t = some (.int k)) (hw : (Lit.int k n).wf = true) : RD P t [.v (.int k n)]
  | str (t : TypeId) (s : ByteArray) (h : P.underlying t = some .string) (hs : s.size ≤ maxLen) : RD P t [.v (.string s)]
  | sl (t e : TypeId) (q : Bool) (xs : List (List D)) (h : P.underlying t = some (.slice e)) (hn : xs.length ≤ maxLen) (hx : ∀ (i : Nat) x, xs[i]? = some x → RD P e x) : RD P t [lst .ro (P.cellsOf e) q (xs.map (mkV P e))]
  | st (t : TypeId) (fs : Array Field) (xs : List (List D)) (h : P.underlying t = some (.struct fs)) (hl : xs.length = fs.size) (hx : ∀ (i : Nat) f x, fs[i]? = some f → xs[i]? = some x → RD P f.type x) : RD P t xs.flatten
  | arr (t e : TypeId) (n : Nat) (xs : List (List D)) (h : P.underlying t = some (.array n e)) (hl : xs.length = n) (hx : ∀ (i : Nat) x, xs[i]? = some x → RD P e x) : RD P t xs.flatten

section
variable {P : Program} {t e : TypeId} {ds : List D}
theorem RD.und (h : RD P t ds) : (∃ b, P.underlying t = some .bool ∧ ds = [.v (.bool b)]) ∨ (∃ k n, P.underlying t = some (.int k) ∧ (Lit.int k n).wf = true ∧ ds = [.v (.int k n)]) ∨ (∃ s, P.underlying t = some .string ∧ s.size ≤ maxLen ∧ ds = [.v (.string s)]) ∨
    (∃ (e : TypeId) (q : Bool) (xs : List (List D)), P.underlying t = some (.slice e) ∧ (xs.length ≤ maxLen ∧ ∀ (i : Nat) x, xs[i]? = some x → RD P e x) ∧ ds = [lst .ro (P.cellsOf e) q (xs.map (mkV P e))]) ∨
    (∃ (fs : Array Field) (xs : List (List D)), P.underlying t = some (.struct fs) ∧ xs.length = fs.size ∧ (∀ (i : Nat) f x, fs[i]? = some f → xs[i]? = some x → RD P f.type x) ∧ ds = xs.flatten) ∨
    (∃ (n : Nat) (e : TypeId) (xs : List (List D)), P.underlying t = some (.array n e) ∧ xs.length = n ∧ (∀ (i : Nat) x, xs[i]? = some x → RD P e x) ∧ ds = xs.flatten) := by
  cases h with
  | bool _ b h => exact .inl ⟨b, h, rfl⟩
  | int _ k n h hw => exact .inr (.inl ⟨k, n, h, hw, rfl⟩)
  | str _ s h hs => exact .inr (.inr (.inl ⟨s, h, hs, rfl⟩))
  | sl _ e q xs h hn hx => exact .inr (.inr (.inr (.inl ⟨e, q, xs, h, ⟨hn, hx⟩, rfl⟩)))
  | st _ fs xs h hl hx => exact .inr (.inr (.inr (.inr (.inl ⟨fs, xs, h, hl, hx, rfl⟩))))
  | arr _ e n xs h hl hx => exact .inr (.inr (.inr (.inr (.inr ⟨n, e, xs, h, hl, hx, rfl⟩))))
theorem RD.bool' (hu : P.underlying t = some .bool) (hh : RD P t ds) : ∃ b, ds = [.v (.bool b)] := by
  rcases hh.und with ⟨b, h, hw⟩ | ⟨k', n, h, hw⟩ | ⟨s, h, hw⟩ | ⟨e', q, xs, h, hw⟩ | ⟨fs', xs, h, hw⟩ | ⟨n', e', xs, h, hw⟩ <;> rw [hu] at h <;> cases h
  exact ⟨b, hw⟩
theorem RD.int' {k : IntKind} (hu : P.underlying t = some (.int k)) (hh : RD P t ds) : ∃ n, (Lit.int k n).wf = true ∧ ds = [.v (.int k n)] := by
  rcases hh.und with ⟨b, h, hw⟩ | ⟨k', n, h, hw⟩ | ⟨s, h, hw⟩ | ⟨e', q, xs, h, hw⟩ | ⟨fs', xs, h, hw⟩ | ⟨n', e', xs, h, hw⟩ <;> rw [hu] at h <;> cases h
  exact ⟨n, hw⟩
theorem RD.str' (hu : P.underlying t = some .string) (hh : RD P t ds) : ∃ s, s.size ≤ maxLen ∧ ds = [.v (.string s)] := by
  rcases hh.und with ⟨b, h, hw⟩ | ⟨k', n, h, hw⟩ | ⟨s, h, hw⟩ | ⟨e', q, xs, h, hw⟩ | ⟨fs', xs, h, hw⟩ | ⟨n', e', xs, h, hw⟩ <;> rw [hu] at h <;> cases h
  exact ⟨s, hw⟩
theorem RD.sl' (hu : P.underlying t = some (.slice e)) (hh : RD P t ds) : ∃ (q : Bool) (xs : List (List D)), (xs.length ≤ maxLen ∧ ∀ x, x ∈ xs → RD P e x) ∧ ds = [lst .ro (P.cellsOf e) q (xs.map (mkV P e))] := by
  rcases hh.und with ⟨b, h, hw⟩ | ⟨k', n, h, hw⟩ | ⟨s, h, hw⟩ | ⟨e', q, xs, h, hw⟩ | ⟨fs', xs, h, hw⟩ | ⟨n', e', xs, h, hw⟩ <;> rw [hu] at h <;> cases h
  exact ⟨q, xs, ⟨hw.1.1, fun x hm => by obtain ⟨i, hi⟩ := List.mem_iff_getElem?.1 hm; exact hw.1.2 i x hi⟩, hw.2⟩
theorem RD.st' {fs : Array Field} (hu : P.underlying t = some (.struct fs)) (hh : RD P t ds) : ∃ xs : List (List D), xs.length = fs.size ∧ (∀ (i : Nat) f x, fs[i]? = some f → xs[i]? = some x → RD P f.type x) ∧ ds = xs.flatten := by
  rcases hh.und with ⟨b, h, hw⟩ | ⟨k', n, h, hw⟩ | ⟨s, h, hw⟩ | ⟨e', q, xs, h, hw⟩ | ⟨fs', xs, h, hw⟩ | ⟨n', e', xs, h, hw⟩ <;> rw [hu] at h <;> cases h
  exact ⟨xs, hw⟩
theorem RD.arr' {n : Nat} (hu : P.underlying t = some (.array n e)) (hh : RD P t ds) : ∃ xs : List (List D), xs.length = n ∧ (∀ (i : Nat) x, xs[i]? = some x → RD P e x) ∧ ds = xs.flatten := by
  rcases hh.und with ⟨b, h, hw⟩ | ⟨k', n, h, hw⟩ | ⟨s, h, hw⟩ | ⟨e', q, xs, h, hw⟩ | ⟨fs', xs, h, hw⟩ | ⟨n', e', xs, h, hw⟩ <;> rw [hu] at h <;> cases h
  exact ⟨xs, hw⟩
theorem lst_cells {m : Mode} {z : Nat} {q : Bool} {xs : List D} : (lst m z q xs).cells = [lst m z q xs] := by unfold lst; split <;> rfl
theorem mkV_cells (hh : RD P t ds) : (mkV P t ds).cells = ds := by
  rcases hh.und with ⟨_, h, rfl⟩ | ⟨k', n, h, hw, rfl⟩ | ⟨_, h, _, rfl⟩ | ⟨_, q, xs, h, hx, rfl⟩ | ⟨_, xs, h, hl, hx, rfl⟩ | ⟨_, _, xs, h, hl, hx, rfl⟩ <;> simp only [mkV, aggE, h, Bool.false_eq_true, ↓reduceIte, List.headD_cons]
  · rfl
  · rfl
  · rfl
  · exact lst_cells
  · rfl
  · rfl
end

/-- The types that are read. -/
def contig (P : Program) : Nat → List Field → Nat → Bool
  | o, [], n => o == n
  | o, f :: fs, n => f.offset == o && contig P (o + P.cellsOf f.type) fs n
def okTy (P : Program) : Nat → TypeId → Bool
  | 0, _ => false
  | k + 1, t => match P.underlying t with
    | some .bool => true
    | some (.int _) => true
    | some .string => true
    | some (.slice e) => okTy P k e && decide (0 < P.cellsOf e)
    | some (.struct fs) => contig P 0 fs.toList (P.cellsOf t) && fs.toList.all fun f => okTy P k f.type
    | some (.array n e) => okTy P k e && P.cellsOf t == n * P.cellsOf e
    | _ => false

section
variable {H : Type} {enc : TypeId × Value → H} {P : Program} {w : World} {base : Nat} {sp : Nat → Bool} {held : Bool} {fr : Nat → Nat}
/-- Cells, told. -/
def Tl (w : World) (fr : Nat → Nat) (cs : List Value) (ds : List D) : Prop := ds.length = cs.length ∧ ∀ (i : Nat) v c, cs[i]? = some v → ds[i]? = some c → RF w fr v c
theorem Tl.one {v : Value} {d : D} (h : RF w fr v d) : Tl w fr [v] [d] := ⟨rfl, fun i v' c h1 h2 => by
  cases i with
  | zero => simp at h1 h2; subst h1 h2; exact h
  | succ i => simp at h1⟩
theorem Tl.app {a b : List Value} {x y : List D} (h : Tl w fr a x) (k : Tl w fr b y) : Tl w fr (a ++ b) (x ++ y) := by
  refine ⟨by rw [List.length_append, List.length_append, h.1, k.1], fun i v c h1 h2 => ?_⟩
  rcases Nat.lt_or_ge i a.length with hi | hi
  · rw [List.getElem?_append_left hi] at h1
    rw [List.getElem?_append_left (by rw [h.1]; exact hi)] at h2
    exact h.2 i v c h1 h2
  · rw [List.getElem?_append_right hi] at h1
    rw [List.getElem?_append_right (by rw [h.1]; exact hi), h.1] at h2
    exact k.2 _ v c h1 h2
theorem tl_fields {Q : TypeId → List D → Prop} {cs : List Value} : ∀ (fs : List Field) (o : Nat), contig P o fs cs.length = true → (∀ f ∈ fs, ∃ ds, Q f.type ds ∧ Tl w fr ((cs.drop f.offset).take (P.cellsOf f.type)) ds) →
    ∃ xs : List (List D), xs.length = fs.length ∧ (∀ (i : Nat) f x, fs[i]? = some f → xs[i]? = some x → Q f.type x) ∧ Tl w fr (cs.drop o) xs.flatten
  | [], o, h, _ => by
    simp only [contig, beq_iff_eq] at h
    refine ⟨[], rfl, fun i f x h => by simp at h, ?_⟩
    rw [h, List.drop_length]
    exact ⟨rfl, fun i v c h => by simp at h⟩
  | f :: fs, o, h, hf => by
    simp only [contig, Bool.and_eq_true, beq_iff_eq] at h
    obtain ⟨ho, h⟩ := h
    obtain ⟨ds, h1, h2⟩ := hf f (List.mem_cons_self ..)
    obtain ⟨xs, h3, h4, h5⟩ := tl_fields fs _ h (fun g hg => hf g (List.mem_cons_of_mem _ hg))
    refine ⟨ds :: xs, by simp [h3], fun i g x hg hx => ?_, ?_⟩
    · cases i with
      | zero => simp at hg hx; subst hg hx; exact h1
      | succ i => simp at hg hx; exact h4 i g x hg hx
    · rw [ho] at h2
      have e : cs.drop o = (cs.drop o).take (P.cellsOf f.type) ++ cs.drop (o + P.cellsOf f.type) := by rw [← List.drop_drop, List.take_append_drop]
      rw [e, List.flatten_cons]
      exact h2.app h5
theorem tl_elems {Q : List D → Prop} {cs : List Value} {z : Nat} : ∀ (m o : Nat), cs.length = (o + m) * z → (∀ i, o ≤ i → i < o + m → ∃ ds, Q ds ∧ Tl w fr ((cs.drop (i * z)).take z) ds) →
    ∃ xs : List (List D), xs.length = m ∧ (∀ (i : Nat) x, xs[i]? = some x → Q x) ∧ Tl w fr (cs.drop (o * z)) xs.flatten
  | 0, o, h, _ => by
    refine ⟨[], rfl, fun i x h => by simp at h, ?_⟩
    rw [Nat.add_zero] at h
    rw [← h, List.drop_length]
    exact ⟨rfl, fun i v c h => by simp at h⟩
  | m + 1, o, h, hf => by
    obtain ⟨ds, h1, h2⟩ := hf o (Nat.le_refl _) (by omega)
    obtain ⟨xs, h3, h4, h5⟩ := tl_elems m (o + 1) (by rw [h]; congr 1; omega) (fun i h1 h2 => hf i (by omega) (by omega))
    refine ⟨ds :: xs, by simp [h3], fun i x hx => ?_, ?_⟩
    · cases i with
      | zero => simp at hx; subst hx; exact h1
      | succ i => simp at hx; exact h4 i x hx
    · have e : cs.drop (o * z) = (cs.drop (o * z)).take z ++ cs.drop ((o + 1) * z) := by rw [Nat.add_mul, Nat.one_mul, ← List.drop_drop, List.take_append_drop]
      rw [e, List.flatten_cons]
      exact h2.app h5

theorem cells?_get {base : Nat} {a : Addr} {n : Nat} {vs : List Value} (h : w.cells? base a n = some vs) : vs.length = n ∧ ∀ i, i < n → w.cell? (a.add i) = vs[i]? := by
  unfold World.cells? at h
  split at h
  · refine ⟨by simpa using mapM_some_length h, fun i hi => ?_⟩
    exact mapM_some_get h i i (by rw [List.getElem?_range hi])
  · cases h
theorem spot_of {a : Addr} {k : Nat} {v : Value} (h : w.cell? (a.add 0) = some v) : a.spot = none := by
  simp only [Addr.add, ↓reduceIte] at h
  unfold World.cell? at h
  split at h
  · split at h
    · cases h
    · rename_i hs
      cases hq : a.spot with
      | none => rfl
      | some _ => rw [hq] at hs; exact absurd rfl hs
  · cases h

/-- What is read, is told. -/
theorem read_tl (hsp : ∀ b, sp b = true) (hfr : ∀ b o, (w.cell? ⟨b, o, none⟩).isSome → o < fr b) : ∀ (k : Nat) (t : TypeId), okTy P k t = true → ∀ (n : Nat) (cs : List Value) (x : DataW H × List MemPlace), DataW.trod enc P w base sp held n t cs = some x → ∃ ds, RD P t ds ∧ Tl w fr cs ds
  | 0, _, h => by cases h
  | k + 1, t, h => by
    intro n cs x hx
    unfold okTy at h
    split at h
    · rename_i hu
      obtain ⟨b, rfl, _⟩ := DataW.trod_bool hu hx
      exact ⟨_, .bool t b hu, .one (.v _ rfl)⟩
    · rename_i hu
      obtain ⟨m, rfl, _, hw⟩ := DataW.trod_int hu hx
      exact ⟨_, .int t _ m hu hw, .one (.v _ rfl)⟩
    · rename_i hu
      obtain ⟨s, rfl, _, hs⟩ := DataW.trod_string hu hx
      exact ⟨_, .str t s hu hs, .one (.v _ rfl)⟩
    · rename_i e hu
      rw [Bool.and_eq_true, decide_eq_true_eq] at h
      obtain ⟨h, hz⟩ := h
      rcases DataW.trod_slice hu hx with ⟨rfl, _⟩ | ⟨a, len, cap, elems, rest, m, _, rfl, _, _, hlc, hcap, hlen, hel, hrest, _⟩
      · refine ⟨_, .sl t e true [] hu (Nat.zero_le _) (fun i x h => by simp at h), .one ?_⟩
        exact .nl 0
      · have each : ∀ i, i < len → ∃ vs ds, (∀ j, j < P.cellsOf e → w.cell? ((a.add (i * P.cellsOf e)).add j) = vs[j]?) ∧ vs.length = P.cellsOf e ∧ RD P e ds ∧ Tl w fr vs ds := by
          intro i hi
          have h1 := hel i hi
          rw [List.getElem?_eq_getElem (by omega)] at h1
          cases hc : w.cells? base (a.add (i * P.cellsOf e)) (P.cellsOf e) with
          | none => rw [hc] at h1; cases h1
          | some vs =>
            rw [hc] at h1
            obtain ⟨ds, h2, h3⟩ := read_tl hsp hfr k e h m vs _ h1
            obtain ⟨h4, h5⟩ := cells?_get hc
            exact ⟨vs, ds, h5, h4, h2, h3⟩
        have all : ∃ xs : List (List D), xs.length = len ∧ ∀ (i : Nat) x, xs[i]? = some x → RD P e x ∧ ∃ vs : List Value, (∀ j, j < P.cellsOf e → w.cell? ((a.add (i * P.cellsOf e)).add j) = vs[j]?) ∧ vs.length = P.cellsOf e ∧ Tl w fr vs x := by
          clear hx hel hlen hlc hcap hrest
          induction len with
          | zero => exact ⟨[], rfl, fun i x h => by simp at h⟩
          | succ len ih =>
            obtain ⟨xs, h1, h2⟩ := ih (fun i hi => each i (by omega))
            obtain ⟨vs, ds, h3, h4, h5, h6⟩ := each len (by omega)
            refine ⟨xs ++ [ds], by simp [h1], fun i x hx => ?_⟩
            rcases Nat.lt_trichotomy i xs.length with hi | hi | hi
            · rw [List.getElem?_append_left hi] at hx; exact h2 i x hx
            · rw [List.getElem?_append_right (by omega), hi, Nat.sub_self] at hx
              simp at hx
              subst hx
              rw [hi, h1]
              exact ⟨h5, vs, h3, h4, h6⟩
            · rw [List.getElem?_append_right (by omega)] at hx
              have : i - xs.length ≠ 0 := by omega
              cases hk : i - xs.length with
              | zero => omega
              | succ q => rw [hk] at hx; simp at hx
        obtain ⟨xs, h1, h2⟩ := all
        refine ⟨_, .sl t e false xs hu (by omega) (fun i x hx => (h2 i x hx).1), .one ?_⟩
        rw [lst_f]
        rcases Nat.eq_zero_or_pos len with h0 | h0
        · subst h0
          obtain rfl : xs = [] := List.eq_nil_of_length_eq_zero h1
          rcases Nat.eq_zero_or_pos cap with c0 | c0
          · subst c0
            exact .z a _
          · obtain ⟨r1, r2⟩ := hrest (hsp _)
            have r3 := r2 0 (by omega)
            rw [List.getElem?_eq_getElem (by omega)] at r3
            cases hc : w.cells? base (a.add ((0 + 0) * P.cellsOf e)) (P.cellsOf e) with
            | none => rw [hc] at r3; cases r3
            | some vs =>
              obtain ⟨h4, h5⟩ := cells?_get hc
              have h6 := h5 0 hz
              rw [List.getElem?_eq_getElem (by omega), Nat.add_zero, Nat.zero_mul] at h6
              have hsp' : a.spot = none := spot_of (k := 0) (by simpa [Addr.add] using h6)
              obtain ⟨b, off, s⟩ := a
              simp only at hsp'
              subst hsp'
              exact .ro b off cap _ [] (fun _ _ => undef) (Nat.zero_le _) hcap (.inl rfl) (fun i d h => by simp at h) (fun i d j c h => by simp at h) (fun i d j c h => by simp at h)
        obtain ⟨x0, hx0⟩ : ∃ x0, xs[0]? = some x0 := ⟨_, List.getElem?_eq_getElem (by omega)⟩
        obtain ⟨_, v0, h3, h4, _⟩ := h2 0 x0 hx0
        have hsp : a.spot = none := by
          have := h3 0 hz
          rw [List.getElem?_eq_getElem (by omega), Nat.zero_mul] at this
          exact spot_of (k := 0) (by simpa [Addr.add] using this)
        obtain ⟨b, off, s⟩ := a
        simp only at hsp
        subst hsp
        simp only [add_lit] at h2
        have hcell : ∀ (i : Nat) d (j : Nat) c, (xs.map (mkV P e))[i]? = some d → d.cells[j]? = some c → ∃ v, w.cell? ⟨b, off + i * P.cellsOf e + j, none⟩ = some v ∧ RF w fr v c := by
          intro i d j c hd hj
          rw [List.getElem?_map] at hd
          cases hxi : xs[i]? with
          | none => rw [hxi] at hd; cases hd
          | some x =>
            rw [hxi] at hd
            injection hd with hd
            subst hd
            obtain ⟨g1, vs, g2, g3, g4⟩ := h2 i x hxi
            rw [mkV_cells g1] at hj
            have hjl := getq_lt hj
            rw [g4.1, g3] at hjl
            have hv : vs[j]? = some vs[j] := List.getElem?_eq_getElem (by omega)
            exact ⟨vs[j], by rw [g2 j hjl, hv], g4.2 j _ c hv hj⟩
        have hcl : ∀ (i : Nat) d, (xs.map (mkV P e))[i]? = some d → d.cells.length = P.cellsOf e := by
          intro i d hd
          rw [List.getElem?_map] at hd
          cases hxi : xs[i]? with
          | none => rw [hxi] at hd; cases hd
          | some x =>
            rw [hxi] at hd
            injection hd with hd
            subst hd
            obtain ⟨g1, vs, g2, g3, g4⟩ := h2 i x hxi
            rw [mkV_cells g1, g4.1, g3]
        have hml : (xs.map (mkV P e)).length = len := by rw [List.length_map, h1]
        rw [← hml]
        refine .ro b off cap _ _ (fun i j => (w.cell? ⟨b, off + i * P.cellsOf e + j, none⟩).getD undef) (by omega) hcap (.inr ?_) hcl (fun i d j c hd hj => ?_) (fun i d j c hd hj => ?_)
        · rw [hml]
          obtain ⟨d, hd⟩ : ∃ d, (xs.map (mkV P e))[len - 1]? = some d := ⟨_, List.getElem?_eq_getElem (by omega)⟩
          obtain ⟨c, hc⟩ : ∃ c, d.cells[P.cellsOf e - 1]? = some c := ⟨_, List.getElem?_eq_getElem (by rw [hcl _ _ hd]; omega)⟩
          obtain ⟨v, hv, _⟩ := hcell _ _ _ _ hd hc
          have := hfr b (off + (len - 1) * P.cellsOf e + (P.cellsOf e - 1)) (by rw [hv]; rfl)
          have e1 : len * P.cellsOf e = (len - 1) * P.cellsOf e + P.cellsOf e := by
            conv => lhs; rw [show len = (len - 1) + 1 by omega, Nat.add_mul, Nat.one_mul]
          omega
        · obtain ⟨v, hv, _⟩ := hcell _ _ _ _ hd hj
          rw [hv]; rfl
        · obtain ⟨v, hv, hr⟩ := hcell _ _ _ _ hd hj
          rw [hv]; exact hr
    · rename_i fs hu
      rw [Bool.and_eq_true] at h
      obtain ⟨hc, hall⟩ := h
      obtain ⟨ys, m, _, _, hl, hys, hf⟩ := DataW.trod_struct hu hx
      rw [← hl] at hc
      obtain ⟨xs, h1, h2, h3⟩ := tl_fields (P := P) (w := w) (fr := fr) (Q := RD P) (cs := cs) fs.toList 0 hc (fun f hm => by
        obtain ⟨i, hi⟩ := List.mem_iff_getElem?.1 hm
        have hi' : fs[i]? = some f := by rw [← Array.getElem?_toList]; exact hi
        have h4 := hf i f hi'
        rw [List.getElem?_eq_getElem (by rw [hys]; exact (Array.getElem?_eq_some_iff.1 hi').1)] at h4
        exact read_tl hsp hfr k f.type (List.all_eq_true.1 hall f hm) m _ _ h4)
      refine ⟨_, .st t fs xs hu (by rw [h1]; rfl) (fun i f x hf hx => h2 i f x (by rw [Array.getElem?_toList]; exact hf) hx), ?_⟩
      simpa using h3
    · rename_i m e hu
      rw [Bool.and_eq_true, beq_iff_eq] at h
      obtain ⟨h, hz⟩ := h
      obtain ⟨ys, m', _, _, hl, hys, hf⟩ := DataW.trod_array hu hx
      obtain ⟨xs, h1, h2, h3⟩ := tl_elems (w := w) (fr := fr) (Q := RD P e) (cs := cs) (z := P.cellsOf e) m 0 (by rw [hl, hz, Nat.zero_add]) (fun i _ hi => by
        have h4 := hf i (by omega)
        rw [List.getElem?_eq_getElem (by omega)] at h4
        exact read_tl hsp hfr k e h m' _ _ h4)
      refine ⟨_, .arr t e m xs hu h1 h2, ?_⟩
      simpa using h3
    · cases h
end
end Go.Proofs.Ytmbhpchkhilheaa.Ev
namespace Go.Proofs.Ytmbhpchkhilheaa.Ev
open Go Go.RowKit

def g0 (w : World) : G := ⟨w.heap.size, fun _ _ => none, fun b => match w.heap[b]? with | some (.cells cs _ _) => cs.size | _ => 0, fun _ => none, fun _ => false⟩
theorem fr0 {w : World} (b o : Nat) (h : (w.cell? ⟨b, o, none⟩).isSome) : o < (g0 w).fr b := by
  unfold World.cell? at h
  simp only [Option.isSome_none, Bool.false_eq_true, ↓reduceIte] at h
  simp only [g0]
  split at h
  · rename_i hb
    rw [hb]
    simp only
    exact (Array.getElem?_eq_some_iff.1 (Option.isSome_iff_exists.1 h).choose_spec).1
  · cases h
theorem inv0 (w : World) : Inv (g0 w) w where
  base := Nat.le_refl _
  fresh b hb := by
    refine ⟨?_, rfl⟩
    simp only [g0]
    rw [Array.getElem?_eq_none hb]
  box f s b h := by cases h
  inj f s f' s' b h := by cases h
  tk b l h := by cases h
  cells b o h := by
    simp only [g0] at h
    split at h
    · rename_i hb
      unfold World.cell?
      simp only [hb, Option.isSome_none, Bool.false_eq_true, ↓reduceIte]
      rw [Array.getElem?_eq_getElem h]; rfl
    · cases h
  dm b h := by cases h
  dt b h := by cases h
theorem sb0 (w : World) : SB (g0 w) w [] where
  rel f s ds h := by simp [bxl] at h
  dom f s h := by cases h
  bnd f s ds d h := by simp [bxl] at h

section
variable {H : Type} {enc : TypeId × Value → H} {w : World} {base b0 k : Nat} {sp : Nat → Bool} {held : Bool} {t : TypeId} {v : Value} {d : DataW H} {ps : List MemPlace}
theorem open_arg (hsp : ∀ b, sp b = true) (hk : okTy PP k t = true) (hval : Value.okWide PP w .any b0 t v) (h : DataW.Trod enc PP w base sp held t v d ps) : ∃ ds, RD PP t ds ∧ ∀ L, RV (g0 w) w L v (mkV PP t ds) := by
  obtain ⟨n, h⟩ := h
  obtain ⟨ds, h1, h2⟩ := read_tl hsp (fr := (g0 w).fr) fr0 k t hk n _ _ h
  refine ⟨ds, h1, fun L => ?_⟩
  have agg : ∀ cs : Array Value, v = .agg cs → RV (g0 w) w L v (.agg ds) := by
    intro cs e
    subst e
    have e : (Value.agg cs).cells.toList = cs.toList := rfl
    rw [e] at h2
    refine ⟨cs, rfl, h2.1.symm, fun c d hc => ?_⟩
    have hl := getq_lt hc
    rw [h2.1] at hl
    have hv : cs[c]? = some cs[c] := Array.getElem?_eq_getElem hl
    exact ⟨_, hv, (h2.2 c _ _ (by rw [Array.getElem?_toList]; exact hv) hc).toRC _⟩
  have one : v.cells.toList = [v] → ∀ d', ds = [d'] → d'.aggB = false → RV (g0 w) w L v d' := by
    intro e d' e' ha
    subst e'
    rw [e] at h2
    rw [RV_ne ha]
    exact (h2.2 0 v d' rfl rfl).toRC _
  rcases h1.und with ⟨b, hu, e⟩ | ⟨k', m, hu, _, e⟩ | ⟨s, hu, _, e⟩ | ⟨e', q, xs, hu, _, e⟩ | ⟨fs, xs, hu, _, _, e⟩ | ⟨m, e', xs, hu, _, _, e⟩ <;> simp only [mkV, aggE, hu, Bool.false_eq_true, ↓reduceIte]
  · obtain ⟨x, rfl⟩ := WideShapes.okWide_bool hu hval
    rw [e]; exact one rfl _ e rfl
  · obtain ⟨x, rfl⟩ := WideShapes.okWide_int hu hval
    rw [e]; exact one rfl _ e rfl
  · obtain ⟨x, rfl⟩ := WideShapes.okWide_string hu hval
    rw [e]; exact one rfl _ e rfl
  · obtain ⟨x, l, c, rfl⟩ := WideShapes.okWide_slice hu hval
    rw [e]; exact one rfl _ e (by unfold lst; split <;> rfl)
  · simp only [Value.okWide, hu] at hval
    obtain ⟨cs, rfl, _⟩ := hval
    exact agg cs rfl
  · simp only [Value.okWide, hu] at hval
    obtain ⟨cs, rfl, _⟩ := hval
    exact agg cs rfl
end

theorem run0 {prog : Nat → Option Fn} (hp : MProg PP prog) {f : Nat} {ds : List D} {r : D} (hf : f < RL) (h : EF prog f ds [] = some (r, [])) {W : World} {vs : Array Value} (hs : vs.size = ds.length)
    (hv : ∀ (i : Nat) d, ds[i]? = some d → ∃ x, vs[i]? = some x ∧ ∀ L, RV (g0 W) W L x d) :
    Calls PP f vs W fun e W' => ∃ x g', e = .returned x ∧ RT g' W' retL x r ∧ Below W.heap.size W W' := by
  obtain ⟨_, _, h2⟩ := (EF_good hp f ds [] r [] h).1 hf
  have h3 := h2 (g0 W) W vs (inv0 W) (sb0 W) hs (fun i d hi => by
    obtain ⟨x, hx, hr⟩ := hv i d hi
    exact ⟨x, hx, hr _⟩)
  refine ((callsIn_wide (n := 0)).1 h3).mono fun e W' ⟨x, g', he, hi, _, _, hx, hr⟩ => ⟨x, g', he, hr, hx.os, hx.tape, hx.output, hx.size, hx.old⟩
end Go.Proofs.Ytmbhpchkhilheaa.Ev
namespace Go.Proofs.Ytmbhpchkhilheaa.Ev.U
open Go
/-- A cell is of a type. -/
def CellOk (P : Caller) (τ : Ty) (d : D) : Prop := τ.one = true ∧ ∃ x : τ.T, RepL P τ [] x [d]
def rowL : Ty → List Ty
  | .p a r => a :: rowL r
  | τ => [τ]
def rowKk : Ty → Bool
  | .p a r => a.one && (r.rowk && rowKk r)
  | τ => τ.one
theorem row_of {P : Caller} : ∀ (r : Ty) (ds : List D), rowKk r = true → All2 (CellOk P) (rowL r) ds → ∃ x : r.T, RepL P r [] x ds := by
  have base : ∀ (r : Ty) (ds : List D), All2 (CellOk P) [r] ds → ∃ x : r.T, RepL P r [] x ds := fun r ds h => by
    obtain ⟨d, q, rfl, ⟨_, x, hx⟩, h2⟩ := h.cons_l
    obtain rfl := h2.nil_l
    exact ⟨x, hx⟩
  intro r
  induction r with
  | p a r _ ih =>
    intro ds hk h
    simp only [rowKk, Bool.and_eq_true] at hk
    obtain ⟨d, q, rfl, ⟨_, x, hx⟩, h2⟩ := h.cons_l
    obtain ⟨y, hy⟩ := ih q hk.2.2 h2
    exact ⟨(x, y), ⟨hk.1, hk.2.1⟩, d, q, rfl, hx, hy⟩
  | _ => intro ds _ h; exact base _ ds h
/-- Types of cells, eaten from the front. -/
def manyM (cM : TypeId → List Ty → Option (List Ty)) : List TypeId → List Ty → Option (List Ty)
  | [], ts => some ts
  | t :: l, ts => (cM t ts).bind (manyM cM l)
def endM : Option (List Ty) → Bool
  | some [] => true
  | _ => false
def valM (P : Program) (cM : TypeId → List Ty → Option (List Ty)) (e : TypeId) (τ : Ty) : Bool := bif aggE P e then (match τ with
  | .g r => r.rowk && rowKk r && endM (cM e (rowL r))
  | _ => false) else τ.one && endM (cM e [τ])
def cellM (P : Program) : Nat → TypeId → List Ty → Option (List Ty)
  | 0, _, _ => none
  | k + 1, t, ts => match P.underlying t with
    | some .bool => match ts with
      | .b :: q => some q
      | _ => none
    | some (.int k1) => match ts with
      | .i k2 :: q => bif decide (k1 = k2) then some q else none
      | _ => none
    | some .string => match ts with
      | .s :: q => some q
      | _ => none
    | some (.slice e) => match ts with
      | .l .ro τ :: q => bif valM P (cellM P k) e τ && (csz τ == P.cellsOf e) then some q else none
      | _ => none
    | some (.struct fs) => manyM (cellM P k) (fs.toList.map (·.type)) ts
    | some (.array n e) => manyM (cellM P k) (List.replicate n e) ts
    | _ => none
section
variable {P : Caller}
def CM (P : Caller) (cM : TypeId → List Ty → Option (List Ty)) : Prop := ∀ t ts q, cM t ts = some q → ∀ ds, RD PP t ds → ∃ us, ts = us ++ q ∧ All2 (CellOk P) us ds
theorem many_ok {cM : TypeId → List Ty → Option (List Ty)} (h : CM P cM) : ∀ (l : List TypeId) (ts q : List Ty), manyM cM l ts = some q → ∀ xs : List (List D), xs.length = l.length → (∀ (i : Nat) t x, l[i]? = some t → xs[i]? = some x → RD PP t x) → ∃ us, ts = us ++ q ∧ All2 (CellOk P) us xs.flatten
  | [], ts, q, hm, xs, hl, hx => by
    obtain rfl : ts = q := by injection hm
    obtain rfl : xs = [] := List.eq_nil_of_length_eq_zero hl
    exact ⟨[], rfl, trivial⟩
  | t :: l, ts, q, hm, [], hl, hx => by simp at hl
  | t :: l, ts, q, hm, x :: xs, hl, hx => by
    obtain ⟨r, h1, h2⟩ := Option.bind_eq_some_iff.1 hm
    obtain ⟨us, rfl, h3⟩ := h t ts r h1 x (hx 0 t x rfl rfl)
    obtain ⟨vs, rfl, h4⟩ := many_ok h l r q h2 xs (by simpa using hl) fun i t x ht hq => hx (i + 1) t x (by simpa using ht) (by simpa using hq)
    exact ⟨us ++ vs, by simp, by rw [List.flatten_cons]; exact h3.app h4⟩
theorem end_ok {o : Option (List Ty)} (h : endM o = true) : o = some [] := by
  cases o with
  | none => cases h
  | some l => cases l with
    | nil => rfl
    | cons => cases h
theorem val_ok {cM : TypeId → List Ty → Option (List Ty)} (h : CM P cM) {e : TypeId} {τ : Ty} (hm : valM PP cM e τ = true) {ds : List D} (hr : RD PP e ds) : τ.val = true ∧ ∃ x : τ.T, RepL P τ [] x [mkV PP e ds] := by
  unfold valM at hm
  cases ha : aggE PP e with
  | true =>
    rw [ha, cond_true] at hm
    have hv : mkV PP e ds = .agg ds := by unfold mkV; rw [if_pos ha]
    rw [hv]
    cases τ with
    | g r =>
      simp only [Bool.and_eq_true] at hm
      obtain ⟨us, h1, h2⟩ := h e (rowL r) [] (end_ok hm.2) ds hr
      rw [List.append_nil] at h1
      subst h1
      obtain ⟨x, hx⟩ := row_of r ds hm.1.2 h2
      exact ⟨rfl, x, hm.1.1, ds, rfl, hx⟩
    | _ => cases hm
  | false =>
    rw [ha, cond_false, Bool.and_eq_true] at hm
    have hv : mkV PP e ds = ds.headD .u := by unfold mkV; rw [if_neg (by rw [ha]; simp)]
    obtain ⟨us, h1, h2⟩ := h e [τ] [] (end_ok hm.2) ds hr
    rw [List.append_nil] at h1
    subst h1
    obtain ⟨d, q, rfl, ⟨h3, x, hx⟩, h4⟩ := h2.cons_l
    obtain rfl := h4.nil_l
    rw [hv]
    refine ⟨?_, x, hx⟩
    cases τ <;> first | exact h3 | rfl
theorem list_ok {cM : TypeId → List Ty → Option (List Ty)} (h : CM P cM) {e : TypeId} {τ : Ty} (hm : valM PP cM e τ = true) : ∀ {xs : List (List D)}, (∀ x, x ∈ xs → RD PP e x) → ∃ l : List τ.T, l.length = xs.length ∧ All2 (fun y d => RepL P τ [] y [d]) l (xs.map (mkV PP e))
  | [], _ => ⟨[], rfl, trivial⟩
  | x :: xs, hx => by
    obtain ⟨l, h1, h2⟩ := list_ok h hm (xs := xs) fun y hy => hx y (List.mem_cons_of_mem _ hy)
    obtain ⟨_, y, hy⟩ := val_ok h hm (hx x (List.mem_cons_self ..))
    exact ⟨y :: l, by simp [h1], hy, h2⟩
theorem str_ok (s : ByteArray) : strV (s.data.toList.map fun u => ((u.toNat : Nat) : Int)) = s := by
  have : ∀ l : List UInt8, (l.map fun u => ((u.toNat : Nat) : Int)).map (fun c => UInt8.ofNat c.toNat) = l := by
    intro l
    induction l with
    | nil => rfl
    | cons u l ih => simp only [List.map_cons, ih, Int.toNat_natCast, UInt8.ofNat_toNat]
  unfold strV
  rw [this]
theorem wf_in {k : IntKind} {n : Int} (h : (Lit.int k n).wf = true) : inK k n = true := by
  simp only [Lit.wf, Bool.and_eq_true, decide_eq_true_eq] at h
  cases k <;> exact decide_eq_true h
theorem cell_ok : ∀ k, CM P (cellM PP k)
  | 0 => fun t ts q h => by cases h
  | k + 1 => fun t ts q h ds hr => by
    have ih := cell_ok k
    unfold cellM at h
    split at h
    · rename_i hu
      obtain ⟨b, rfl⟩ := hr.bool' hu
      split at h
      · injection h with h; subst h
        exact ⟨[.b], rfl, ⟨rfl, b, rfl⟩, trivial⟩
      · cases h
    · rename_i k1 hu
      obtain ⟨n, hw, rfl⟩ := hr.int' hu
      split at h
      · rename_i k2 q'
        by_cases e : k1 = k2
        · rw [decide_eq_true e, cond_true] at h
          injection h with h; subst h; subst e
          exact ⟨[.i k1], rfl, ⟨rfl, n, rfl, wf_in hw⟩, trivial⟩
        · rw [decide_eq_false e, cond_false] at h; cases h
      · cases h
    · rename_i hu
      obtain ⟨s, hs, rfl⟩ := hr.str' hu
      split at h
      · injection h with h; subst h
        refine ⟨[.s], rfl, ⟨rfl, s.data.toList.map fun u => ((u.toNat : Nat) : Int), by rw [str_ok], ?_, fun c hc => ?_⟩, trivial⟩
        · rw [List.length_map]; exact hs
        · obtain ⟨u, _, rfl⟩ := List.mem_map.1 hc
          have := u.toNat_lt
          omega
      · cases h
    · rename_i e hu
      obtain ⟨b, xs, ⟨hn, hx⟩, rfl⟩ := hr.sl' hu
      split at h
      · rename_i τ q'
        cases hc : (valM PP (cellM PP k) e τ && (csz τ == PP.cellsOf e)) with
        | false => rw [hc, cond_false] at h; cases h
        | true =>
          rw [hc, cond_true] at h
          injection h with h; subst h
          rw [Bool.and_eq_true, beq_iff_eq] at hc
          obtain ⟨l, h1, h2⟩ := list_ok ih hc.1 hx
          refine ⟨[.l .ro τ], rfl, ⟨rfl, l, by rw [h1]; exact hn, _, h2, ?_⟩, trivial⟩
          unfold lst
          rw [hc.2]
          split
          · rename_i hq
            simp only [Bool.and_eq_true, List.isEmpty_iff] at hq
            exact .inr ⟨hq.2, 0, rfl⟩
          · exact .inl rfl
      · cases h
    · rename_i fs hu
      obtain ⟨xs, hl, hx, rfl⟩ := hr.st' hu
      refine many_ok ih _ ts q h xs (by simpa using hl) fun i t x ht hq => ?_
      rw [List.getElem?_map] at ht
      cases hf : fs.toList[i]? with
      | none => rw [hf] at ht; cases ht
      | some f =>
        rw [hf] at ht
        injection ht with ht; subst ht
        exact hx i f x (by rw [← Array.getElem?_toList]; exact hf) hq
    · rename_i n e hu
      obtain ⟨xs, hl, hx, rfl⟩ := hr.arr' hu
      refine many_ok ih _ ts q h xs (by simpa using hl) fun i t x ht hq => ?_
      have := List.mem_of_getElem? ht
      obtain ⟨_, rfl⟩ := List.mem_replicate.1 this
      exact hx i x hq
    · cases h
end
/-- A value of a type, read as one. -/
theorem arg_u {P : Caller} (k : Nat) {t : TypeId} (τ : Ty) (hm : valM PP (cellM PP k) t τ = true) {ds : List D} (hr : RD PP t ds) : ∃ x : τ.T, RepL P τ [] x [mkV PP t ds] := (val_ok (cell_ok k) hm hr).2
/-- The numbers of a value are of their kinds. -/
def Wf : (τ : Ty) → τ.T → Prop
  | .i k, x => inK k x = true
  | .b, _ => True
  | .s, x => ∀ c : Int, List.Mem (α := Int) c x → 0 ≤ c ∧ c < 256
  | .l _ t, x => ∀ y : t.T, List.Mem (α := t.T) y x → Wf t y
  | .p a r, x => Wf a x.1 ∧ Wf r x.2
  | .g r, x => Wf r x
  | .t a r, x => Wf a x.1 ∧ Wf r x.2
  | .n, _ => True
  | .o _ _, _ => True
  | .fn _ _, _ => True
theorem All2.mem_l {α β : Type} {R : α → β → Prop} : ∀ {xs : List α} {ys : List β}, All2 R xs ys → ∀ x ∈ xs, ∃ y, R x y
  | [], _, _, x, h => by cases h
  | a :: xs, [], h, _, _ => h.elim
  | a :: xs, b :: ys, h, x, hx => by
    rcases List.mem_cons.1 hx with rfl | hx
    · exact ⟨b, h.1⟩
    · exact All2.mem_l h.2 x hx
theorem wf_rep {P : Caller} {F : List Fx} : ∀ {τ : Ty} {x : τ.T} {ds : List D}, RepL P τ F x ds → Wf τ x
  | .i k, x, ds, h => h.2
  | .b, x, ds, h => trivial
  | .s, x, ds, h => h.2.2
  | .l m t, x, ds, h => by
    obtain ⟨_, es, h1, _⟩ := h
    intro y hy
    obtain ⟨e, he⟩ := h1.mem_l y hy
    exact wf_rep (τ := t) he
  | .p a r, x, ds, h => by
    obtain ⟨_, d, q, _, h1, h2⟩ := h
    exact ⟨wf_rep h1, wf_rep h2⟩
  | .g r, x, ds, h => by
    obtain ⟨_, cs, _, h1⟩ := h
    exact wf_rep (τ := r) h1
  | .t a r, x, ds, h => by
    obtain ⟨_, d, q, _, h1, h2⟩ := h
    exact ⟨wf_rep h1, wf_rep h2⟩
  | .n, x, ds, h => trivial
  | .o _ _, x, ds, h => trivial
  | .fn _ _, x, ds, h => trivial
/-- A typed function without pointers, as a call. -/
theorem ef_b {P : Caller} {f : Nat} {a : AK} {ak : List AK} {F : (Sg.mk (a :: ak) .b).aT.T → Option (Sg.mk (a :: ak) .b).oT.T} (ho : TOK P f (.par ⟨a :: ak, .b⟩ F)) (hv : ∀ b ∈ a :: ak, ∃ τ, b = .v τ) (ht : (Sg.mk (a :: ak) .b).aT.tupk = true)
    {x : (Sg.mk (a :: ak) .b).aT.T} {ds : List D} (hl : ds.length = (a :: ak).length) (hr : RepL P (Sg.mk (a :: ak) .b).aT [] x ds) {y : (Sg.mk (a :: ak) .b).oT.T} (hy : F x = some y) : ∃ b : Bool, P f ds [] = some (D.v (.bool b), []) ∧ HEq y b := by
  have hw := tupW_ok (c := cz P) ht hr
  have harg := argl_v (c' := cz P) hv (by rw [← hl, hw.length]) hw
  obtain ⟨d, Y', r1, r2, r3⟩ := ho [] 0 [] (fun _ => []) [] (cz_ok P) (fun i r ys h => by simp at h) x ds harg y hy
  have hrun : P f ds [] = some (d, []) := by
    have := r3 [] ⟨rfl, Sat.nil [], (fun r h => by cases h), (fun i r h => by simp at h)⟩ (fun i r ys h => by simp at h)
    rw [this]
    cases Y' <;> rfl
  have key : ∀ {xk : List Ty} {z : (oTy .b xk).T}, xk = [] → Rep4 (c0 P) (outW .b xk z).1 d → ∃ b : Bool, d = D.v (.bool b) ∧ HEq z b := by
    intro xk z hx hrep
    subst hx
    obtain rfl := b_d hrep.2
    exact ⟨z, rfl, HEq.rfl⟩
  obtain ⟨b, rfl, hb⟩ := key (xs_v hv) r1
  exact ⟨b, hrun, hb⟩
end Go.Proofs.Ytmbhpchkhilheaa.Ev.U
namespace Go.Proofs.Ytmbhpchkhilheaa.Ev
open Go Go.ChangeShapes Go.WideShapes Go.ChangeAt Go.RowKit
theorem own : ownKnob Try.prog.godebug = none := by kernel_rfl
theorem laidOut : laidOutB Try.prog = true := by kernel_rfl
theorem rtb {g : G} {w : World} {x : Value} {b : Bool} (h : RT g w retL x (.v (.bool b))) : x = .bool b := h
def vT : Value := .agg #[.int .i64 0, .int .u32 0, .int .i64 0, .slice none 0 0, .slice none 0 0, .int .u32 0, .int .i64 0, .int .i64 0, .int .i64 0]
def vS : Value := .agg #[.int .i64 0, .int .i64 0, .int .u32 0, .int .u32 0, .int .u32 0, .int .i64 0, .int .i64 0, .int .i64 0, .int .i64 0, .int .i64 0, .bool false, .slice none 0 0, .slice none 0 0]
namespace U
theorem wf_T {a : Taking} (h : Wf YTaking a) : 0 ≤ a.2.1 ∧ (0 ≤ a.2.2.2.2.2.1 ∧ a.2.2.2.2.2.1 ≤ 4294967295) := by
  have h1 : inK .u32 a.2.1 = true := h.2.1
  have h2 : inK .u32 a.2.2.2.2.2.1 = true := h.2.2.2.2.2.1
  have h1 := of_decide_eq_true h1
  have h2 := of_decide_eq_true h2
  exact ⟨h1.1, h2⟩
end U
end Go.Proofs.Ytmbhpchkhilheaa.Ev
namespace Go.Proofs.Ytmbhpchkhilheaa.Ev.U
open Go
theorem ef7 {x0 : (YTaking : Ty).T} {x1 : (.l .ro YSegment : Ty).T} {x2 : (.i .i64 : Ty).T} {d0 d1 d2 : D} (r0 : RepL (EF pg) (YTaking) [] x0 [d0]) (r1 : RepL (EF pg) (.l .ro YSegment) [] x1 [d1]) (r2 : RepL (EF pg) (.i .i64) [] x2 [d2]) : EF pg 7 [d0, d1, d2] [] = some (.v (.bool true), []) := by
  obtain ⟨r, h1, h2⟩ := ef_b (show TOK (EF pg) 7 (.par ⟨[.v (YTaking), .v (.l .ro YSegment), .v (.i .i64)], .b⟩ (fun x => g7 x.1 x.2.1 x.2.2)) from o7) (by simp) rfl (x := (x0, x1, x2)) (ds := [d0, d1, d2]) rfl ⟨⟨rfl, rfl⟩, _, _, rfl, r0, ⟨⟨rfl, rfl⟩, _, _, rfl, r1, r2⟩⟩ (w7 x0 x1 x2)
  obtain rfl := eq_of_heq h2
  exact h1
end Go.Proofs.Ytmbhpchkhilheaa.Ev.U
namespace Go.Proofs.Ytmbhpchkhilheaa
open Go Go.ChangeShapes Go.WideShapes Go.ChangeAt Go.RowKit Go.Proofs.Ytmbhpchkhilheaa.Ev
set_option maxRecDepth 100000 in
theorem lifted7 (os : Os) (started : os.Started) (H : Type) (enc : TypeId × Value → H) :
    ReturnsInHanded {} Try.checked os 7 .any (Rows.receiverOverSpec.pre6 enc Try.prog Try.f7 Rows.receiverOverRow.domain false) (Rows.receiverOverSpec.post enc Try.prog Try.f7 false true false false) := by
  refine returnsInHanded_of_change_sized (C := Try.checked) own started (by kernel_rfl) Try.func7
    (ChangeSpec.witness6 (enc := enc) (C := Try.checked) false ⟨#[], #[vT, .slice none 0 0, .int .i64 0], []⟩ 8 (by kernel_rfl) (by kernel_rfl) (by kernel_rfl) (by kernel_rfl)) ?_
  intro W base args ds gs before hval0 hW hcnd hsz0 _
  have hval : ∀ (j : Nat) t v, Try.f7.params[j]? = some t → args[j]? = some v → Value.okWide Try.prog W .any base t v := hval0
  have hW' := hW
  obtain ⟨p, q, hA0, hV, rfl, hfz, hnd⟩ := hW
  have hA : DataW.TrodAll enc Try.prog W 0 (fun _ => true) true Try.f7.params.toList args.toList ds p := hA0
  rw [Try.params7] at hA hval
  obtain ⟨v0, vs0, d0, ds0, p0, q0, hargs, rfl, rfl, h0, r0⟩ := trodAll_cons hA
  obtain ⟨v1, vs1, d1, ds1, p1, q1, rfl, rfl, rfl, h1, r1⟩ := trodAll_cons r0
  obtain ⟨v2, vs2, d2, ds2, p2, q2, rfl, rfl, rfl, h2, r2⟩ := trodAll_cons r1
  obtain ⟨rfl, rfl, rfl⟩ := trodAll_nil r2
  obtain rfl : args = #[v0, v1, v2] := by cases args; simp_all
  obtain ⟨rfl, rfl⟩ := trodVars_none hV
  have lt0 : ∀ x ∈ p0, x.block < W.heap.size := by obtain ⟨m, hm⟩ := h0; exact DataW.trod_lt m _ _ _ hm
  have lt1 : ∀ x ∈ p1, x.block < W.heap.size := by obtain ⟨m, hm⟩ := h1; exact DataW.trod_lt m _ _ _ hm
  have lt2 : ∀ x ∈ p2, x.block < W.heap.size := by obtain ⟨m, hm⟩ := h2; exact DataW.trod_lt m _ _ _ hm
  obtain ⟨c0, g0, k0⟩ := open_arg (k := 8) (fun _ => rfl) (by kernel_rfl) (hval 0 26 v0 rfl rfl) h0
  obtain ⟨c1, g1, k1⟩ := open_arg (k := 8) (fun _ => rfl) (by kernel_rfl) (hval 1 41 v1 rfl rfl) h1
  obtain ⟨c2, g2, k2⟩ := open_arg (k := 8) (fun _ => rfl) (by kernel_rfl) (hval 2 3 v2 rfl rfl) h2
  obtain ⟨x0, e0⟩ := U.arg_u (P := EF U.pg) 8 (U.YTaking) (by kernel_rfl) g0
  obtain ⟨x1, e1⟩ := U.arg_u (P := EF U.pg) 8 (.l .ro U.YSegment) (by kernel_rfl) g1
  obtain ⟨x2, e2⟩ := U.arg_u (P := EF U.pg) 8 (.i .i64) (by kernel_rfl) g2
  clear hA0 hval0 hsz0
  refine (run0 U.pg_ok (f := 7) (by decide) (U.ef7 e0 e1 e2) (W := W) (vs := #[v0, v1, v2]) rfl (fun i d hi => ?_)).mono fun e W' ⟨x, g', he, hr, bel⟩ => ?_
  · match i with
    | 0 => simp at hi; subst hi; exact ⟨v0, rfl, k0⟩
    | 1 => simp at hi; subst hi; exact ⟨v1, rfl, k1⟩
    | 2 => simp at hi; subst hi; exact ⟨v2, rfl, k2⟩
    | i + 3 => simp at hi
  · obtain rfl := rtb hr
    subst he
    exact ⟨_, rfl, _, _, _, [], _, [], hW', trodAll_mk1 (shut_bool Try.underlying4 _), trodAll_cons_mk (Below.trod laidOut (by kernel_rfl) (of_decide_eq_true (by kernel_rfl)) h0 bel lt0) (trodAll_cons_mk (Below.trod laidOut (by kernel_rfl) (of_decide_eq_true (by kernel_rfl)) h1 bel lt1) (trodAll_cons_mk (Below.trod laidOut (by kernel_rfl) (of_decide_eq_true (by kernel_rfl)) h2 bel lt2) trodAll_mk0)), rfl, bel.frame _, fun h => by cases h⟩
/-- The law ReceiverOver holds for every input. -/
theorem receiverOver_holds : Rows.ReceiverOverSaid :=
  OpenClaim.holds_of_wide 7 Try.f7 rfl rfl rfl rfl rfl rfl rfl ⟨rfl, rfl, rfl, rfl, rfl⟩ rfl rfl rfl rfl rfl (by kernel_rfl) Try.func7 (by kernel_rfl)
    (of_decide_eq_true (by kernel_rfl)) (by unfold Func.isWrapper; first | (rw [if_pos (by decide +kernel)]; kernel_rfl) | (rw [if_neg (by decide +kernel)]; exact ⟨rfl, rfl⟩))
    (fun os started H enc _ => lifted7 os started H enc)
#print axioms receiverOver_holds
end Go.Proofs.Ytmbhpchkhilheaa
