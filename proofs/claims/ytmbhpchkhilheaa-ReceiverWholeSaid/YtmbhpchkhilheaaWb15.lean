/- Layer 15: the law ReceiverWhole. Conditions: none. -/
import Derived.Test.YtmbhpchkhilheaaJ15
set_option linter.all false
namespace Go.Proofs.Ytmbhpchkhilheaa.Ev.U
open Go
theorem w38 (x : Segment) : g38 x = some (onlyF x) := by
  unfold g38 onlyF
  by_cases k1 : x.1 = 1
  · simp [k1]
  by_cases k2 : x.1 = 2
  · simp [k2]
  by_cases k3 : x.1 = 3
  · simp [k3]
  by_cases k4 : x.1 = 4
  · simp [k4]
  by_cases k6 : x.1 = 6
  · simp [k6]
  simp [k1, k2, k3, k4, k6]
theorem w20 (x : Segment) (h : SmS x) (hs : 0 ≤ x.2.2.1) : g20 x = some (segOk x) := by
  have hd := h.d
  have hc := h.c
  have hh : (if (if decide (x.2.1 < 1) = true then true else decide (x.2.1 > 6)) = true then true else (x.2.2.1 == 0)) = !headB x := by
    rw [Bool.eq_iff_iff]
    simp only [headB, inB, Bool.if_true_left, Bool.or_eq_true, decide_eq_true_eq, beq_iff_eq, Bool.not_eq_true', Bool.and_eq_false_iff, decide_eq_false_iff_not]
    omega
  simp only [g20, hh, w38, w37 x _ h, Bool.not_not]
  unfold segOk
  cases hb : headB x with
  | false => rfl
  | true =>
    simp only [if_true, Option.bind_some, Bool.not_true, Bool.false_eq_true, if_false, Bool.true_and]
    cases hq : sameS x (onlyF x) with
    | false => simp
    | true =>
      simp only [Bool.not_true, Bool.false_eq_true, if_false, Bool.and_true]
      obtain ⟨x1, x2, x3, x4, x5, x6, x7, x8, x9, x10, x11, x12, x13⟩ := x
      simp only at hd hc hs
      clear hq hh hb h
      simp only [kindB, b33']
      by_cases k1 : x1 = 1
      · subst k1
        simp only [beq_self_eq_true, if_true]
        congr 1
        show (if (if (if (if (if (if decide (x7 ≥ 1) = true then decide (x7 ≤ 512) else false) = true then decide ((x12.length : Int) ≥ 1) else false) = true then decide ((x12.length : Int) ≤ 100) else false) = true then decide (x6 ≥ 0) else false) = true then decide (x6 ≤ IntKind.i64.wrap (x7 - (x12.length : Int))) else false) = true then (x11 == decide (x4 > 0)) else false) = _
        have hin : ∀ a b c : Int, (if decide (a ≥ b) = true then decide (a ≤ c) else false) = inB a b c := fun a b c => if_and _ _
        rw [hin]
        cases q1 : inB x7 1 512 with
        | false => rfl
        | true =>
          simp only [inB, Bool.and_eq_true, decide_eq_true_eq] at q1
          rw [wi64 (by omega)]
          simp only [inB]
          show (if (if (if (if (if true = true then decide (1 ≤ (x12.length : Int)) else false) = true then _ else false) = true then decide (0 ≤ x6) else false) = true then _ else false) = true then _ else false) = _
          generalize decide (1 ≤ (x12.length : Int)) = c1, decide ((x12.length : Int) ≤ 100) = c2, decide (0 ≤ x6) = c3, decide (x6 ≤ x7 - (x12.length : Int)) = c4, (x11 == decide (x4 > 0)) = c5
          cases c1 <;> cases c2 <;> cases c3 <;> cases c4 <;> cases c5 <;> rfl
      · have e1 : (x1 == 1) = false := by simpa using k1
        simp only [e1, Bool.false_eq_true, if_false, if_neg k1]
        by_cases k2 : x1 = 2
        · subst k2
          simp only [beq_self_eq_true, if_true]
          have hx : (if (if (if (if decide (x4 > 0) = true then decide (x5 > 0) else false) = true then decide (x8 ≥ 0) else false) = true then decide (x8 < x9) else false) = true then decide (x9 ≤ 512) else false) = (decide (x4 > 0) && decide (x5 > 0) && inB x9 1 512 && inB x8 0 (x9 - 1)) := by
            simp only [inB, if_and]
            rw [Bool.eq_iff_iff]
            simp only [Bool.and_eq_true, decide_eq_true_eq, ge_iff_le, gt_iff_lt]
            constructor
            · rintro ⟨⟨⟨⟨q1, q2⟩, q3⟩, q4⟩, q5⟩
              exact ⟨⟨⟨q1, q2⟩, by omega, q5⟩, q3, by omega⟩
            · rintro ⟨⟨⟨q1, q2⟩, q3, q4⟩, q5, q6⟩
              exact ⟨⟨⟨⟨q1, q2⟩, q5⟩, by omega⟩, q4⟩
          simp only [hx]
          cases hc1 : (decide (x4 > 0) && decide (x5 > 0) && inB x9 1 512 && inB x8 0 (x9 - 1)) with
          | false => rfl
          | true =>
            simp only [inB, Bool.and_eq_true, decide_eq_true_eq] at hc1
            simp only [if_true, w39 x13 x8 x9 (by omega) (by omega) (by omega), Option.bind_some, Bool.true_and]
        · have e2 : (x1 == 2) = false := by simpa using k2
          simp only [e2, Bool.false_eq_true, if_false, if_neg k2]
          by_cases k3 : x1 = 3
          · subst k3; rfl
          · have e3 : (x1 == 3) = false := by simpa using k3
            simp only [e3, Bool.false_eq_true, if_false, if_neg k3]
            have hin : ∀ a b c : Int, (if decide (a ≥ b) = true then decide (a ≤ c) else false) = inB a b c := fun a b c => if_and _ _
            by_cases k4 : x1 = 4
            · subst k4
              simp only [beq_self_eq_true, if_true, Option.bind_some, hin, true_or]
            · have e4 : (x1 == 4) = false := by simpa using k4
              simp only [e4, Bool.false_eq_true, if_false]
              by_cases k6 : x1 = 6
              · subst k6
                simp only [beq_self_eq_true, if_true, Option.bind_some, hin, or_true]
              · have e6 : (x1 == 6) = false := by simpa using k6
                simp only [e6, Option.bind_some, Bool.false_eq_true, if_false, if_neg (show ¬ (x1 = 4 ∨ x1 = 6) by omega)]
                by_cases k5 : x1 = 5
                · subst k5; rfl
                · have e5 : (x1 == 5) = false := by simpa using k5
                  simp only [e5, Bool.false_eq_true, if_false]
                  by_cases k7 : x1 = 7
                  · subst k7; rfl
                  · have e7 : (x1 == 7) = false := by simpa using k7
                    simp only [e7, Bool.false_eq_true, if_false]
                    rw [decide_eq_false (show ¬ (x1 = 5 ∨ x1 = 7) by omega)]
/-- Does a segment go forward? -/
def fwdB (x : Segment) : Bool := x.1 == 1 || x.1 == 3 || x.1 == 4 || x.1 == 7
theorem w21 (x : Segment) : g21 x = some (fwdB x) := by
  unfold g21 fwdB
  cases x.1 == 1 <;> cases x.1 == 3 <;> cases x.1 == 4 <;> cases x.1 == 7 <;> rfl
theorem segOk_data {x : Segment} (h : segOk x = true) (k : x.1 = 1) : 0 ≤ x.2.2.2.2.2.1 ∧ x.2.2.2.2.2.1 + x.2.2.2.2.2.2.2.2.2.2.2.1.length ≤ x.2.2.2.2.2.2.1 ∧ x.2.2.2.2.2.2.1 ≤ 512 ∧ 1 ≤ x.2.2.2.2.2.2.1 ∧ 1 ≤ x.2.2.2.2.2.2.2.2.2.2.2.1.length ∧ x.2.2.2.2.2.2.2.2.2.2.2.1.length ≤ 100 := by
  simp only [segOk, Bool.and_eq_true] at h
  have := h.1.2
  simp only [kindB, if_pos k, inB, Bool.and_eq_true, decide_eq_true_eq] at this
  omega
/-- What a segment makes of a session. -/
def takeF (a : Taking) (x : Segment) (now : Int) : Taking × List Segment :=
  if x.1 = 1 then dataF (a.1, a.2.1, a.2.2.1, a.2.2.2.1, a.2.2.2.2.1, a.2.2.2.2.2.1, a.2.2.2.2.2.2.1, a.2.2.2.2.2.2.2.1, now + a.2.2.2.2.2.2.2.1) x
  else if x.1 = 4 then ((a.1, a.2.1, a.2.2.1, a.2.2.2.1, a.2.2.2.2.1, a.2.2.2.2.2.1, if a.2.2.2.2.2.2.1 = 1 then 4 else a.2.2.2.2.2.2.1, a.2.2.2.2.2.2.2.1, now + a.2.2.2.2.2.2.2.1), [(5, a.1, a.2.1, 0, 0, 0, 0, 0, 0, 0, false, [], [])])
  else ((a.1, a.2.1, a.2.2.1, a.2.2.2.1, a.2.2.2.2.1, a.2.2.2.2.2.1, a.2.2.2.2.2.2.1, a.2.2.2.2.2.2.2.1, now + a.2.2.2.2.2.2.2.1), [])
structure TkOk (a : Taking) (x : Segment) (now : Int) : Prop where
  sm : SmT a
  life : 0 ≤ a.2.2.2.2.2.2.2.1 ∧ a.2.2.2.2.2.2.2.1 ≤ 65536
  now : 0 ≤ now ∧ now ≤ 1048576
  inn : x.1 = 1 → InOk a x
theorem w36 (a : Taking) (x : Segment) (now : Int) (h : TkOk a x now) : g36 a x now = some (takeF a x now) := by
  obtain ⟨⟨hb, hg⟩, hl, hn, hi⟩ := h
  have hw : IntKind.i64.wrap (now + a.2.2.2.2.2.2.2.1) = now + a.2.2.2.2.2.2.2.1 := wi64 (by omega)
  simp only [g36, w33 a.2.2.2.1 (by omega), w41 a.2.2.2.2.1 (by omega), Option.bind_some, hw]
  unfold takeF
  by_cases k1 : x.1 = 1
  · have e1 : (x.1 == 1) = true := by simpa using k1
    have hin := hi k1
    rw [e1, if_pos rfl, if_pos k1, w48 (a.1, a.2.1, a.2.2.1, a.2.2.2.1, a.2.2.2.2.1, a.2.2.2.2.2.1, a.2.2.2.2.2.2.1, a.2.2.2.2.2.2.2.1, now + a.2.2.2.2.2.2.2.1) x ⟨hin.tot, hin.len, hin.ch, hin.glen, hin.off, hin.fit, hin.xt⟩]
    rfl
  · have e1 : (x.1 == 1) = false := by simpa using k1
    rw [e1, if_neg (by simp), if_neg k1]
    by_cases k4 : x.1 = 4
    · have e4 : (x.1 == 4) = true := by simpa using k4
      rw [e4, if_pos rfl, if_pos k4]
      by_cases s1 : a.2.2.2.2.2.2.1 = 1
      · have : (a.2.2.2.2.2.2.1 == 1) = true := by simpa using s1
        simp only [this, if_true, if_pos s1, Option.bind_some, h49]
      · have : (a.2.2.2.2.2.2.1 == 1) = false := by simpa using s1
        simp only [this, Bool.false_eq_true, if_false, if_neg s1, Option.bind_some, h49]
    · have e4 : (x.1 == 4) = false := by simpa using k4
      rw [e4, if_neg (by simp), if_neg k4]
def Z9 : Taking := ((0 : Int), (0 : Int), (0 : Int), [], [], (0 : Int), (0 : Int), (0 : Int), (0 : Int))
def newT (x : Segment) (life : Int) : Taking := (x.2.1, x.2.2.1, x.2.2.2.2.2.2.1, List.replicate x.2.2.2.2.2.2.1.toNat 0, [], 0, 1, life, 0)
theorem new_ok {x : Segment} {now life : Int} (hs : segOk x = true) (k : x.1 = 1) (hn : 0 ≤ now ∧ now ≤ 1048576) (hl : 1 ≤ life ∧ life ≤ 65536) : TkOk (newT x life) x now := by
  obtain ⟨q1, q2, q3, q4, _⟩ := segOk_data hs k
  exact ⟨⟨by simp [newT]; omega, by simp [newT]⟩, ⟨by show 0 ≤ life; omega, hl.2⟩, hn, fun _ => ⟨⟨q4, q3⟩, by show ((List.replicate x.2.2.2.2.2.2.1.toNat (0 : Int)).length : Int) = x.2.2.2.2.2.2.1; rw [List.length_replicate]; omega, rfl, by simp [newT], q1, q2, q3⟩⟩
theorem w24 (x : Segment) (now life : Int) (h : SmS x) : g24 x now life = some (if segOk x = true ∧ x.1 = 1 ∧ (0 ≤ now ∧ now ≤ 1048576) ∧ (1 ≤ life ∧ life ≤ 65536) then ((takeF (newT x life) x now).1, (takeF (newT x life) x now).2, 0) else (Z9, [], 2)) := by
  unfold g24
  rw [w30 x h, Option.bind_some]
  by_cases hc : segOk x = true ∧ x.1 = 1 ∧ (0 ≤ now ∧ now ≤ 1048576) ∧ (1 ≤ life ∧ life ≤ 65536)
  · obtain ⟨c1, c2, c3, c4⟩ := hc
    have e2 : (x.1 != 1) = false := by simpa using c2
    have e3 : h35 now 0 1048576 = true := by rw [w35]; simp only [inB, Bool.and_eq_true, decide_eq_true_eq]; exact c3
    have e4 : h35 life 1 65536 = true := by rw [w35]; simp only [inB, Bool.and_eq_true, decide_eq_true_eq]; exact c4
    obtain ⟨q1, q2, q3, q4, _⟩ := segOk_data c1 c2
    rw [if_pos (show segOk x = true ∧ x.1 = 1 ∧ (0 ≤ now ∧ now ≤ 1048576) ∧ (1 ≤ life ∧ life ≤ 65536) from ⟨c1, c2, c3, c4⟩)]
    simp only [c1, if_true, bne_self_eq_false, e2, e3, e4, Bool.not_true, Bool.false_eq_true, if_false, mkl_ok (show 0 ≤ x.2.2.2.2.2.2.1 by omega) (Int.le_refl _) (show ((1 : Nat) : Int) * x.2.2.2.2.2.2.1 ≤ 140737488355328 by omega), Option.bind_some]
    rw [show (x.2.1, x.2.2.1, x.2.2.2.2.2.2.1, List.replicate x.2.2.2.2.2.2.1.toNat (0 : Int), ([] : List Claim), (0 : Int), (1 : Int), life, (0 : Int)) = newT x life from rfl, w36 _ x now (new_ok c1 c2 c3 c4)]
    rfl
  · rw [if_neg hc, if_pos]
    · rfl
    · rw [w35, w35]
      cases q1 : segOk x with
      | false => rfl
      | true =>
        by_cases c2 : x.1 = 1
        · have e2 : (x.1 != 1) = false := by simpa using c2
          rw [e2]
          cases q3 : inB now 0 1048576 with
          | false => rfl
          | true =>
            cases q4 : inB life 1 65536 with
            | false => rfl
            | true =>
              simp only [inB, Bool.and_eq_true, decide_eq_true_eq] at q3 q4
              exact absurd ⟨q1, c2, q3, q4⟩ hc
        · have e2 : (x.1 != 1) = true := by simpa using c2
          rw [e2]; rfl
theorem right_take {a : Taking} {x : Segment} {now : Int} (hr : rightB a = true) (hsm : SmT a) (hs : segOk x = true) (hn : 0 ≤ now ∧ now ≤ 1048576) : TkOk a x now := by
  have ht := right_tot hr
  obtain ⟨_, hc, hp⟩ := right_iff.1 hr
  simp only [postB, inB, Bool.and_eq_true, decide_eq_true_eq] at hp
  exact ⟨hsm, by omega, hn, fun k => by
    obtain ⟨q1, q2, q3, q4, _⟩ := segOk_data hs k
    exact ⟨⟨ht.1, ht.2.1⟩, ht.2.2, hc, hsm.g, q1, q2, q3⟩⟩
theorem w19 (a : Taking) (x : Segment) (now : Int) (ha : SmT a) (h : SmS x) : g19 a x now = some (if rightB a = true then (if segOk x = true ∧ x.2.1 = a.1 ∧ x.2.2.1 = a.2.1 ∧ fwdB x = true ∧ 0 ≤ now ∧ now ≤ 1048576 then ((takeF a x now).1, (takeF a x now).2, 0) else (Z9, [], 2)) else (Z9, [], 250)) := by
  unfold g19
  rw [w16 a ha, Option.bind_some]
  cases hr : rightB a with
  | false => rfl
  | true =>
    simp only [if_true, bne_self_eq_false, Bool.false_eq_true, if_false, w30 x h, Option.bind_some, w21, w35]
    by_cases hc : segOk x = true ∧ x.2.1 = a.1 ∧ x.2.2.1 = a.2.1 ∧ fwdB x = true ∧ 0 ≤ now ∧ now ≤ 1048576
    · obtain ⟨c1, c2, c3, c4, c5⟩ := hc
      have e5 : inB now 0 1048576 = true := by simp only [inB, Bool.and_eq_true, decide_eq_true_eq]; exact c5
      rw [if_pos (show segOk x = true ∧ x.2.1 = a.1 ∧ x.2.2.1 = a.2.1 ∧ fwdB x = true ∧ 0 ≤ now ∧ now ≤ 1048576 from ⟨c1, c2, c3, c4, c5⟩)]
      simp only [c1, c2, c3, c4, e5, if_true, bne_self_eq_false, Bool.false_eq_true, if_false, Bool.not_false, Bool.not_true, Option.bind_some, w36 a x now (right_take hr ha c1 c5)]
    · rw [if_neg hc]
      have e2 : (x.2.1 != a.1) = !decide (x.2.1 = a.1) := by rw [Bool.eq_iff_iff]; simp
      have e3 : (x.2.2.1 != a.2.1) = !decide (x.2.2.1 = a.2.1) := by rw [Bool.eq_iff_iff]; simp
      have hall : (segOk x && decide (x.2.1 = a.1) && decide (x.2.2.1 = a.2.1) && fwdB x && inB now 0 1048576) = false := by
        cases hq : (segOk x && decide (x.2.1 = a.1) && decide (x.2.2.1 = a.2.1) && fwdB x && inB now 0 1048576) with
        | false => rfl
        | true =>
          simp only [inB, Bool.and_eq_true, decide_eq_true_eq] at hq
          exact absurd ⟨hq.1.1.1.1, hq.1.1.1.2, hq.1.1.2, hq.1.2, hq.2⟩ hc
      rw [e2, e3]
      clear hc
      generalize decide (x.2.1 = a.1) = c2, decide (x.2.2.1 = a.2.1) = c3, fwdB x = c4, inB now 0 1048576 = c5, segOk x = c1 at *
      cases c1 <;> cases c2 <;> cases c3 <;> cases c4 <;> cases c5 <;> first | rfl | exact absurd hall (by decide)
/-- A moment comes. -/
def tickF (a : Taking) (now : Int) : Taking × List Segment :=
  if now < a.2.2.2.2.2.2.2.2 ∨ a.2.2.2.2.2.2.1 = 4 then (a, [])
  else ((a.1, a.2.1, a.2.2.1, a.2.2.2.1, a.2.2.2.2.1, a.2.2.2.2.2.1, 4, a.2.2.2.2.2.2.2.1, a.2.2.2.2.2.2.2.2), if a.2.2.2.2.2.2.1 = 1 then [(6, a.1, a.2.1, 0, 0, 0, 0, 0, 0, 4, false, [], [])] else [])
theorem w26 (a : Taking) (now : Int) (ha : SmT a) : g26 a now = some (if rightB a = true then (if 0 ≤ now ∧ now ≤ 1048576 then ((tickF a now).1, (tickF a now).2, 0) else (Z9, [], 2)) else (Z9, [], 250)) := by
  unfold g26
  rw [w16 a ha, Option.bind_some]
  cases hr : rightB a with
  | false => rfl
  | true =>
    have hb := ha.b
    have hg := ha.g
    simp only [if_true, bne_self_eq_false, Bool.false_eq_true, if_false, w35, w33 a.2.2.2.1 (by omega), w41 a.2.2.2.2.1 (by omega), Option.bind_some]
    by_cases hc : 0 ≤ now ∧ now ≤ 1048576
    · have e : inB now 0 1048576 = true := by simp only [inB, Bool.and_eq_true, decide_eq_true_eq]; exact hc
      rw [e, if_pos hc]
      simp only [Bool.not_true, Bool.false_eq_true, if_false]
      unfold tickF
      by_cases hd : now < a.2.2.2.2.2.2.2.2 ∨ a.2.2.2.2.2.2.1 = 4
      · have : (if decide (now < a.2.2.2.2.2.2.2.2) = true then true else (a.2.2.2.2.2.2.1 == 4)) = true := by
          rcases hd with hd | hd
          · simp [hd]
          · simp [hd]
        rw [this, if_pos rfl, if_pos hd]
      · have : (if decide (now < a.2.2.2.2.2.2.2.2) = true then true else (a.2.2.2.2.2.2.1 == 4)) = false := by
          simp only [not_or] at hd
          simp [hd.1, hd.2]
        rw [this, if_neg (by simp), if_neg hd]
        by_cases s1 : a.2.2.2.2.2.2.1 = 1
        · have : (a.2.2.2.2.2.2.1 == 1) = true := by simpa using s1
          rw [this, if_pos rfl, if_pos s1, apd_ok (by simp)]
          rfl
        · have : (a.2.2.2.2.2.2.1 == 1) = false := by simpa using s1
          rw [this, if_neg (by simp), if_neg s1]
    · have e : inB now 0 1048576 = false := by
        simp only [inB, Bool.and_eq_false_iff, decide_eq_false_iff_not]; omega
      rw [e, if_neg hc]; rfl
end Go.Proofs.Ytmbhpchkhilheaa.Ev.U
namespace Go.Proofs.Ytmbhpchkhilheaa.Ev.U
open Go
def S0 : Segment := ((1 : Int), (1 : Int), (5 : Int), (1 : Int), (0 : Int), (0 : Int), (2 : Int), (0 : Int), (0 : Int), (0 : Int), true, [(7 : Int), (8 : Int)], [])
def T0 : Taking := ((1 : Int), (5 : Int), (2 : Int), [7, 8], [((0 : Int), (2 : Int))], 1, 2, 100, 100)
def C0 : Segment := ((2 : Int), (1 : Int), (5 : Int), (1 : Int), (1 : Int), (0 : Int), (0 : Int), (0 : Int), (2 : Int), (0 : Int), false, [], [((0 : Int), (2 : Int))])
theorem s0_ok : segOk S0 = true := by decide
theorem t0_take : takeF (newT S0 100) S0 0 = (T0, [C0]) := by kernel_rfl
theorem t0_right : rightB T0 = true := by decide
theorem t0_whole : wholeB T0 = true := by decide
theorem w8 : g8 = some true := by
  have h := w24 S0 0 100 ⟨by decide, by decide⟩
  rw [if_pos ⟨s0_ok, rfl, by decide, by decide⟩, t0_take] at h
  have h2 := w13 T0 ⟨by decide, by decide⟩
  rw [t0_right, t0_whole] at h2
  show (g24 S0 0 100).bind _ = _
  rw [h, Option.bind_some]
  show (g13 T0).bind _ = _
  rw [h2]
  rfl
def ZS : Segment := ((0 : Int), (0 : Int), (0 : Int), (0 : Int), (0 : Int), (0 : Int), (0 : Int), (0 : Int), (0 : Int), (0 : Int), false, [], [])
theorem small_of {a : Taking} {x : Segment} (h : h9 a x = false) : SmT a ∧ SmS x := by
  simp only [h9] at h
  cases h1 : decide ((a.2.2.2.1.length : Int) > 5000) with
  | true => rw [h1] at h; cases h
  | false =>
    cases h2 : decide ((a.2.2.2.2.1.length : Int) > 2000) with
    | true => rw [h1, h2] at h; cases h
    | false =>
      cases h3 : decide ((x.2.2.2.2.2.2.2.2.2.2.2.1.length : Int) > 5000) with
      | true => rw [h1, h2, h3] at h; cases h
      | false =>
        rw [h1, h2, h3] at h
        have h1 := of_decide_eq_false h1
        have h2 := of_decide_eq_false h2
        have h3 := of_decide_eq_false h3
        have h4 := of_decide_eq_false h
        exact ⟨⟨by omega, by omega⟩, ⟨by omega, by omega⟩⟩
theorem w3 (a b : Taking) (h0 : 0 ≤ a.2.1) : g3 a b = some true := by
  unfold g3
  rw [w8, Option.bind_some]
  simp only [Bool.not_true, Bool.false_eq_true, if_false]
  show (if (if h9 a ZS = true then true else h9 b ZS) = true then some true else _) = _
  cases hl : h9 a ZS with
  | true => rfl
  | false =>
    cases hl' : h9 b ZS with
    | true => rfl
    | false =>
      have ha := (small_of hl).1
      have hx8 : (sameT a b == sameT a b) = true := by simp
      simp only [Bool.false_eq_true, if_false, w10 a b ha, w11 a b ha, w12 a ha, w10 a a ha, Option.bind_some, hx8, sameT_self, w13 a ha, w14 a ha, w15 a ha h0, w16 a ha, bne_self_eq_false, Bool.not_false, Bool.not_true, if_true]
      cases hr : rightB a with
      | false =>
        simp only [Bool.false_eq_true, if_false, Bool.not_false, if_true, List.length_nil, w12 a ha, Option.bind_some, w16 a ha, hr, Int.natCast_zero, beq_self_eq_true]
      | true =>
        have hb := ha.b
        have hg := ha.g
        have ht := right_tot hr
        obtain ⟨_, hc, _⟩ := right_iff.1 hr
        have hl3 := fun (b : List Int) (e n : Int) => l3 b e n a.2.2.1 a.1 a.2.1 a.2.2.1 a.2.2.2.1 a.2.2.2.2.1 a.2.2.2.2.2.1 a.2.2.2.2.2.2.1 a.2.2.2.2.2.2.2.1 a.2.2.2.2.2.2.2.2 (by omega) (chain_Bd (by omega) hc) a.2.2.1.toNat 0 0 (by omega) (by omega) (by omega) (by omega) (by omega)
        have hcn : (0 : Int) + cnt a.2.2.2.2.1 0 a.2.2.1.toNat = a.2.2.1 - sumN a.2.2.2.2.1 := by
          rw [cnt_chain hc (fun c hc' => by have := chain_bd (by omega) (by omega) hc c hc'; omega) (by omega)]
          omega
        have hm : (a.2.2.1 - sumN a.2.2.2.2.1 != a.2.2.1 - sumN a.2.2.2.2.1) = false := by simp
        simp only [Bool.not_true, Bool.false_eq_true, if_false, if_true, hl3, hcn, Option.bind_some, hm, Bool.not_false]
        have w12' : g12 (a.1, a.2.1, a.2.2.1, a.2.2.2.1, a.2.2.2.2.1, a.2.2.2.2.2.1, a.2.2.2.2.2.2.1, a.2.2.2.2.2.2.2.1, a.2.2.2.2.2.2.2.2) = some a := w12 a ha
        rw [w12', Option.bind_some, w16 a ha, hr, Option.bind_some]
        simp only [if_true, bne_self_eq_false, Bool.false_eq_true, if_false]
        rw [whole_sum hr]
        have hs := sum_chain hc
        have hp : 0 ≤ a.2.2.1 - sumN a.2.2.2.2.1 := by
          by_cases hn : a.2.2.2.2.1 = []
          · rw [hn]; simp [sumN]; omega
          · have := hs.2 hn
            have : 0 < a.2.2.2.2.1.length := List.length_pos_iff.2 hn
            omega
        by_cases hz : a.2.2.1 - sumN a.2.2.2.2.1 = 0
        · rw [hz]
          simp only [decide_true, if_true, w18 a.2.2.2.1 a.2.2.2.1 (by omega), Option.bind_some]
          rfl
        · rw [decide_eq_false hz, decide_eq_true (show a.2.2.1 - sumN a.2.2.2.2.1 > 0 by omega)]
          rfl
end Go.Proofs.Ytmbhpchkhilheaa.Ev.U
namespace Go.Proofs.Ytmbhpchkhilheaa.Ev.U
open Go
def lastE (e : Int) (l : List Claim) : Int := match l.getLast? with
  | some c => c.1 + c.2
  | none => e
theorem lastE_cons (e : Int) (c : Claim) (l : List Claim) : lastE e (c :: l) = lastE (c.1 + c.2) l := by
  unfold lastE
  cases l with
  | nil => rfl
  | cons d r =>
    rw [List.getLast?_cons_cons]
    cases h : (d :: r).getLast? with
    | none => rw [List.getLast?_eq_none_iff] at h; cases h
    | some _ => rfl
theorem lastE_snoc (e : Int) (l : List Claim) (c : Claim) : lastE e (l ++ [c]) = c.1 + c.2 := by
  unfold lastE; rw [List.getLast?_concat]
theorem chain_snoc {tot : Int} : ∀ {l : List Claim} {e : Int} {c : Claim}, chain tot e (l ++ [c]) = true ↔ chain tot e l = true ∧ 0 < c.2 ∧ lastE e l < c.1 ∧ c.1 + c.2 ≤ tot
  | [], e, c => by
    rw [List.nil_append, chain_cons]
    constructor
    · rintro ⟨h1, h2, h3, _⟩; exact ⟨rfl, h1, h2, h3⟩
    · rintro ⟨_, h1, h2, h3⟩; exact ⟨h1, h2, h3, rfl⟩
  | d :: l, e, c => by
    rw [List.cons_append, chain_cons, chain_cons, chain_snoc (l := l), lastE_cons]
    constructor
    · rintro ⟨h1, h2, h3, h4, h5⟩; exact ⟨⟨h1, h2, h3, h4⟩, h5⟩
    · rintro ⟨⟨h1, h2, h3, h4⟩, h5⟩; exact ⟨h1, h2, h3, h4, h5⟩
theorem chain_take {tot : Int} : ∀ {l : List Claim} {e : Int} (n : Nat), chain tot e l = true → chain tot e (l.take n) = true
  | _, e, 0, h => by rw [List.take_zero]; rfl
  | [], e, n + 1, h => rfl
  | c :: l, e, n + 1, h => by
    obtain ⟨h1, h2, h3, h4⟩ := chain_cons.1 h
    rw [List.take_succ_cons]
    exact chain_cons.2 ⟨h1, h2, h3, chain_take n h4⟩
theorem inC_app (l r : List Claim) (j : Int) : inC (l ++ r) j = (inC l j || inC r j) := by unfold inC; rw [List.any_append]
theorem push_snoc (l : List Claim) (c : Claim) (i : Int) : push (l ++ [c]) i = if c.1 + c.2 = i then l ++ [(c.1, c.2 + 1)] else l ++ [c] ++ [(i, 1)] := by
  unfold push
  rw [List.getLast?_concat]
  simp only
  split
  · rw [List.length_append]
    simp
  · rfl
theorem push_nil (i : Int) : push [] i = [(i, 1)] := rfl
/-- Rows up to a place, of places with a property. -/
structure RowS (tot : Int) (f : Int → Bool) (out : List Claim) (i : Int) : Prop where
  ok : RowOk out i
  ch : chain tot (-1) out = true
  inn : ∀ j, inC out j = (decide (0 ≤ j) && decide (j < i) && f j)
theorem RowS.nil (tot : Int) (f : Int → Bool) : RowS tot f [] 0 := ⟨⟨fun c hc => (by cases hc), by simp⟩, rfl, fun j => by
  show false = _
  cases h : (decide (0 ≤ j) && decide (j < 0)) with
  | false => rfl
  | true => simp only [Bool.and_eq_true, decide_eq_true_eq] at h; omega⟩
theorem RowS.step {tot : Int} {f : Int → Bool} {out : List Claim} {i : Int} (h : RowS tot f out i) (h0 : 0 ≤ i) (h1 : i + 1 ≤ tot) : RowS tot f (if f i then push out i else out) (i + 1) := by
  obtain ⟨hok, hch, hin⟩ := h
  have hj : ∀ j, (decide (0 ≤ j) && decide (j < i + 1) && f j) = ((decide (0 ≤ j) && decide (j < i) && f j) || (decide (j = i) && f i)) := by
    intro j
    by_cases e : j = i
    · subst e
      rw [decide_eq_true h0, decide_eq_true (show j < j + 1 by omega), decide_eq_false (show ¬ j < j by omega), decide_eq_true (show j = j from rfl)]
      simp
    · rw [decide_eq_false e, Bool.false_and, Bool.or_false]
      rw [show decide (j < i + 1) = decide (j < i) from decide_eq_decide.2 (by omega)]
  cases hf : f i with
  | false =>
    simp only [Bool.false_eq_true, if_false]
    exact ⟨hok.mono (by omega), hch, fun j => by rw [hj, hf, Bool.and_false, Bool.or_false, hin]⟩
  | true =>
    simp only [if_true]
    refine ⟨hok.push h0, ?_, fun j => ?_⟩
    · rcases List.eq_nil_or_concat out with rfl | ⟨l, c, rfl⟩
      · rw [push_nil]
        exact chain_cons.2 ⟨by show (0 : Int) < 1; omega, by show -1 < i; omega, by show i + 1 ≤ tot; omega, rfl⟩
      · rw [List.concat_eq_append] at *
        rw [push_snoc]
        have hc := hok.b c (by simp)
        split
        · rename_i he
          obtain ⟨a1, a2, a3, a4⟩ := chain_snoc.1 hch
          exact chain_snoc.2 ⟨a1, by show 0 < c.2 + 1; omega, a3, by show c.1 + (c.2 + 1) ≤ tot; omega⟩
        · refine chain_snoc.2 ⟨hch, by show (0 : Int) < 1; omega, ?_, by show i + 1 ≤ tot; omega⟩
          rw [lastE_snoc]
          show c.1 + c.2 < i
          omega
    · rw [hj, hf, Bool.and_true, ← hin]
      have one : inC [(i, (1 : Int))] j = decide (j = i) := by
        show (decide (i ≤ j) && decide (j < i + 1) || false) = _
        rw [Bool.or_false, Bool.eq_iff_iff]
        simp only [Bool.and_eq_true, decide_eq_true_eq]
        omega
      rcases List.eq_nil_or_concat out with rfl | ⟨l, c, rfl⟩
      · rw [push_nil, one]; rfl
      · rw [List.concat_eq_append] at *
        rw [push_snoc]
        have hc := hok.b c (by simp)
        split
        · rename_i he
          rw [inC_app, inC_app]
          have : inC [(c.1, c.2 + 1)] j = (inC [c] j || decide (j = i)) := by
            show (decide (c.1 ≤ j) && decide (j < c.1 + (c.2 + 1)) || false) = ((decide (c.1 ≤ j) && decide (j < c.1 + c.2) || false) || decide (j = i))
            rw [Bool.or_false, Bool.or_false, Bool.eq_iff_iff]
            simp only [Bool.and_eq_true, Bool.or_eq_true, decide_eq_true_eq]
            omega
          rw [this, Bool.or_assoc]
        · rw [inC_app, one]
theorem rows_s (tot : Int) (f : Int → Bool) : ∀ (k : Nat) (out : List Claim) (i : Int), RowS tot f out i → 0 ≤ i → i + k ≤ tot → RowS tot f (rowsF f out i k) (i + k)
  | 0, out, i, h, _, _ => by simpa [rowsF] using h
  | k + 1, out, i, h, hi, hk => by
    simp only [rowsF]
    have := rows_s tot f k _ (i + 1) (h.step hi (by omega)) (by omega) (by omega)
    rwa [show i + 1 + (k : Int) = i + ((k + 1 : Nat) : Int) by omega] at this
theorem rows_congr (f g : Int → Bool) : ∀ (k : Nat) (out : List Claim) (i : Int), (∀ j, i ≤ j → j < i + k → f j = g j) → rowsF f out i k = rowsF g out i k
  | 0, out, i, _ => rfl
  | k + 1, out, i, h => by
    simp only [rowsF]
    rw [h i (by omega) (by omega), rows_congr f g k _ (i + 1) fun j h1 h2 => h j (by omega) (by omega)]
/-! ### Flags -/
def fl (l : List Bool) (j : Int) : Bool := (l[j.toNat]?).getD false
def cntF : List Bool → Int
  | [] => 0
  | b :: r => (if b then 0 else 1) + cntF r
theorem cntF_nn : ∀ l : List Bool, 0 ≤ cntF l ∧ cntF l ≤ l.length
  | [] => ⟨Int.le_refl _, Int.le_refl _⟩
  | b :: r => by
    have := cntF_nn r
    simp only [cntF, List.length_cons]
    split <;> omega
theorem cntF_set : ∀ (l : List Bool) (j : Nat), l[j]? = some false → cntF (l.set j true) = cntF l - 1
  | [], j, h => by simp at h
  | b :: r, 0, h => by
    simp at h
    subst h
    simp only [List.set_cons_zero, cntF, if_true, Bool.false_eq_true, if_false]; omega
  | b :: r, j + 1, h => by
    simp only [List.set_cons_succ, cntF]
    rw [cntF_set r j (by simpa using h)]; omega
theorem cntF_zero : ∀ (l : List Bool), cntF l = 0 → ∀ j, j < l.length → l[j]? = some true
  | [], _, j, hj => by simp at hj
  | b :: r, h, j, hj => by
    have := cntF_nn r
    simp only [cntF] at h
    cases b with
    | false => simp only [Bool.false_eq_true, if_false] at h; omega
    | true =>
      simp only [if_true] at h
      cases j with
      | zero => rfl
      | succ j => simpa using cntF_zero r (by omega) j (by simpa using hj)
theorem cntF_all : ∀ (l : List Bool), (∀ j, j < l.length → l[j]? = some true) → cntF l = 0
  | [], _ => rfl
  | b :: r, h => by
    have h0 := h 0 (by simp)
    simp at h0
    subst h0
    simp only [cntF, if_true]
    rw [cntF_all r fun j hj => by simpa using h (j + 1) (by simpa using hj)]; omega
theorem cnt_cntF (got : List Claim) (l : List Bool) : ∀ (k i : Nat), i + k = l.length → (∀ j : Nat, i ≤ j → j < l.length → inC got j = fl l j) → cnt got i k = cntF (l.drop i)
  | 0, i, hi, _ => by rw [List.drop_of_length_le (by omega)]; rfl
  | k + 1, i, hi, h => by
    have h1 : i < l.length := by omega
    rw [drop_cons' h1]
    simp only [cnt, cntF]
    rw [h i (by omega) h1, show (i : Int) + 1 = ((i + 1 : Nat) : Int) by omega, cnt_cntF got l k (i + 1) (by omega) fun j h2 h3 => h j (by omega) h3]
    unfold fl
    rw [Int.toNat_natCast, List.getElem?_eq_getElem h1]; rfl
end Go.Proofs.Ytmbhpchkhilheaa.Ev.U
namespace Go.Proofs.Ytmbhpchkhilheaa.Ev.U
open Go
def pc (B : List Int) (off len : Int) (ck : Bool) (s : Int) : Segment := (1, 3, 9, if ck then s else 0, 0, off, (B.length : Int), 0, 0, 0, ck, (B.drop off.toNat).take len.toNat, [])
structure PcAt (B : List Int) (off len : Int) : Prop where
  o : 0 ≤ off
  l : 1 ≤ len ∧ len ≤ 100
  f : off + len ≤ B.length
/-- Pieces of a block, with what they cover. -/
structure Pcs (B : List Int) (P : List Segment) : Prop where
  ok : ∀ (i : Nat) x, P[i]? = some x → ∃ off len ck, PcAt B off len ∧ x = pc B off len ck ((i + 1 : Nat) : Int)
theorem Pcs.snoc {B : List Int} {P : List Segment} (h : Pcs B P) {off len : Int} (ck : Bool) (ha : PcAt B off len) : Pcs B (P ++ [pc B off len ck ((P.length + 1 : Nat) : Int)]) := ⟨fun i x hx => by
  rcases Nat.lt_trichotomy i P.length with hi | hi | hi
  · rw [List.getElem?_append_left hi] at hx; exact h.ok i x hx
  · subst hi
    rw [List.getElem?_append_right (Nat.le_refl _), Nat.sub_self] at hx
    simp at hx
    exact ⟨off, len, ck, ha, hx.symm⟩
  · rw [List.getElem?_eq_none (by simp; omega)] at hx; cases hx⟩
theorem w43 (B : List Int) (off len : Int) (ck : Bool) (P : List Segment) (ha : PcAt B off len) (hb : B.length ≤ 512) (hp : P.length ≤ 100) : g43 off len ck B P = some (P ++ [pc B off len ck ((P.length + 1 : Nat) : Int)]) := by
  obtain ⟨h1, h2, h3⟩ := ha
  have hw : IntKind.i64.wrap (off + len) = off + len := wi64 (by omega)
  have hc : cut B off (off + len) = some ((B.drop off.toNat).take len.toNat) := by
    unfold cut
    rw [if_pos (by omega), List.drop_take, show (off + len).toNat - off.toNat = len.toNat by omega]
  have hs : IntKind.u32.wrap (IntKind.i64.wrap ((P.length : Int) + 1)) = ((P.length + 1 : Nat) : Int) := by
    rw [wi64 (by omega), wu32 (by omega)]; omega
  have ap : ∀ z : Segment, apd 128 P [z] = some (P ++ [z]) := fun z => apd_ok (show (P.length + 1) * 128 ≤ 140737488355328 by omega)
  unfold g43 pc
  cases ck with
  | true => simp only [hw, hc, Option.bind_some, if_true, hs, ap]
  | false => simp only [hw, hc, Option.bind_some, Bool.false_eq_true, if_false, ap]
theorem mx_nn (y : Int) : 0 ≤ (if (0 : Int) > y then (0 : Int) else y) := by split <;> omega
theorem rem_ok (a b : Int) (hb : 0 < b) : rem a b = some (a.tmod b) := by
  unfold rem
  rw [if_neg (by omega)]
theorem l280 (B : List Int) (l : List Cut) (hb : 1 ≤ B.length ∧ B.length ≤ 512) : ∀ (k i : Nat) (P : List Segment), i + k = l.length → i ≤ 40 → P.length = i → Pcs B P → ∃ P', lpU g28x0 (l, (l.length : Int), (i : Int), B, P) = some (B, P') ∧ Pcs B P' ∧ P'.length ≤ 40
  | 0, i, P, hi, h40, hp, hP => by
    have hd : decide ((i : Int) < (l.length : Int)) = false := decide_eq_false (by omega)
    exact ⟨P, lp_end (by simp only [g28x0, hd, Bool.false_eq_true, if_false]), hP, by omega⟩
  | k + 1, i, P, hi, h40, hp, hP => by
    have hd : decide ((i : Int) < (l.length : Int)) = true := decide_eq_true (by omega)
    have h1 : i < l.length := by omega
    by_cases hi40 : i = 40
    · have : ((i : Int) == 40) = true := by subst hi40; rfl
      exact ⟨P, lp_end (by simp only [g28x0, hd, if_true, idx_some' h1, Option.bind_some, this]), hP, by omega⟩
    · have hne : ((i : Int) == 40) = false := by simpa using (show (i : Int) ≠ 40 by omega)
      obtain ⟨c, hc⟩ : ∃ c, l[i] = c := ⟨_, rfl⟩
      have hlen : (0 : Int) < (B.length : Int) := by omega
      have t1 := Int.tmod_nonneg (B.length : Int) (mx_nn c.1)
      have t2 := Int.tmod_lt_of_pos (if (0 : Int) > c.1 then (0 : Int) else c.1) hlen
      have r1 := rem_ok (if (0 : Int) > c.1 then (0 : Int) else c.1) (B.length : Int) hlen
      generalize (if (0 : Int) > c.1 then (0 : Int) else c.1).tmod (B.length : Int) = off at *
      have hx : IntKind.i64.wrap ((B.length : Int) - off) = (B.length : Int) - off := wi64 (by omega)
      have hm : (0 : Int) < (if (B.length : Int) - off < 100 then (B.length : Int) - off else 100) ∧ (if (B.length : Int) - off < 100 then (B.length : Int) - off else 100) ≤ 100 ∧ (if (B.length : Int) - off < 100 then (B.length : Int) - off else 100) ≤ (B.length : Int) - off := by split <;> omega
      obtain ⟨m0, m1, m2⟩ := hm
      have u1 := Int.tmod_nonneg (if (B.length : Int) - off < 100 then (B.length : Int) - off else 100) (mx_nn c.2.1)
      have u2 := Int.tmod_lt_of_pos (if (0 : Int) > c.2.1 then (0 : Int) else c.2.1) m0
      have r2 := rem_ok (if (0 : Int) > c.2.1 then (0 : Int) else c.2.1) _ m0
      generalize hmm : (if (B.length : Int) - off < 100 then (B.length : Int) - off else 100) = m at *
      generalize (if (0 : Int) > c.2.1 then (0 : Int) else c.2.1).tmod m = n at *
      have hw : IntKind.i64.wrap (1 + n) = 1 + n := wi64 (by omega)
      have ha : PcAt B off (1 + n) := ⟨by omega, by omega, by omega⟩
      have hst : g28x0 (l, (l.length : Int), (i : Int), B, P) = some (.inl (l, (l.length : Int), ((i + 1 : Nat) : Int), B, P ++ [pc B off (1 + n) c.2.2 ((P.length + 1 : Nat) : Int)])) := by
        simp only [g28x0, hd, if_true, idx_some' h1, hc, Option.bind_some, hne, Bool.false_eq_true, if_false, r1, hx, hmm, r2, hw, w43 B off (1 + n) c.2.2 P ha hb.2 (by omega), wnext (show i < 1000000000000 by omega)]
      obtain ⟨P', q1, q2, q3⟩ := l280 B l hb k (i + 1) _ (by omega) (by omega) (by simp; omega) (hP.snoc c.2.2 ha)
      exact ⟨P', by rw [lp_next hst, q1], q2, q3⟩
/-- Is a place in a piece? -/
def inP (x : Segment) (j : Int) : Bool := ownB x.2.2.2.2.2.1 x.2.2.2.2.2.2.2.2.2.2.2.1.length j
theorem pc_len {B : List Int} {off len : Int} {ck : Bool} {s : Int} (h : PcAt B off len) : ((pc B off len ck s).2.2.2.2.2.2.2.2.2.2.2.1.length : Int) = len := by
  obtain ⟨h1, h2, h3⟩ := h
  show (((B.drop off.toNat).take len.toNat).length : Int) = len
  simp; omega
theorem l281 (B : List Int) (hb : 1 ≤ B.length ∧ B.length ≤ 512) : ∀ (k : Nat) (a : Int) (P : List Segment), 0 ≤ a → (B.length : Int) - a ≤ 100 * k → a ≤ 700 → (P.length : Int) ≤ 40 + (6 - k) → k ≤ 6 → Pcs B P → (∀ j : Int, 0 ≤ j → j < a → j < B.length → ∃ x ∈ P, inP x j = true) →
    ∃ P', lpU g28x1 (a, B, P) = some P' ∧ Pcs B P' ∧ P'.length ≤ 46 ∧ ∀ j : Int, 0 ≤ j → j < B.length → ∃ x ∈ P', inP x j = true
  | 0, a, P, h0, hk, ha, hp, h6, hP, hc => by
    have hd : decide (a < (B.length : Int)) = false := decide_eq_false (by omega)
    exact ⟨P, lp_end (by simp only [g28x1, hd, Bool.false_eq_true, if_false]), hP, by omega, fun j j0 j1 => hc j j0 (by omega) j1⟩
  | k + 1, a, P, h0, hk, ha, hp, h6, hP, hc => by
    by_cases hlt : a < (B.length : Int)
    · have hd : decide (a < (B.length : Int)) = true := decide_eq_true hlt
      have hx : IntKind.i64.wrap ((B.length : Int) - a) = (B.length : Int) - a := wi64 (by omega)
      have hw2 : IntKind.i64.wrap (a + 100) = a + 100 := wi64 (by omega)
      have hm : (1 : Int) ≤ (if (B.length : Int) - a < 100 then (B.length : Int) - a else 100) ∧ (if (B.length : Int) - a < 100 then (B.length : Int) - a else 100) ≤ 100 ∧ (if (B.length : Int) - a < 100 then (B.length : Int) - a else 100) ≤ (B.length : Int) - a ∧ ((B.length : Int) - a < 100 → (if (B.length : Int) - a < 100 then (B.length : Int) - a else 100) = (B.length : Int) - a) ∧ (¬ (B.length : Int) - a < 100 → (if (B.length : Int) - a < 100 then (B.length : Int) - a else 100) = 100) := by
        refine ⟨by split <;> omega, by split <;> omega, by split <;> omega, fun h => if_pos h, fun h => if_neg h⟩
      generalize hmm : (if (B.length : Int) - a < 100 then (B.length : Int) - a else 100) = m at *
      obtain ⟨m0, m1, m2, m3, m4⟩ := hm
      have hpa : PcAt B a m := ⟨h0, ⟨m0, m1⟩, by omega⟩
      have hst : g28x1 (a, B, P) = some (.inl (a + 100, B, P ++ [pc B a m (IntKind.i64.wrap (a + m) == (B.length : Int)) ((P.length + 1 : Nat) : Int)])) := by
        simp only [g28x1, hd, if_true, hx, hmm, w43 B a m (IntKind.i64.wrap (a + m) == (B.length : Int)) P hpa hb.2 (by omega), Option.bind_some, hw2]
      obtain ⟨P', q1, q2, q3, q4⟩ := l281 B hb k (a + 100) _ (by omega) (by omega) (by omega) (by rw [List.length_append]; simp; omega) (by omega) (hP.snoc (IntKind.i64.wrap (a + m) == (B.length : Int)) hpa) (fun j j0 j1 j2 => by
        by_cases hj : j < a
        · obtain ⟨x, x1, x2⟩ := hc j j0 hj j2
          exact ⟨x, List.mem_append_left _ x1, x2⟩
        · refine ⟨_, List.mem_append_right _ (List.mem_singleton.2 rfl), ?_⟩
          unfold inP
          rw [pc_len hpa]
          show (decide (a ≤ j) && decide (j < a + m)) = true
          simp only [Bool.and_eq_true, decide_eq_true_eq]
          by_cases hq : (B.length : Int) - a < 100
          · have := m3 hq; omega
          · have := m4 hq; omega)
      exact ⟨P', by rw [lp_next hst, q1], q2, q3, q4⟩
    · have hd : decide (a < (B.length : Int)) = false := decide_eq_false hlt
      exact ⟨P, lp_end (by simp only [g28x1, hd, Bool.false_eq_true, if_false]), hP, by omega, fun j j0 j1 => hc j j0 (by omega) j1⟩
theorem w28 (B : List Int) (l : List Cut) (hb : 1 ≤ B.length ∧ B.length ≤ 512) : ∃ P, g28 B l = some P ∧ Pcs B P ∧ P.length ≤ 46 ∧ ∀ j : Int, 0 ≤ j → j < B.length → ∃ x ∈ P, inP x j = true := by
  obtain ⟨P, h1, h2, h3⟩ := l280 B l hb l.length 0 [] (by omega) (by omega) rfl ⟨fun i x h => by simp at h⟩
  obtain ⟨P', q1, q2, q3, q4⟩ := l281 B hb 6 0 P (by omega) (by omega) (by omega) (by omega) (by omega) h2 (fun j j0 j1 => by omega)
  refine ⟨P', ?_, q2, q3, q4⟩
  unfold g28
  rw [show ((0 : Nat) : Int) = 0 from rfl] at h1
  rw [h1, Option.bind_some, q1]
  rfl
end Go.Proofs.Ytmbhpchkhilheaa.Ev.U
namespace Go.Proofs.Ytmbhpchkhilheaa.Ev.U
open Go
theorem fl_nat (l : List Bool) (j : Nat) : fl l (j : Int) = (l[j]?).getD false := by unfold fl; rw [Int.toNat_natCast]
theorem fl_set (l : List Bool) (i j : Nat) (hi : i < l.length) : fl (l.set i true) (j : Int) = (fl l (j : Int) || decide (j = i)) := by
  rw [fl_nat, fl_nat]
  by_cases e : j = i
  · subst e
    rw [List.getElem?_set_self hi, decide_eq_true rfl, Bool.or_true]; rfl
  · rw [List.getElem?_set_ne (by omega), decide_eq_false e, Bool.or_false]
theorem l60 (B : List Int) (t : Int) (sn : List Segment) (e : Int) (P : List Segment) (pl ix : Int) (n : Nat) (a1 a2 a3 : Int) (a4 : List Int) (a5 : List Claim) (a6 a7 a8 a9 : Int) (x1 x2 x3 x4 x5 x6 x7 x8 x9 x10 : Int) (x11 : Bool) (x12 : List Int) (x13 : List Claim) (h6 : 0 ≤ x6) (hn : n ≤ 1000) : ∀ (k i : Nat) (f : List Bool), i + k = n → x6 + n ≤ f.length → f.length ≤ 1000 →
    ∃ f', lpU g6x0 (B, f, cntF f, t, sn, e, P, pl, ix, (n : Int), (i : Int), a1, a2, a3, a4, a5, a6, a7, a8, a9, x1, x2, x3, x4, x5, x6, x7, x8, x9, x10, x11, x12, x13) = some (B, f', cntF f', t, sn, e, P, pl, ix, a1, a2, a3, a4, a5, a6, a7, a8, a9, x1, x2, x3, x4, x5, x6, x7, x8, x9, x10, x11, x12, x13) ∧ f'.length = f.length ∧ ∀ j : Nat, fl f' j = (fl f j || (decide (x6 + i ≤ j) && decide ((j : Int) < x6 + n)))
  | 0, i, f, hi, hf, hl => by
    have hd : decide ((i : Int) < (n : Int)) = false := decide_eq_false (by omega)
    refine ⟨f, lp_end (by simp only [g6x0, hd, Bool.false_eq_true, if_false]), rfl, fun j => ?_⟩
    have : (decide (x6 + (i : Int) ≤ (j : Int)) && decide ((j : Int) < x6 + (n : Int))) = false := by
      rw [Bool.and_eq_false_iff, decide_eq_false_iff_not, decide_eq_false_iff_not]; omega
    rw [this, Bool.or_false]
  | k + 1, i, f, hi, hf, hl => by
    have hd : decide ((i : Int) < (n : Int)) = true := decide_eq_true (by omega)
    have hw : IntKind.i64.wrap (x6 + (i : Int)) = x6 + i := wi64 (by omega)
    have hck : chkI (x6 + (i : Int)) (f.length : Int) = some () := chkI_some (by omega)
    obtain ⟨m, hm⟩ := Int.eq_ofNat_of_zero_le (show 0 ≤ x6 + (i : Int) by omega)
    have hml : m < f.length := by omega
    have hix : idx f (x6 + (i : Int)) = some f[m] := by rw [hm, idx_some' hml]
    have hcn := cntF_nn f
    have hwl : IntKind.i64.wrap (cntF f - 1) = cntF f - 1 := wi64 (by omega)
    have hnx := wnext (show i < 1000000000000 by omega)
    have hfin : ∀ j : Nat, ((fl f j || decide (j = m)) || (decide (x6 + ((i + 1 : Nat) : Int) ≤ (j : Int)) && decide ((j : Int) < x6 + (n : Int)))) = (fl f j || (decide (x6 + (i : Int) ≤ (j : Int)) && decide ((j : Int) < x6 + (n : Int)))) := fun j => by
      rw [Bool.or_assoc]
      congr 1
      rw [Bool.eq_iff_iff]
      simp only [Bool.or_eq_true, Bool.and_eq_true, decide_eq_true_eq]
      omega
    cases hb : f[m] with
    | true =>
      rw [hb] at hix
      obtain ⟨f', q1, q2, q3⟩ := l60 B t sn e P pl ix n a1 a2 a3 a4 a5 a6 a7 a8 a9 x1 x2 x3 x4 x5 x6 x7 x8 x9 x10 x11 x12 x13 h6 hn k (i + 1) f (by omega) hf hl
      refine ⟨f', ?_, q2, fun j => ?_⟩
      · rw [lp_next (s' := (B, f, cntF f, t, sn, e, P, pl, ix, (n : Int), ((i + 1 : Nat) : Int), a1, a2, a3, a4, a5, a6, a7, a8, a9, x1, x2, x3, x4, x5, x6, x7, x8, x9, x10, x11, x12, x13)) (by simp only [g6x0, hd, if_true, hw, hck, hix, Option.bind_some, eqI_self, Bool.not_true, Bool.false_eq_true, if_false, hnx]), q1]
      · rw [q3 j, ← hfin j]
        have : (fl f (j : Int) || decide (j = m)) = fl f (j : Int) := by
          by_cases e : j = m
          · subst e; rw [fl_nat, List.getElem?_eq_getElem hml, hb]; rfl
          · rw [decide_eq_false e, Bool.or_false]
        rw [this]
    | false =>
      rw [hb] at hix
      have hset : cntF (f.set m true) = cntF f - 1 := cntF_set f m (by rw [List.getElem?_eq_getElem hml, hb])
      obtain ⟨f', q1, q2, q3⟩ := l60 B t sn e P pl ix n a1 a2 a3 a4 a5 a6 a7 a8 a9 x1 x2 x3 x4 x5 x6 x7 x8 x9 x10 x11 x12 x13 h6 hn k (i + 1) (f.set m true) (by omega) (by rw [List.length_set]; exact hf) (by rw [List.length_set]; exact hl)
      rw [hset] at q1
      refine ⟨f', ?_, by rw [q2, List.length_set], fun j => ?_⟩
      · rw [lp_next (s' := (B, f.set m true, cntF f - 1, t, sn, e, P, pl, ix, (n : Int), ((i + 1 : Nat) : Int), a1, a2, a3, a4, a5, a6, a7, a8, a9, x1, x2, x3, x4, x5, x6, x7, x8, x9, x10, x11, x12, x13)) (by simp only [g6x0, hd, if_true, hw, hck, hix, Option.bind_some, eqI_self, Bool.not_false, hnx, hwl, show Int.toNat (x6 + (i : Int)) = m by omega]), q1]
      · rw [q3 j, ← hfin j, fl_set f m j hml]
theorem l61 (B : List Int) (f : List Bool) (left t : Int) (P : List Segment) (pl ix : Int) (sn : List Segment) (sl si : Int) (cl : List Claim) (cn ci : Int) (a1 a2 a3 : Int) (a4 : List Int) (a5 : List Claim) (a6 a7 a8 a9 : Int) (x1 x2 x3 x4 x5 x6 x7 x8 x9 x10 : Int) (x11 : Bool) (x12 : List Int) (x13 : List Claim) (c : Claim) (hc : 0 ≤ c.1 ∧ c.1 + c.2 ≤ f.length) (hf : f.length ≤ 1000) (hin : ∀ j : Int, c.1 ≤ j → j < c.1 + c.2 → fl f j = true) : ∀ (k : Nat) (i : Int), i + k = c.2 → 0 ≤ i →
    lpU g6x1 (B, f, left, t, P, pl, ix, sn, sl, si, cl, cn, ci, c.2, i, a1, a2, a3, a4, a5, a6, a7, a8, a9, x1, x2, x3, x4, x5, x6, x7, x8, x9, x10, x11, x12, x13, c.1, c.2) = some (.inl (B, f, left, t, P, pl, ix, sn, sl, si, cl, cn, ci, a1, a2, a3, a4, a5, a6, a7, a8, a9, x1, x2, x3, x4, x5, x6, x7, x8, x9, x10, x11, x12, x13))
  | 0, i, hi, i0 => by
    have hd : decide (i < c.2) = false := decide_eq_false (by omega)
    rw [lp_end (x := .inl (B, f, left, t, P, pl, ix, sn, sl, si, cl, cn, ci, a1, a2, a3, a4, a5, a6, a7, a8, a9, x1, x2, x3, x4, x5, x6, x7, x8, x9, x10, x11, x12, x13)) (by simp only [g6x1, hd, Bool.false_eq_true, if_false])]
  | k + 1, i, hi, i0 => by
    have hd : decide (i < c.2) = true := decide_eq_true (by omega)
    have hw : IntKind.i64.wrap (c.1 + i) = c.1 + i := wi64 (by omega)
    have hw2 : IntKind.i64.wrap (i + 1) = i + 1 := wi64 (by omega)
    have hck : chkI (c.1 + i) (f.length : Int) = some () := chkI_some (by omega)
    have hix : idx f (c.1 + i) = some true := by
      have h := hin (c.1 + i) (by omega) (by omega)
      unfold fl at h
      unfold idx
      rw [if_pos (by omega)]
      rw [List.getElem?_eq_getElem (show (c.1 + i).toNat < f.length by omega)] at h ⊢
      rw [show f[(c.1 + i).toNat]'(by omega) = true from h]
    rw [lp_next (s' := (B, f, left, t, P, pl, ix, sn, sl, si, cl, cn, ci, c.2, i + 1, a1, a2, a3, a4, a5, a6, a7, a8, a9, x1, x2, x3, x4, x5, x6, x7, x8, x9, x10, x11, x12, x13, c.1, c.2)) (by simp only [g6x1, hd, if_true, hw, hw2, hck, hix, Option.bind_some, eqI_self, Bool.not_true, Bool.false_eq_true, if_false]),
      l61 B f left t P pl ix sn sl si cl cn ci a1 a2 a3 a4 a5 a6 a7 a8 a9 x1 x2 x3 x4 x5 x6 x7 x8 x9 x10 x11 x12 x13 c hc hf hin k (i + 1) (by omega) (by omega)]
theorem l62 (B : List Int) (f : List Bool) (left t : Int) (P : List Segment) (pl ix : Int) (sn : List Segment) (sl si : Int) (cl : List Claim) (a1 a2 a3 : Int) (a4 : List Int) (a5 : List Claim) (a6 a7 a8 a9 : Int) (x1 x2 x3 x4 x5 x6 x7 x8 x9 x10 : Int) (x11 : Bool) (x12 : List Int) (x13 : List Claim) (hb : cl.length < 1000000) (hf : f.length ≤ 1000) (hc : ∀ c ∈ cl, 0 ≤ c.1 ∧ 0 ≤ c.2 ∧ c.1 + c.2 ≤ f.length) (hin : ∀ c ∈ cl, ∀ j : Int, c.1 ≤ j → j < c.1 + c.2 → fl f j = true) : ∀ (k i : Nat), i + k = cl.length →
    lpU g6x2 (B, f, left, t, P, pl, ix, sn, sl, si, cl, (cl.length : Int), (i : Int), a1, a2, a3, a4, a5, a6, a7, a8, a9, x1, x2, x3, x4, x5, x6, x7, x8, x9, x10, x11, x12, x13) = some (.inl (B, f, left, t, P, pl, ix, sn, sl, si, a1, a2, a3, a4, a5, a6, a7, a8, a9, x1, x2, x3, x4, x5, x6, x7, x8, x9, x10, x11, x12, x13))
  | 0, i, hi => by
    have hd : decide ((i : Int) < (cl.length : Int)) = false := decide_eq_false (by omega)
    rw [lp_end (x := .inl (B, f, left, t, P, pl, ix, sn, sl, si, a1, a2, a3, a4, a5, a6, a7, a8, a9, x1, x2, x3, x4, x5, x6, x7, x8, x9, x10, x11, x12, x13)) (by simp only [g6x2, hd, Bool.false_eq_true, if_false])]
  | k + 1, i, hi => by
    have hd : decide ((i : Int) < (cl.length : Int)) = true := decide_eq_true (by omega)
    have h1 : i < cl.length := by omega
    have hm := List.getElem_mem h1
    have hcc := hc _ hm
    have h61 := l61 B f left t P pl ix sn sl si cl (cl.length : Int) (i : Int) a1 a2 a3 a4 a5 a6 a7 a8 a9 x1 x2 x3 x4 x5 x6 x7 x8 x9 x10 x11 x12 x13 cl[i] ⟨hcc.1, hcc.2.2⟩ hf (hin _ hm) cl[i].2.toNat 0 (by omega) (by omega)
    rw [lp_next (s' := (B, f, left, t, P, pl, ix, sn, sl, si, cl, (cl.length : Int), ((i + 1 : Nat) : Int), a1, a2, a3, a4, a5, a6, a7, a8, a9, x1, x2, x3, x4, x5, x6, x7, x8, x9, x10, x11, x12, x13)) (by simp only [g6x2, hd, if_true, idx_some' h1, Option.bind_some, h61, wnext (show i < 1000000000000 by omega)]),
      l62 B f left t P pl ix sn sl si cl a1 a2 a3 a4 a5 a6 a7 a8 a9 x1 x2 x3 x4 x5 x6 x7 x8 x9 x10 x11 x12 x13 hb hf hc hin k (i + 1) (by omega)]
/-- What is said of a report that is sent. -/
structure RepOk (f : List Bool) (s : Int) (r : Segment) : Prop where
  k : r.1 = 2
  c : r.2.2.2.2.1 = s
  ok : segOk r = true
  sm : SmS r
  cb : ∀ c ∈ r.2.2.2.2.2.2.2.2.2.2.2.2, 0 ≤ c.1 ∧ 0 ≤ c.2 ∧ c.1 + c.2 ≤ f.length
  ci : ∀ c ∈ r.2.2.2.2.2.2.2.2.2.2.2.2, ∀ j : Int, c.1 ≤ j → j < c.1 + c.2 → fl f j = true
theorem l630 (B : List Int) (f : List Bool) (left t : Int) (P : List Segment) (pl ix : Int) (a1 a2 a3 : Int) (a4 : List Int) (a5 : List Claim) (a6 a7 a8 a9 : Int) (x1 x2 x3 x4 x5 x6 x7 x8 x9 x10 : Int) (x11 : Bool) (x12 : List Int) (x13 : List Claim) (sn : List Segment) (n : Int) (i : Int) (h : n ≤ i) : lpU g6x3 (B, f, left, t, P, pl, ix, sn, n, i, a1, a2, a3, a4, a5, a6, a7, a8, a9, x1, x2, x3, x4, x5, x6, x7, x8, x9, x10, x11, x12, x13) = some (.inl (B, f, left, t, P, pl, ix, a1, a2, a3, a4, a5, a6, a7, a8, a9)) := by
  have hd : decide (i < n) = false := decide_eq_false (by omega)
  rw [lp_end (x := .inl (B, f, left, t, P, pl, ix, a1, a2, a3, a4, a5, a6, a7, a8, a9)) (by simp only [g6x3, hd, Bool.false_eq_true, if_false])]
theorem l631 (B : List Int) (f : List Bool) (left t : Int) (P : List Segment) (pl ix : Int) (a1 a2 a3 : Int) (a4 : List Int) (a5 : List Claim) (a6 a7 a8 a9 : Int) (x1 x2 x3 x4 x5 x6 x7 x8 x9 x10 : Int) (x11 : Bool) (x12 : List Int) (x13 : List Claim) (r : Segment) (hf : f.length ≤ 1000) (h : RepOk f x4 r) : lpU g6x3 (B, f, left, t, P, pl, ix, [r], 1, 0, a1, a2, a3, a4, a5, a6, a7, a8, a9, x1, x2, x3, x4, x5, x6, x7, x8, x9, x10, x11, x12, x13) = some (.inl (B, f, left, t, P, pl, ix, a1, a2, a3, a4, a5, a6, a7, a8, a9)) := by
  obtain ⟨h1, h2, h3, h4, h5, h6⟩ := h
  have hd : decide ((0 : Int) < 1) = true := rfl
  have hi : idx [r] (0 : Int) = some r := rfl
  have e1 : (r.1 != 2) = false := by simpa using h1
  have e2 : (r.2.2.2.2.1 != x4) = false := by simpa using h2
  have h30 := w30 r h4
  rw [h3, if_pos rfl] at h30
  have h62 := l62 B f left t P pl ix [r] 1 0 r.2.2.2.2.2.2.2.2.2.2.2.2 a1 a2 a3 a4 a5 a6 a7 a8 a9 x1 x2 x3 x4 x5 x6 x7 x8 x9 x10 x11 x12 x13 h4.c hf h5 h6 r.2.2.2.2.2.2.2.2.2.2.2.2.length 0 (by omega)
  rw [show ((0 : Nat) : Int) = 0 from rfl] at h62
  have hw : IntKind.i64.wrap ((0 : Int) + 1) = 1 := rfl
  rw [lp_next (s' := (B, f, left, t, P, pl, ix, [r], 1, 1, a1, a2, a3, a4, a5, a6, a7, a8, a9, x1, x2, x3, x4, x5, x6, x7, x8, x9, x10, x11, x12, x13)) (by simp only [g6x3, hd, if_true, hi, Option.bind_some, e1, e2, Bool.false_eq_true, if_false, Bool.not_false, h30, bne_self_eq_false, h62, hw])]
  exact l630 B f left t P pl ix a1 a2 a3 a4 a5 a6 a7 a8 a9 x1 x2 x3 x4 x5 x6 x7 x8 x9 x10 x11 x12 x13 [r] 1 1 (by omega)
end Go.Proofs.Ytmbhpchkhilheaa.Ev.U
namespace Go.Proofs.Ytmbhpchkhilheaa.Ev.U
open Go
theorem putB_get (b : List Int) (off : Int) (d : List Int) (h0 : 0 ≤ off) (h1 : off + d.length ≤ b.length) (j : Nat) : (putB b off d)[j]? = if ownB off d.length j = true then d[j - off.toNat]? else b[j]? := by
  unfold putB
  cases ho : ownB off d.length (j : Int) with
  | true =>
    rw [if_pos rfl]
    simp only [ownB, Bool.and_eq_true, decide_eq_true_eq] at ho
    rw [List.getElem?_append_left (by simp; omega), List.getElem?_append_right (by simp; omega), List.length_take, show min off.toNat b.length = off.toNat by omega]
  | false =>
    rw [if_neg (by simp)]
    simp only [ownB, Bool.and_eq_false_iff, decide_eq_false_iff_not] at ho
    by_cases hj : j < off.toNat
    · rw [List.getElem?_append_left (by simp; omega), List.getElem?_append_left (by simp; omega), List.getElem?_take, if_pos hj]
    · rw [List.getElem?_append_right (by simp; omega), List.getElem?_drop, List.length_append, List.length_take]
      congr 1
      omega
theorem fits_of (b : List Int) (got : List Claim) (off : Int) : ∀ (d : List Int) (i : Nat), (∀ (j : Nat) (v : Int), d[j]? = some v → inC got (off + ((i + j : Nat) : Int)) = true → b[(off + ((i + j : Nat) : Int)).toNat]? = some v) → fitsB b got off d i = true
  | [], i, h => rfl
  | v :: d, i, h => by
    rw [fitsB_cons]
    have h0 := h 0 v rfl
    rw [Nat.add_zero] at h0
    have hr := fits_of b got off d (i + 1) fun j w hw hin => by
      have := h (j + 1) w (by simpa using hw)
      rw [show i + (j + 1) = i + 1 + j by omega] at this
      exact this hin
    rw [show ((i + 1 : Nat) : Int) = (i : Int) + 1 by omega] at hr
    rw [hr, Bool.and_true]
    cases hin : inC got (off + (i : Int)) with
    | false => rfl
    | true => rw [if_pos rfl, h0 hin]; simp
theorem whole_chain {got : List Claim} {tot : Int} (h1 : 1 ≤ tot) (hc : chain tot (-1) got = true) : wholeG got tot = decide (tot - sumN got = 0) := by
  have hs := (sum_chain hc).2
  match got with
  | [] =>
    simp only [sumN]
    exact (decide_eq_false (by omega)).symm
  | [c] =>
    obtain ⟨q1, q2, q3, q4⟩ := chain_cons.1 hc
    simp only [sumN]
    rw [Bool.eq_iff_iff]
    simp only [wholeG, Bool.and_eq_true, beq_iff_eq, decide_eq_true_eq]
    constructor
    · rintro ⟨p1, p2⟩; exact decide_eq_true (by omega)
    · intro q
      have q := of_decide_eq_true q
      have q2 : c.2 = tot := by omega
      exact ⟨by omega, q2⟩
  | c :: d :: r =>
    have := hs (by simp)
    simp only [List.length_cons] at this
    exact (decide_eq_false (by omega)).symm
/-- Rows of flags. -/
theorem rows_fl {f : List Bool} {n : Nat} (hl : f.length = n) : RowS (n : Int) (fl f) (rowsF (fl f) [] 0 n) (n : Int) := by
  have := rows_s (n : Int) (fl f) n [] 0 (RowS.nil _ _) (by omega) (by omega)
  rwa [show (0 : Int) + (n : Int) = n by omega] at this
theorem rows_cnt {f : List Bool} {n : Nat} (hl : f.length = n) : (n : Int) - sumN (rowsF (fl f) [] 0 n) = cntF f := by
  have h := rows_fl hl
  have h1 := cnt_chain (i := 0) (k := n) h.ch (fun c hc => (h.ok.b c hc).1) (by omega)
  have h2 := cnt_cntF (rowsF (fl f) [] 0 n) f n 0 (by omega) (fun j _ hj => by
    rw [h.inn, decide_eq_true (show (0 : Int) ≤ (j : Int) by omega), decide_eq_true (show (j : Int) < (n : Int) by omega)]; rfl)
  rw [List.drop_zero, show ((0 : Nat) : Int) = 0 from rfl] at h2
  omega
theorem rows_whole {f : List Bool} {n : Nat} (hl : f.length = n) (h1 : 1 ≤ n) : wholeG (rowsF (fl f) [] 0 n) (n : Int) = decide (cntF f = 0) := by
  rw [whole_chain (by omega) (rows_fl hl).ch, rows_cnt hl]
/-- A session in which pieces of a block have come. -/
structure Wh (B : List Int) (s : Taking) (f : List Bool) (i : Nat) : Prop where
  a1 : s.1 = 3
  a2 : s.2.1 = 9
  a3 : s.2.2.1 = B.length
  len : s.2.2.2.1.length = B.length
  got : s.2.2.2.2.1 = rowsF (fl f) [] 0 B.length
  flen : f.length = B.length
  byt : ∀ j : Nat, fl f j = true → s.2.2.2.1[j]? = B[j]?
  ser : 0 ≤ s.2.2.2.2.2.1 ∧ s.2.2.2.2.2.1 ≤ i
  st : s.2.2.2.2.2.2.1 = if cntF f = 0 then 2 else 1
  life : s.2.2.2.2.2.2.2.1 = 50
  due : 0 ≤ s.2.2.2.2.2.2.2.2 ∧ s.2.2.2.2.2.2.2.2 ≤ 10000
theorem Wh.sm {B : List Int} {s : Taking} {f : List Bool} {i : Nat} (hb : 1 ≤ B.length ∧ B.length ≤ 512) (h : Wh B s f i) : SmT s := by
  refine ⟨by rw [h.len]; omega, ?_⟩
  rw [h.got]
  have := (rows_fl h.flen).ok.l
  omega
theorem Wh.right {B : List Int} {s : Taking} {f : List Bool} {i : Nat} (hb : 1 ≤ B.length ∧ B.length ≤ 512) (h : Wh B s f i) : rightB s = true := by
  refine right_iff.2 ⟨?_, ?_, ?_⟩
  · simp only [preB, inB, Bool.and_eq_true, decide_eq_true_eq, beq_iff_eq, h.a1, h.a2, h.a3, h.len, and_true]
    omega
  · rw [h.a3, h.got]; exact (rows_fl h.flen).ch
  · have hw : wholeB s = decide (cntF f = 0) := by rw [wholeB_G, h.got, h.a3]; exact rows_whole h.flen hb.1
    have hd := h.due
    simp only [postB, inB, h.life, hw, h.st]
    rw [decide_eq_true (show (1 : Int) ≤ 50 by omega), decide_eq_true (show (50 : Int) ≤ 65536 by omega), decide_eq_true hd.1, decide_eq_true (show s.2.2.2.2.2.2.2.2 ≤ 1114112 by omega)]
    by_cases hc : cntF f = 0
    · rw [if_pos hc, decide_eq_true hc]; rfl
    · rw [if_neg hc, decide_eq_false hc]; rfl
theorem Wh.step {B : List Int} {s : Taking} {f : List Bool} {i : Nat} (hb : 1 ≤ B.length ∧ B.length ≤ 512) (h : Wh B s f i) (hi : i ≤ 100) {off len : Int} (ck : Bool) {sn : Int} (hp : PcAt B off len) (hs : 1 ≤ sn) {now : Int} (hn : 0 ≤ now ∧ now ≤ 2000) {f' : List Bool} (hl' : f'.length = f.length) (hff : ∀ j : Nat, fl f' j = (fl f j || ownB off len j)) :
    Wh B (takeF s (pc B off len ck sn) now).1 f' (i + 1) ∧ (ck = true → ∃ r, (takeF s (pc B off len ck sn) now).2 = [r] ∧ RepOk f' sn r) ∧ (ck = false → (takeF s (pc B off len ck sn) now).2 = []) := by
  have hpl := pc_len (ck := ck) (s := sn) hp
  obtain ⟨s1, s2, s3, s4, s5, s6, s7, s8, s9⟩ := s
  obtain ⟨q1, q2, q3, q4, q5, q6, q7, q8, q9, q10, q11⟩ := h
  simp only at q1 q2 q3 q4 q5 q7 q8 q9 q10 q11
  subst q1 q2 q3 q10
  obtain ⟨p1, p2, p3⟩ := hp
  have R := rows_fl q6
  rw [← q5] at R
  have R' := rows_fl (hl'.trans q6)
  generalize hD : (B.drop off.toNat).take len.toNat = d
  have hdl : (d.length : Int) = len := by rw [← hD]; exact hpl
  have hdg : ∀ j : Nat, j < d.length → d[j]? = B[off.toNat + j]? := fun j hj => by
    rw [← hD, List.getElem?_take, if_pos (by omega), List.getElem?_drop]
  have hx : pc B off len ck sn = (1, 3, 9, if ck then sn else 0, 0, off, (B.length : Int), 0, 0, 0, ck, d, []) := by unfold pc; rw [hD]
  have hfit : fitsB s4 s5 off d 0 = true := fits_of s4 s5 off d 0 fun j v hv hin => by
    have hj := (List.getElem?_eq_some_iff.1 hv).1
    rw [R.inn] at hin
    simp only [Bool.and_eq_true, decide_eq_true_eq] at hin
    have e : off + ((0 + j : Nat) : Int) = ((off.toNat + j : Nat) : Int) := by omega
    rw [e] at hin ⊢
    rw [Int.toNat_natCast, q7 _ hin.2, ← hdg j hj, hv]
  have hg' : putG s5 (B.length : Int) off d.length = rowsF (fl f') [] 0 B.length := by
    unfold putG
    rw [Int.toNat_natCast]
    refine rows_congr _ _ _ _ _ fun j j0 j1 => ?_
    obtain ⟨m, rfl⟩ := Int.eq_ofNat_of_zero_le j0
    rw [hff m, R.inn, hdl, decide_eq_true j0, decide_eq_true (show (m : Int) < (B.length : Int) by omega), Bool.true_and, Bool.true_and]
  have hwg : wholeG (rowsF (fl f') [] 0 B.length) (B.length : Int) = decide (cntF f' = 0) := rows_whole (hl'.trans q6) hb.1
  have hput := putB_len s4 off d p1 (by omega)
  have hbyt : ∀ j : Nat, fl f' j = true → (putB s4 off d)[j]? = B[j]? := fun j hj => by
    rw [putB_get s4 off d p1 (by omega) j, hdl]
    rw [hff j] at hj
    cases ho : ownB off len (j : Int) with
    | true =>
      rw [if_pos rfl]
      simp only [ownB, Bool.and_eq_true, decide_eq_true_eq] at ho
      rw [hdg _ (by omega)]
      congr 1
      omega
    | false =>
      rw [ho, Bool.or_false] at hj
      rw [if_neg (by simp)]
      exact q7 j hj
  have hst : (if decide (cntF f' = 0) = true then (2 : Int) else s7) = if cntF f' = 0 then 2 else 1 := by
    by_cases hc : cntF f' = 0
    · rw [if_pos (decide_eq_true hc), if_pos hc]
    · rw [if_neg (by simpa using hc), if_neg hc, q9, if_neg]
      intro h0
      apply hc
      refine cntF_all f' fun j hj => ?_
      have h1 := cntF_zero f h0 j (by omega)
      have h2 := hff j
      rw [fl_nat, fl_nat, h1] at h2
      rw [List.getElem?_eq_getElem hj] at h2 ⊢
      simpa using h2
  have hns : nextS s6 = s6 + 1 := by
    unfold nextS
    rw [wu32 (by omega), if_neg (by omega)]
  have hs7 : ¬ s7 = 4 := by rw [q9]; split <;> omega
  have ht : takeF (3, 9, (B.length : Int), s4, s5, s6, s7, 50, s9) (pc B off len ck sn) now = if ck then ((3, 9, (B.length : Int), putB s4 off d, rowsF (fl f') [] 0 B.length, nextS s6, (if cntF f' = 0 then 2 else 1), 50, now + 50), [(2, 3, 9, nextS s6, (if ck then sn else 0), 0, 0, 0, (B.length : Int), 0, false, [], (rowsF (fl f') [] 0 B.length).take 20)])
      else ((3, 9, (B.length : Int), putB s4 off d, rowsF (fl f') [] 0 B.length, s6, (if cntF f' = 0 then 2 else 1), 50, now + 50), []) := by
    rw [hx]
    unfold takeF
    rw [if_pos rfl]
    unfold dataF
    rw [if_neg hs7, if_pos ⟨rfl, hfit⟩]
    simp only [hg', hwg, hst]
  have hcb := R'.ok.b
  have hwh : ∀ sr : Int, 0 ≤ sr → sr ≤ ((i + 1 : Nat) : Int) → Wh B (3, 9, (B.length : Int), putB s4 off d, rowsF (fl f') [] 0 B.length, sr, (if cntF f' = 0 then 2 else 1), 50, now + 50) f' (i + 1) := fun sr h0 h1 =>
    ⟨rfl, rfl, rfl, by show (putB s4 off d).length = _; rw [hput, q4], rfl, hl'.trans q6, hbyt, ⟨h0, h1⟩, rfl, rfl, by show 0 ≤ now + 50 ∧ now + 50 ≤ 10000; omega⟩
  rw [ht]
  cases ck with
  | false => exact ⟨hwh s6 q8.1 (by omega), (fun h => by cases h), fun _ => rfl⟩
  | true =>
    refine ⟨hwh (nextS s6) (by rw [hns]; omega) (by rw [hns]; omega), fun _ => ⟨_, rfl, ?_⟩, fun h => by cases h⟩
    have hlen20 : ((rowsF (fl f') [] 0 B.length).take 20).length ≤ 20 := by rw [List.length_take]; omega
    have hmem : ∀ c ∈ (rowsF (fl f') [] 0 B.length).take 20, c ∈ rowsF (fl f') [] 0 B.length := fun c hc => List.mem_of_mem_take hc
    refine ⟨rfl, rfl, ?_, ⟨by simp, by show ((rowsF (fl f') [] 0 B.length).take 20).length < 1000000; omega⟩, fun c hc => ?_, fun c hc j j0 j1 => ?_⟩
    · have hcl : claimB 0 (B.length : Int) ((rowsF (fl f') [] 0 B.length).take 20) = true := by
        unfold claimB
        rw [Bool.and_eq_true]
        exact ⟨decide_eq_true (by omega), chain_take 20 R'.ch⟩
      unfold segOk
      rw [Bool.and_eq_true, Bool.and_eq_true]
      refine ⟨⟨rfl, ?_⟩, (sameS_iff _ _).2 rfl⟩
      show (decide (nextS s6 > 0) && decide ((if true = true then sn else 0) > 0) && inB (B.length : Int) 1 512 && inB 0 0 ((B.length : Int) - 1) && claimB 0 (B.length : Int) ((rowsF (fl f') [] 0 B.length).take 20)) = true
      rw [hcl, hns, if_pos rfl]
      simp only [inB, Bool.and_eq_true, decide_eq_true_eq, and_true]
      omega
    · have hc0 := hcb c (hmem c hc)
      rw [hl', q6]
      exact ⟨hc0.1, by omega, hc0.2.2⟩
    · have hin : inC (rowsF (fl f') [] 0 B.length) j = true := List.any_eq_true.2 ⟨c, hmem c hc, by simp only [Bool.and_eq_true, decide_eq_true_eq]; exact ⟨j0, j1⟩⟩
      rw [R'.inn] at hin
      simp only [Bool.and_eq_true] at hin
      exact hin.2
theorem pc_ok {B : List Int} (hb : 1 ≤ B.length ∧ B.length ≤ 512) {off len : Int} (ck : Bool) {sn : Int} (hp : PcAt B off len) (hs : 1 ≤ sn) : segOk (pc B off len ck sn) = true ∧ SmS (pc B off len ck sn) := by
  have hpl := pc_len (ck := ck) (s := sn) hp
  obtain ⟨p1, p2, p3⟩ := hp
  refine ⟨?_, ⟨by omega, by show ([] : List Claim).length < 1000000; simp⟩⟩
  unfold segOk
  rw [Bool.and_eq_true, Bool.and_eq_true]
  refine ⟨⟨rfl, ?_⟩, (sameS_iff _ _).2 (by unfold onlyF; rw [if_pos (show (pc B off len ck sn).1 = 1 from rfl)]; rfl)⟩
  unfold kindB
  rw [if_pos (show (pc B off len ck sn).1 = 1 from rfl), hpl]
  simp only [inB, Bool.and_eq_true, decide_eq_true_eq]
  refine ⟨⟨⟨⟨by show (1 : Int) ≤ (B.length : Int); omega, by show (B.length : Int) ≤ 512; omega⟩, by omega⟩, ⟨by show 0 ≤ off; omega, by show off ≤ (B.length : Int) - len; omega⟩⟩, ?_⟩
  show (ck == decide ((if ck = true then sn else 0) > 0)) = true
  cases ck with
  | true => rw [if_pos rfl, decide_eq_true (show sn > 0 by omega)]; rfl
  | false => rfl
theorem new_wh (B : List Int) (hb : 1 ≤ B.length ∧ B.length ≤ 512) (off len : Int) (ck : Bool) (sn : Int) : Wh B (newT (pc B off len ck sn) 50) (List.replicate B.length false) 0 := by
  have hf : ∀ j : Int, fl (List.replicate B.length false) j = false := fun j => by
    unfold fl
    rw [List.getElem?_replicate]
    split <;> rfl
  have hr : ∀ (k : Nat) (i : Int), rowsF (fl (List.replicate B.length false)) [] i k = [] := by
    intro k
    induction k with
    | zero => intro i; rfl
    | succ k ih => intro i; simp only [rowsF, hf, Bool.false_eq_true, if_false]; exact ih (i + 1)
  have hc : ∀ n : Nat, cntF (List.replicate n false) = n := by
    intro n
    induction n with
    | zero => rfl
    | succ n ih => rw [List.replicate_succ]; simp only [cntF, Bool.false_eq_true, if_false, ih]; omega
  refine ⟨rfl, rfl, rfl, by simp [newT, pc], ?_, by simp, fun j h => ?_, ⟨Int.le_refl _, Int.le_refl _⟩, ?_, rfl, ⟨by show (0 : Int) ≤ 0; omega, by show (0 : Int) ≤ 10000; omega⟩⟩
  · rw [hr]; rfl
  · rw [hf] at h; cases h
  · rw [hc, if_neg (by omega)]; rfl
theorem b64 (B : List Int) (hb : 1 ≤ B.length ∧ B.length ≤ 512) (t : Int) (ht : 0 ≤ t ∧ t < 1000) (P : List Segment) (hP : P.length ≤ 46) (i : Nat) (f : List Bool) (s0 : Taking) (s1 s2 s3 : Int) (s4 : List Int) (s5 : List Claim) (s6 s7 s8 s9 : Int) (off len : Int) (ck : Bool) (hp : PcAt B off len) (hx : P[i]? = some (pc B off len ck ((i + 1 : Nat) : Int))) (hW : Wh B s0 f i)
    (h0 : i = 0 → s0 = newT (pc B off len ck ((i + 1 : Nat) : Int)) 50) (h1 : i ≠ 0 → s0 = (s1, s2, s3, s4, s5, s6, s7, s8, s9)) :
    ∃ (f' : List Bool) (b1 b2 b3 : Int) (b4 : List Int) (b5 : List Claim) (b6 b7 b8 b9 : Int), f'.length = f.length ∧ (∀ j : Nat, fl f' j = (fl f j || ownB off len j)) ∧ Wh B (b1, b2, b3, b4, b5, b6, b7, b8, b9) f' (i + 1) ∧
      g6x4 (B, f, cntF f, t, P, (P.length : Int), (i : Int), s1, s2, s3, s4, s5, s6, s7, s8, s9) = some (.inl (B, f', cntF f', t, P, (P.length : Int), ((i + 1 : Nat) : Int), b1, b2, b3, b4, b5, b6, b7, b8, b9)) := by
  have hil : i < P.length := (List.getElem?_eq_some_iff.1 hx).1
  have hd : decide ((i : Int) < (P.length : Int)) = true := decide_eq_true (by omega)
  have hix : idx P (i : Int) = some (pc B off len ck ((i + 1 : Nat) : Int)) := by rw [idx_nat, hx]
  obtain ⟨ok, smx⟩ := pc_ok hb ck hp (show 1 ≤ ((i + 1 : Nat) : Int) by omega)
  have hpl := pc_len (ck := ck) (s := ((i + 1 : Nat) : Int)) hp
  have hw : IntKind.i64.wrap (t + (i : Int)) = t + i := wi64 (by omega)
  have hnx := wnext (show i < 1000000000000 by omega)
  have sel : (i = 0 → g24 (pc B off len ck ((i + 1 : Nat) : Int)) t 50 = some ((takeF s0 (pc B off len ck ((i + 1 : Nat) : Int)) (t + i)).1, (takeF s0 (pc B off len ck ((i + 1 : Nat) : Int)) (t + i)).2, 0)) ∧ (i ≠ 0 → g19 (s1, s2, s3, s4, s5, s6, s7, s8, s9) (pc B off len ck ((i + 1 : Nat) : Int)) (t + i) = some ((takeF s0 (pc B off len ck ((i + 1 : Nat) : Int)) (t + i)).1, (takeF s0 (pc B off len ck ((i + 1 : Nat) : Int)) (t + i)).2, 0)) := by
    refine ⟨fun hi => ?_, fun hi => ?_⟩
    · rw [w24 _ t 50 smx, if_pos ⟨ok, rfl, by omega, by omega⟩, h0 hi, show t + (i : Int) = t by omega]
    · rw [← h1 hi, w19 s0 _ _ (hW.sm hb) smx, if_pos (hW.right hb), if_pos ⟨ok, hW.a1.symm, hW.a2.symm, rfl, by omega, by omega⟩]
  obtain ⟨x1, x2, x3, x4, x5, x6, x7, x8, x9, x10, x11, x12, x13, hxe⟩ : ∃ x1 x2 x3 x4 x5 x6 x7 x8 x9 x10 x11 x12 x13, pc B off len ck ((i + 1 : Nat) : Int) = (x1, x2, x3, x4, x5, x6, x7, x8, x9, x10, x11, x12, x13) := ⟨_, _, _, _, _, _, _, _, _, _, _, _, _, rfl⟩
  have e6 : x6 = off := by have := congrArg (fun z : Segment => z.2.2.2.2.2.1) hxe; exact this.symm
  have e4 : x4 = if ck then ((i + 1 : Nat) : Int) else 0 := by have := congrArg (fun z : Segment => z.2.2.2.1) hxe; exact this.symm
  have e11 : x11 = ck := by have := congrArg (fun z : Segment => z.2.2.2.2.2.2.2.2.2.2.1) hxe; exact this.symm
  have e12 : (x12.length : Int) = len := by rw [hxe] at hpl; exact hpl
  have hbp := hp.f
  have hbo := hp.o
  have hbl := hp.l
  have hfl := hW.flen
  have l6 := fun (sn : List Segment) (e : Int) (P : List Segment) (pl ix : Int) (a1 a2 a3 : Int) (a4 : List Int) (a5 : List Claim) (a6 a7 a8 a9 : Int) => l60 B t sn e P pl ix x12.length a1 a2 a3 a4 a5 a6 a7 a8 a9 x1 x2 x3 x4 x5 x6 x7 x8 x9 x10 x11 x12 x13 (by omega) (by omega) x12.length 0 f (by omega) (by omega) (by omega)
  obtain ⟨f', _, hl', hff0⟩ := l6 [] 0 [] 0 0 0 0 0 [] [] 0 0 0 0
  have hff : ∀ j : Nat, fl f' j = (fl f j || ownB off len j) := fun j => by
    rw [hff0 j]; unfold ownB
    rw [e12, e6, show off + ((0 : Nat) : Int) = off by omega]
  obtain ⟨W, rep1, rep0⟩ := hW.step hb (by omega) ck hp (show 1 ≤ ((i + 1 : Nat) : Int) by omega) (now := t + i) (by omega) hl' hff
  rw [hxe] at sel hix W rep1 rep0
  generalize hr : takeF s0 (x1, x2, x3, x4, x5, x6, x7, x8, x9, x10, x11, x12, x13) (t + i) = r at *
  obtain ⟨⟨b1, b2, b3, b4, b5, b6, b7, b8, b9⟩, sent⟩ := r
  simp only at W rep1 rep0 sel
  obtain ⟨g, hg0, hlg, hfg⟩ := l6 sent 0 P (P.length : Int) (i : Int) b1 b2 b3 b4 b5 b6 b7 b8 b9
  have hgf : g = f' := by
    apply List.ext_getElem (by rw [hlg, hl'])
    intro j j1 j2
    have q := hfg j
    rw [← hff0 j, fl_nat, fl_nat, List.getElem?_eq_getElem j1, List.getElem?_eq_getElem j2] at q
    exact q
  subst hgf
  rw [show ((0 : Nat) : Int) = 0 from rfl] at hg0
  have Wsm := W.sm hb
  have Wr := W.right hb
  have Wwh : wholeB (b1, b2, b3, b4, b5, b6, b7, b8, b9) = decide (cntF g = 0) := by rw [wholeB_G, W.got, W.a3]; exact rows_whole W.flen hb.1
  have h13 := w13 (b1, b2, b3, b4, b5, b6, b7, b8, b9) Wsm
  rw [Wr, if_pos rfl, Wwh] at h13
  have h16 := w16 (b1, b2, b3, b4, b5, b6, b7, b8, b9) Wsm
  rw [Wr, if_pos rfl] at h16
  have h14 := w14 (b1, b2, b3, b4, b5, b6, b7, b8, b9) Wsm
  rw [Wr, if_pos rfl, W.a3, W.got, rows_cnt W.flen] at h14
  have W4 : b4.length = B.length := W.len
  have h29 := w29 b4 B (by omega)
  have hb4 : cntF g = 0 → b4 = B := fun hc => by
    apply List.ext_getElem? 
    intro j
    by_cases hj : j < B.length
    · have := cntF_zero g hc j (by rw [W.flen]; exact hj)
      exact W.byt j (by rw [fl_nat, this]; rfl)
    · rw [List.getElem?_eq_none (by omega), List.getElem?_eq_none (by omega)]
  have hg3 : lpU g6x3 (B, g, cntF g, t, P, (P.length : Int), (i : Int), sent, (sent.length : Int), 0, b1, b2, b3, b4, b5, b6, b7, b8, b9, x1, x2, x3, x4, x5, x6, x7, x8, x9, x10, x11, x12, x13) = some (.inl (B, g, cntF g, t, P, (P.length : Int), (i : Int), b1, b2, b3, b4, b5, b6, b7, b8, b9)) := by
    cases ck with
    | true =>
      obtain ⟨rp, hrp, hok⟩ := rep1 rfl
      rw [hrp]
      rw [if_pos rfl] at e4
      rw [← e4] at hok
      exact l631 B g (cntF g) t P (P.length : Int) (i : Int) b1 b2 b3 b4 b5 b6 b7 b8 b9 x1 x2 x3 x4 x5 x6 x7 x8 x9 x10 x11 x12 x13 rp (by rw [W.flen]; omega) hok
    | false =>
      rw [rep0 rfl]
      exact l630 B g (cntF g) t P (P.length : Int) (i : Int) b1 b2 b3 b4 b5 b6 b7 b8 b9 x1 x2 x3 x4 x5 x6 x7 x8 x9 x10 x11 x12 x13 [] 0 0 (by omega)
  have hsl : (((sent.length : Int) == 1) == x11) = true ∧ decide ((sent.length : Int) > 1) = false := by
    rw [e11]
    cases ck with
    | true =>
      obtain ⟨rp, hrp, hok⟩ := rep1 rfl
      rw [hrp]; exact ⟨rfl, rfl⟩
    | false => rw [rep0 rfl]; exact ⟨rfl, rfl⟩
  refine ⟨g, b1, b2, b3, b4, b5, b6, b7, b8, b9, hl', hff, W, ?_⟩
  have fin : ∀ c : Bool, (decide (cntF g = 0) = c) → (c = true → b4 = B) → ((cntF g == 0) = c) := fun c hc _ => by
    rw [← hc, Bool.eq_iff_iff]; simp
  have hz0 : (cntF g == 0) = decide (cntF g = 0) := by rw [Bool.eq_iff_iff]; simp
  by_cases hi : i = 0
  · have hi0 : ((i : Int) == 0) = true := by subst hi; rfl
    simp only [g6x4, hd, if_true, hix, Option.bind_some, hi0, sel.1 hi, hg0, h13, bne_self_eq_false, Bool.not_false, h16, Bool.false_eq_true, if_false, h14, hz0, hg3, hsl.1, hsl.2, hnx]
    by_cases hc : cntF g = 0
    · simp only [decide_eq_true hc, if_true, beq_self_eq_true, bne_self_eq_false, Bool.false_eq_true, if_false, Bool.not_false, Bool.and_true, h29, decide_eq_true (hb4 hc), Option.bind_some, Bool.not_true, hg3, hnx]
    · simp only [decide_eq_false hc, Bool.false_eq_true, if_false, Bool.not_false, show ((4 : Int) == 0) = false from rfl, beq_self_eq_true, bne_self_eq_false, Bool.and_false, Option.bind_some, hg3, hnx]
  · have hi0 : ((i : Int) == 0) = false := by simpa using (show (i : Int) ≠ 0 by omega)
    simp only [g6x4, hd, if_true, hix, Option.bind_some, hi0, hw, sel.2 hi, hg0, h13, bne_self_eq_false, Bool.not_false, h16, Bool.false_eq_true, if_false, h14, hz0, hg3, hsl.1, hsl.2, hnx]
    by_cases hc : cntF g = 0
    · simp only [decide_eq_true hc, if_true, beq_self_eq_true, bne_self_eq_false, Bool.false_eq_true, if_false, Bool.not_false, Bool.and_true, h29, decide_eq_true (hb4 hc), Option.bind_some, Bool.not_true, hg3, hnx]
    · simp only [decide_eq_false hc, Bool.false_eq_true, if_false, Bool.not_false, show ((4 : Int) == 0) = false from rfl, beq_self_eq_true, bne_self_eq_false, Bool.and_false, Option.bind_some, hg3, hnx]
theorem tm_rng6 (z : Int) : 0 ≤ (if (0 : Int) > z then (0 : Int) else z).tmod 1000 ∧ (if (0 : Int) > z then (0 : Int) else z).tmod 1000 < 1000 :=
  ⟨Int.tmod_nonneg _ (mx_nn z), Int.tmod_lt_of_pos _ (by omega)⟩
theorem l64 (B : List Int) (hb : 1 ≤ B.length ∧ B.length ≤ 512) (t : Int) (ht : 0 ≤ t ∧ t < 1000) (P : List Segment) (hP : P.length ≤ 46) (hok : Pcs B P) : ∀ (k i : Nat) (f : List Bool) (s1 s2 s3 : Int) (s4 : List Int) (s5 : List Claim) (s6 s7 s8 s9 : Int), i + k = P.length → f.length = B.length → (i = 0 → f = List.replicate B.length false) → (i ≠ 0 → Wh B (s1, s2, s3, s4, s5, s6, s7, s8, s9) f i) → (∀ (m : Nat) x, m < i → P[m]? = some x → ∀ j : Nat, inP x j = true → fl f j = true) → 0 < P.length →
    ∃ (f' : List Bool) (b1 b2 b3 : Int) (b4 : List Int) (b5 : List Claim) (b6 b7 b8 b9 : Int), Wh B (b1, b2, b3, b4, b5, b6, b7, b8, b9) f' P.length ∧ (∀ (m : Nat) x, P[m]? = some x → ∀ j : Nat, inP x j = true → fl f' j = true) ∧
      lpU g6x4 (B, f, cntF f, t, P, (P.length : Int), (i : Int), s1, s2, s3, s4, s5, s6, s7, s8, s9) = some (.inl (cntF f', b1, b2, b3, b4, b5, b6, b7, b8, b9))
  | 0, i, f, s1, s2, s3, s4, s5, s6, s7, s8, s9, hi, hfl, hf0, hW, hcov, hpos => by
    have hd : decide ((i : Int) < (P.length : Int)) = false := decide_eq_false (by omega)
    have hW := hW (by omega)
    rw [show i = P.length by omega] at hW
    exact ⟨f, s1, s2, s3, s4, s5, s6, s7, s8, s9, hW, fun m x hx => hcov m x (by have := (List.getElem?_eq_some_iff.1 hx).1; omega) hx, lp_end (by simp only [g6x4, hd, Bool.false_eq_true, if_false])⟩
  | k + 1, i, f, s1, s2, s3, s4, s5, s6, s7, s8, s9, hi, hfl, hf0, hW, hcov, hpos => by
    have hil : i < P.length := by omega
    obtain ⟨x, hx⟩ : ∃ x, P[i]? = some x := ⟨_, List.getElem?_eq_getElem hil⟩
    obtain ⟨off, len, ck, hp, rfl⟩ := hok.ok i x hx
    have go : ∃ s0 : Taking, Wh B s0 f i ∧ (i = 0 → s0 = newT (pc B off len ck ((i + 1 : Nat) : Int)) 50) ∧ (i ≠ 0 → s0 = (s1, s2, s3, s4, s5, s6, s7, s8, s9)) := by
      by_cases hz : i = 0
      · refine ⟨newT (pc B off len ck ((i + 1 : Nat) : Int)) 50, ?_, fun _ => rfl, fun h => absurd hz h⟩
        rw [hf0 hz]
        subst hz
        exact new_wh B hb off len ck _
      · exact ⟨(s1, s2, s3, s4, s5, s6, s7, s8, s9), hW hz, fun h => absurd h hz, fun _ => rfl⟩
    obtain ⟨s0, hW0, h0, h1⟩ := go
    obtain ⟨f', b1, b2, b3, b4, b5, b6, b7, b8, b9, q1, q2, q3, q4⟩ := b64 B hb t ht P hP i f s0 s1 s2 s3 s4 s5 s6 s7 s8 s9 off len ck hp hx hW0 h0 h1
    obtain ⟨f'', c1, c2, c3, c4, c5, c6, c7, c8, c9, r1, r2, r3⟩ := l64 B hb t ht P hP hok k (i + 1) f' b1 b2 b3 b4 b5 b6 b7 b8 b9 (by omega) (by rw [q1, hfl]) (fun h => by omega) (fun _ => q3) (fun m x hm hmx j hj => by
      rw [q2 j]
      by_cases e : m = i
      · subst e
        rw [hx] at hmx
        injection hmx with hmx
        subst hmx
        unfold inP at hj
        rw [pc_len hp] at hj
        have : ownB off len (j : Int) = true := hj
        rw [this, Bool.or_true]
      · rw [hcov m x (by omega) hmx j hj, Bool.true_or]) hpos
    exact ⟨f'', c1, c2, c3, c4, c5, c6, c7, c8, c9, r1, r2, by rw [lp_next q4, r3]⟩
theorem w6 (B : List Int) (l : List Cut) (now : Int) : g6 B l now = some true := by
  unfold g6
  rw [w8, Option.bind_some]
  simp only [Bool.not_true, Bool.false_eq_true, if_false]
  by_cases hb : 1 ≤ B.length ∧ B.length ≤ 512
  · have hc : (if decide ((B.length : Int) < 1) = true then true else decide ((B.length : Int) > 512)) = false := by
      rw [decide_eq_false (show ¬ (B.length : Int) < 1 by omega), decide_eq_false (show ¬ (B.length : Int) > 512 by omega)]; rfl
    obtain ⟨P, p1, p2, p3, p4⟩ := w28 B l hb
    have ht := tm_rng6 now
    have hpos : 0 < P.length := by
      obtain ⟨x, hx, _⟩ := p4 0 (by omega) (by omega)
      exact List.length_pos_of_mem hx
    have hcf : cntF (List.replicate B.length false) = (B.length : Int) := by
      generalize B.length = n
      induction n with
      | zero => rfl
      | succ n ih => rw [List.replicate_succ]; simp only [cntF, Bool.false_eq_true, if_false, ih]; omega
    obtain ⟨f', b1, b2, b3, b4, b5, b6, b7, b8, b9, r1, r2, r3⟩ := l64 B hb _ ht P p3 p2 P.length 0 (List.replicate B.length false) 0 0 0 [] [] 0 0 0 0 (by omega) (by simp) (fun _ => rfl) (fun h => absurd rfl h) (fun m x hm => by omega) hpos
    rw [hcf, show ((0 : Nat) : Int) = 0 from rfl] at r3
    have hall : cntF f' = 0 := cntF_all f' fun j hj => by
      have hfl := r1.flen
      obtain ⟨x, hx, hin⟩ := p4 (j : Int) (by omega) (by omega)
      obtain ⟨m, hm⟩ := List.mem_iff_getElem?.1 hx
      have := r2 m x hm j hin
      rw [fl_nat, List.getElem?_eq_getElem hj] at this
      rw [List.getElem?_eq_getElem hj]
      exact congrArg some this
    have hst := r1.st
    rw [if_pos hall] at hst
    simp only at hst
    simp only [hc, Bool.false_eq_true, if_false, mkl_ok (show 0 ≤ (B.length : Int) by omega) (Int.le_refl _) (show ((1 : Nat) : Int) * (B.length : Int) ≤ 140737488355328 by omega), Option.bind_some, Int.toNat_natCast, p1, r3, hall, hst]
    rfl
  · have hc : (if decide ((B.length : Int) < 1) = true then true else decide ((B.length : Int) > 512)) = true := by
      by_cases h1 : (B.length : Int) < 1
      · rw [decide_eq_true h1]; rfl
      · rw [decide_eq_false h1, decide_eq_true (show (B.length : Int) > 512 by omega)]; rfl
    rw [hc]; rfl
end Go.Proofs.Ytmbhpchkhilheaa.Ev.U
