/- The check holds. Conditions: none. -/
import Derived.Test.YtiglckehhfbliaaEvS
set_option linter.all false
namespace Go.Proofs.Ytiglckehhfbliaa.Ev
open Go
variable (P : Program)

theorem zip_self {α β : Type} (l : List (α × β)) : (l.map (·.1)).zip (l.map (·.2)) = l := by
  induction l with
  | nil => rfl
  | cons x l ih => simp [ih]
theorem arr1 {α : Type} {a : Array α} {l : List α} (h : a.toList = l) : a = l.toArray := by rw [← h]
theorem call_eta (c : Call) : c = ⟨c.callee, c.args, c.argTypes⟩ := rfl

set_option maxHeartbeats 1000000 in
theorem okOp_ok {o : Go.Op} {p : Op} (h : okOp P o p = true) : MOp P o p := by
  unfold okOp at h
  split at h
  · exact .mv (okD_ok h)
  · exact .asg (okD_ok h)
  · simp only [Bool.and_eq_true] at h; exact .pk (okD_ok h.1.1) (okD_ok h.1.2) (okD_ok h.2)
  · split at h
    · rename_i i hi
      split at h
      · rename_i v hv
        simp only [Bool.and_eq_true] at h
        exact .al hi hv (okCells_ok h.1) h.2
      · cases h
    · cases h
  · exact .bx (okD_ok h)
  · simp only [Bool.and_eq_true] at h; exact .ld (okD_ok h.1) (okSz_ok P h.2)
  · simp only [Bool.and_eq_true] at h; exact .ldm (okD_ok h.1) (okSz_ok P h.2)
  · simp only [Bool.and_eq_true] at h
    obtain ⟨⟨h1, h2⟩, h3⟩ := h
    split at h3
    · rename_i i hi; exact .st (okD_ok h1) (okD_ok h2) hi (beq_iff_eq.1 h3)
    · cases h3
  · simp only [Bool.and_eq_true] at h; exact .bin (okB_ok h.1.1) (okD_ok h.1.2) (okD_ok h.2)
  · exact .no (okD_ok h)
  · rename_i op t x xr x'
    simp only [Bool.and_eq_true] at h
    obtain ⟨h1, h2⟩ := h
    split at h2
    · subst h2; exact .xr (okD_ok h1)
    · obtain rfl : xr = false := by simpa using h2
      exact .ng (okD_ok h1)
    · cases h2
  · simp only [Bool.and_eq_true] at h
    obtain ⟨h1, h2⟩ := h
    split at h2
    · rename_i fs hfs
      split at h2
      · rename_i fd hfd
        simp only [Bool.and_eq_true, beq_iff_eq] at h2
        obtain ⟨h3, h4⟩ := h2
        split at h4
        · rename_i i hi; exact .fa (okD_ok h1) hfs hfd h3 hi (by simpa using h4)
        · cases h4
      · cases h2
    · cases h2
  · simp only [Bool.and_eq_true] at h
    obtain ⟨h1, h2⟩ := h
    split at h2
    · rename_i n e hu
      simp only [Bool.and_eq_true, decide_eq_true_eq] at h2
      obtain ⟨⟨h3, h4⟩, h5⟩ := h2
      split at h5
      · rename_i i hi; exact .fai (okD_ok h1) hu hi h3 h4 (beq_iff_eq.1 h5)
      · cases h5
    · cases h2
  · simp only [Bool.and_eq_true] at h
    obtain ⟨e, i, q1, q2, q3⟩ := okE_ok P h.2
    exact .ia (okD_ok h.1.1) (okD_ok h.1.2) q1 q2 (beq_iff_eq.1 q3)
  · simp only [Bool.and_eq_true] at h
    obtain ⟨⟨h1, h2⟩, h3⟩ := h
    split at h3
    · rename_i hu; exact .six (okD_ok h1) (okD_ok h2) hu
    · cases h3
  · simp only [Bool.and_eq_true, beq_iff_eq] at h; rw [h.2]; exact .ext (okD_ok h.1)
  · rename_i c f args
    split at h
    · rename_i f' hc
      simp only [Bool.and_eq_true, beq_iff_eq, Nat.blt_eq] at h
      rw [call_eta c, hc, ← h.1.1]; exact .call h.1.2 (okA_ok h.2)
    · cases h
  · rename_i c f args
    split at h
    · rename_i f' hc
      simp only [Bool.and_eq_true, beq_iff_eq, Nat.blt_eq] at h
      rw [call_eta c, hc, ← h.1.1]; exact .calf h.1.2 (okA_ok h.2)
    · cases h
  · rename_i c f args
    split at h
    · rename_i f' hc
      simp only [Bool.and_eq_true] at h
      rw [call_eta c, hc]; exact .cv (okD_ok h.1) (okA_ok h.2)
    · cases h
  · rename_i c x
    split at h
    · rename_i y t hc ha ht
      simp only [Bool.and_eq_true] at h
      obtain ⟨e, i, q1, q2, q3⟩ := okE_ok P h.2
      rw [call_eta c, hc, arr1 ha, arr1 ht]; exact .lenS (okD_ok h.1) q1
    · cases h
  · rename_i c x
    split at h
    · rename_i y t hc ha ht
      simp only [Bool.and_eq_true] at h
      obtain ⟨h1, h2⟩ := h
      split at h2
      · rename_i hu
        rw [call_eta c, hc, arr1 ha, arr1 ht]; exact .lenT (okD_ok h1) hu
      · cases h2
    · cases h
  · rename_i c wm z by_ x y
    split at h
    · rename_i x' y' t tx hc ha ht
      simp only [Bool.and_eq_true] at h
      obtain ⟨⟨⟨h1, h2⟩, h3⟩, h4⟩ := h
      obtain ⟨e, i, q1, q2, q3⟩ := okE_ok P h3
      obtain ⟨r1, ⟨zv, r2, r3⟩, r4, r5⟩ := okZ_ok q3
      obtain ⟨r6, r7⟩ := r5 by_ rfl
      split at h4
      · rename_i e' he'
        rw [call_eta c, hc, arr1 ha, arr1 ht]
        exact .ap (okD_ok h1) (okD_ok h2) q1 he' q2 r2 r1 r6 r3 r4 r7
      · cases h4
    · cases h
  · rename_i c mx x r
    split at h
    · rename_i b x' r' hc ha
      simp only [Bool.and_eq_true] at h
      obtain ⟨⟨h1, h2⟩, h3⟩ := h
      obtain ⟨k1, k2⟩ := okDs_ok h3
      split at h1
      · subst h1; rw [call_eta c, hc, arr1 ha]; exact .mx (okD_ok h2) k1 k2
      · obtain rfl : mx = false := by simpa using h1
        rw [call_eta c, hc, arr1 ha]; exact .mn (okD_ok h2) k1 k2
      · cases h1
    · cases h
  · rename_i t len ps w z ps'
    simp only [Bool.and_eq_true, beq_iff_eq, decide_eq_true_eq] at h
    obtain ⟨⟨⟨h1, h2⟩, h3⟩, h4⟩ := h
    obtain ⟨e, i, q1, q2, q3⟩ := okE_ok P h3
    obtain ⟨r1, ⟨zv, r2, r3⟩, r4, _⟩ := okZ_ok q3
    obtain ⟨k1, k2⟩ := okDs_ok h1
    have hlen : len = (ps.toList.map (·.2)).length := by
      have := congrArg List.length h2
      simp at this ⊢
      exact this.symm
    have hps : ps = ((List.range (ps.toList.map (·.2)).length).zip (ps.toList.map (·.2))).toArray := by
      rw [← hlen, ← h2, zip_self]
    rw [hlen, hps]
    have e2 : ((List.range (ps.toList.map (·.2)).length).zip (ps.toList.map (·.2))).toArray.toList.map (·.2) = ps.toList.map (·.2) := by rw [← hps]
    rw [e2]
    exact .bs k1 k2 q1 q2 r2 r1 r3 r4 (by rw [← hlen]; exact h4)
  · rename_i t x y z by_ ze x' y'
    simp only [Bool.and_eq_true] at h
    obtain ⟨e, i, q1, q2, q3⟩ := okE_ok P h.2
    simp only [Bool.and_eq_true] at q3
    obtain ⟨r1, ⟨zv, r2, r3⟩, r4, r5⟩ := okZ_ok q3.1
    obtain ⟨r6, r7⟩ := r5 by_ rfl
    have h5 := q3.2
    rw [r2] at h5
    simp only [Bool.and_eq_true] at h5
    exact .mk (okD_ok h.1.1) (okD_ok h.1.2) q1 q2 r2 r1 r6 r3 r4 r7 (zcsEq_ok h5.1) h5.2
  · rename_i t ps z ps'
    simp only [Bool.and_eq_true] at h
    obtain ⟨h1, h2⟩ := h
    split at h1
    · rename_i fs hfs
      simp only [Bool.and_eq_true] at h1
      obtain ⟨k1, k2⟩ := okParts_ok P h1.1
      split at h2
      · rename_i i hi
        split at h2
        · rename_i v hv
          have := MOp.bd (ps := ps.toList) hfs hi hv (okCells_ok h2) k1 k2 (fun fd hfd => by
            have := Array.all_eq_true_iff_forall_mem.1 h1.2 fd hfd
            exact this)
          rwa [Array.toArray_toList] at this
        · cases h2
      · cases h2
    · cases h1
  · simp only [Bool.and_eq_true] at h
    obtain ⟨⟨⟨h1, h2⟩, h3⟩, h4⟩ := h
    obtain ⟨e, i, q1, q2, q3⟩ := okE_ok P h4
    exact .slc (okD_ok h1) q1 q2 (beq_iff_eq.1 q3) (okO_ok h2) (okO_ok h3)
  · rename_i op t x y t' ne x'
    simp only [Bool.and_eq_true] at h
    obtain ⟨⟨⟨h1, h2⟩, h3⟩, h4⟩ := h
    obtain ⟨e, i, q1, q2, q3⟩ := okE_ok P h4
    split at h2
    · rw [vEq_ok h2]
      split at h3
      · obtain rfl : ne = false := by simpa using h3
        exact .eqn (okD_ok h1) q1
      · subst h3; exact .nen (okD_ok h1) q1
      · cases h3
    · cases h2
  · rename_i op t x y t' ne x' y'
    simp only [Bool.and_eq_true] at h
    obtain ⟨⟨h1, h2⟩, h3⟩ := h
    split at h3
    · obtain rfl : ne = false := by simpa using h3
      exact .eqs (okD_ok h1) (okD_ok h2)
    · subst h3; exact .nes (okD_ok h1) (okD_ok h2)
    · cases h3
  · rename_i op t x y t' ne x' y'
    simp only [Bool.and_eq_true] at h
    obtain ⟨⟨⟨h1, h2⟩, h3⟩, h4⟩ := h
    split at h4
    · rename_i hu
      split at h3
      · obtain rfl : ne = false := by simpa using h3
        exact .eqb (okD_ok h1) (okD_ok h2) hu
      · subst h3; exact .neb (okD_ok h1) (okD_ok h2) hu
      · cases h3
    · cases h4
  · rename_i op t x y t' ne z x' y'
    simp only [Bool.and_eq_true] at h
    obtain ⟨⟨⟨h1, h2⟩, h3⟩, h4⟩ := h
    split at h4
    · rename_i fs hu
      simp only [Bool.and_eq_true, Bool.not_eq_true'] at h4
      obtain ⟨⟨h5, h6⟩, h7⟩ := h4
      split at h3
      · obtain rfl : ne = false := by simpa using h3
        exact .eqa (okD_ok h1) (okD_ok h2) hu h5 h6 (okPl_ok P h7)
      · subst h3; exact .nea (okD_ok h1) (okD_ok h2) hu h5 h6 (okPl_ok P h7)
      · cases h3
    · cases h4
  · simp only [Bool.and_eq_true] at h; exact .sh (okB_ok h.1.1) (okD_ok h.1.2) (okD_ok h.2)
  · simp only [Bool.and_eq_true] at h
    obtain ⟨⟨h1, h2⟩, h3⟩ := h
    obtain ⟨d, hd⟩ := Option.isSome_iff_exists.1 h2
    split at h3
    · rename_i k' hk
      rw [beq_iff_eq.1 h3]; exact .ci (okD_ok h1) hd hk
    · cases h3
  · rename_i f first caps f' caps'
    simp only [Bool.and_eq_true, beq_iff_eq, Nat.blt_eq] at h
    obtain ⟨⟨⟨h1, h0⟩, h2⟩, h3⟩ := h
    have : first = #[] := by simpa using h2
    subst this
    rw [← h1]; exact .mf h0 (okA_ok h3)
  · exact .nck (okD_ok h)
  · simp only [Bool.and_eq_true] at h
    obtain ⟨⟨h1, h2⟩, h3⟩ := h
    split at h2
    · rename_i e hs
      split at h2
      · rename_i he
        split at h3
        · rename_i ht
          exact .bst (okD_ok h1) hs he ht
        · cases h3
      · cases h2
    · cases h2
  · rename_i c x y
    split at h
    · rename_i x' y' t tx hc ha ht
      simp only [Bool.and_eq_true] at h
      obtain ⟨⟨h1, h2⟩, h3⟩ := h
      obtain ⟨e, i, q1, q2, q3⟩ := okE_ok P h3
      rw [call_eta c, hc, arr1 ha, arr1 ht]
      exact .cpy (okD_ok h1) (okD_ok h2) q1 q2 (beq_iff_eq.1 q3)
    · cases h
  · rename_i c f args
    split at h
    · rename_i f' hc
      simp only [Bool.and_eq_true, beq_iff_eq, Nat.blt_eq] at h
      obtain ⟨⟨h1, h0⟩, h3⟩ := h
      rw [call_eta c, hc, ← h1]; exact .pcal h0 (okA_ok h3)
    · cases h
  · cases h

def okStp (n : Nat) (ops : Array Oper) (o : Oper) (p : Stp) : Bool :=
  okOp P o.op p.op && p.t == o.dst && (match p.t with | some t => Nat.blt t n && Nat.blt t RL | none => true) &&
    (match o.guard, p.g with
     | none, none => true
     | some (j, want), some (q, want') => want == want' && (ops[j]?).bind (·.dst) == some q
     | _, _ => false)
theorem okStp_ok {n : Nat} {ops : Array Oper} {o : Oper} {p : Stp} (h : okStp P n ops o p = true) : MStp P n ops o p := by
  simp only [okStp, Bool.and_eq_true, beq_iff_eq] at h
  obtain ⟨⟨⟨h1, h2⟩, h3⟩, h4⟩ := h
  refine ⟨okOp_ok P h1, h2, fun t ht => by rw [ht] at h3; simp only [Bool.and_eq_true, Nat.blt_eq] at h3; exact h3.1, fun t ht => by rw [ht] at h3; simp only [Bool.and_eq_true, Nat.blt_eq] at h3; exact h3.2, ?_⟩
  cases ho : o.guard with
  | none => rw [ho] at h4; cases hp : p.g with
    | none => trivial
    | some q => rw [hp] at h4; cases h4
  | some jw =>
    rw [ho] at h4
    obtain ⟨j, w⟩ := jw
    cases hp : p.g with
    | none => rw [hp] at h4; cases h4
    | some q =>
      rw [hp] at h4
      obtain ⟨q, w'⟩ := q
      simpa [Bool.and_eq_true] using h4
def okOps (n : Nat) (ops : Array Oper) : List Oper → List Stp → Bool
  | [], [] => true
  | o :: r, p :: r' => okStp P n ops o p && okOps n ops r r'
  | _, _ => false
theorem okOps_ok {n : Nat} {ops : Array Oper} : ∀ {l : List Oper} {ps : List Stp} {k : Nat}, okOps P n ops l ps = true → (∀ j o, l[j]? = some o → ops[k + j]? = some o) → MOps P n ops (List.range' k l.length) ps
  | [], [], k, _, _ => .nil
  | o :: r, p :: r', k, h, hl => by
    simp only [okOps, Bool.and_eq_true] at h
    rw [List.length_cons, List.range'_succ]
    refine .cons (hl 0 o rfl) (okStp_ok P h.1) (okOps_ok h.2 fun j o' hj => ?_)
    have := hl (j + 1) o' (by simpa using hj)
    rw [← this]; congr 1; omega
  | [], _ :: _, _, h, _ => by cases h
  | _ :: _, [], _, h, _ => by cases h

theorem rounds_sub : ∀ (c : Code) (j : Nat) (p : Array Tmp × Code × Code), (rounds c)[j]? = some p → ∀ i x, (rounds p.2.1 ++ rounds p.2.2)[i]? = some x → (rounds c)[j + 1 + i]? = some x
  | .seq a b, j, p, hj, i, x, hx => by
    simp only [rounds] at hj ⊢
    rcases Nat.lt_or_ge j (rounds a).length with h | h
    · rw [List.getElem?_append_left h] at hj
      have := rounds_sub a j p hj i x hx
      rw [List.getElem?_append_left (getq_lt this)]; exact this
    · rw [List.getElem?_append_right h] at hj
      have := rounds_sub b _ p hj i x hx
      rw [List.getElem?_append_right (by omega), ← this]; congr 1; omega
  | .cond _ a b, j, p, hj, i, x, hx => by
    simp only [rounds] at hj ⊢
    rcases Nat.lt_or_ge j (rounds a).length with h | h
    · rw [List.getElem?_append_left h] at hj
      have := rounds_sub a j p hj i x hx
      rw [List.getElem?_append_left (getq_lt this)]; exact this
    · rw [List.getElem?_append_right h] at hj
      have := rounds_sub b _ p hj i x hx
      rw [List.getElem?_append_right (by omega), ← this]; congr 1; omega
  | .block _ c, j, p, hj, i, x, hx => rounds_sub c j p hj i x hx
  | .loop c, j, p, hj, i, x, hx => rounds_sub c j p hj i x hx
  | .scope c, j, p, hj, i, x, hx => rounds_sub c j p hj i x hx
  | .rangeFunc _ ps a c, j, p, hj, i, x, hx => by
    simp only [rounds] at hj ⊢
    cases j with
    | zero => simp at hj; subst hj; rw [show 0 + 1 + i = i + 1 by omega, List.getElem?_cons_succ]; exact hx
    | succ j =>
      rw [List.getElem?_cons_succ] at hj
      rw [show j + 1 + 1 + i = (j + 1 + i) + 1 by omega, List.getElem?_cons_succ]
      rcases Nat.lt_or_ge j (rounds a).length with h | h
      · rw [List.getElem?_append_left h] at hj
        have := rounds_sub a j p hj i x hx
        rw [List.getElem?_append_left (getq_lt this)]; exact this
      · rw [List.getElem?_append_right h] at hj
        have := rounds_sub c _ p hj i x hx
        rw [List.getElem?_append_right (by omega), ← this]; congr 1; omega
  | .skip, _, _, hj, _, _, _ => by simp [rounds] at hj
  | .region _ _ _, _, _, hj, _, _, _ => by simp [rounds] at hj
  | .exit _, _, _, hj, _, _, _ => by simp [rounds] at hj
  | .label _, _, _, hj, _, _, _ => by simp [rounds] at hj
  | .goto _, _, _, hj, _, _, _ => by simp [rounds] at hj
  | .ret, _, _, hj, _, _, _ => by simp [rounds] at hj
  | .refuse _, _, _, hj, _, _, _ => by simp [rounds] at hj

/-- What must come ahead, as bits. -/
def mask1 (acc : List Nat) (m : Nat) (e : Edge) : Nat := if Region.binds .any e then m ||| 2 ^ e.on ||| acc.getD e.on 0 else m
def masks : List Oper → List Nat → List Nat
  | [], acc => acc
  | o :: r, acc => masks r (acc ++ [o.after.toList.foldl (mask1 acc) 0])
theorem mask1_bit {acc : List Nat} {i : Nat} : ∀ {es : List Edge} {m : Nat}, (es.foldl (mask1 acc) m).testBit i = true → m.testBit i = true ∨ ∃ e ∈ es, Region.binds .any e = true ∧ (e.on = i ∨ (acc.getD e.on 0).testBit i = true)
  | [], m, h => .inl h
  | e :: es, m, h => by
    rw [List.foldl_cons] at h
    rcases mask1_bit h with h | ⟨e', h1, h2⟩
    · unfold mask1 at h
      split at h
      · rename_i hb
        simp only [Nat.testBit_or, Bool.or_eq_true, Nat.testBit_two_pow, decide_eq_true_eq] at h
        rcases h with (h | h) | h
        · exact .inl h
        · exact .inr ⟨e, by simp, hb, .inl h⟩
        · exact .inr ⟨e, by simp, hb, .inr h⟩
      · exact .inl h
    · exact .inr ⟨e', by simp [h1], h2⟩
theorem masks_acc : ∀ {l : List Oper} {acc : List Nat} {i : Nat}, i < acc.length → (masks l acc).getD i 0 = acc.getD i 0
  | [], acc, i, _ => rfl
  | o :: r, acc, i, h => by
    rw [masks, masks_acc (by simp; omega)]
    simp only [List.getD, List.getElem?_append_left h]
theorem masks_at : ∀ {l : List Oper} {acc : List Nat} {j i : Nat}, ((masks l acc).getD (acc.length + j) 0).testBit i = true → ∃ o, l[j]? = some o ∧ ∃ e ∈ o.after.toList, Region.binds .any e = true ∧ (e.on = i ∨ ((masks l acc).getD e.on 0).testBit i = true)
  | [], acc, j, i, h => by simp [masks, List.getD] at h
  | o :: r, acc, 0, i, h => by
    rw [masks, masks_acc (by simp)] at h
    simp only [Nat.add_zero, List.getD, List.getElem?_append_right (Nat.le_refl _), Nat.sub_self, List.getElem?_cons_zero, Option.getD_some] at h
    rcases mask1_bit h with h | ⟨e, h1, h2, h3⟩
    · simp at h
    · refine ⟨o, rfl, e, h1, h2, ?_⟩
      rcases h3 with h3 | h3
      · exact .inl h3
      · right
        rcases Nat.lt_or_ge e.on acc.length with hl | hl
        · rw [masks_acc hl]; exact h3
        · simp [List.getD, List.getElem?_eq_none hl] at h3
  | o :: r, acc, j + 1, i, h => by
    rw [masks] at h ⊢
    have e : acc.length + (j + 1) = (acc ++ [o.after.toList.foldl (mask1 acc) 0]).length + j := by simp; omega
    rw [e] at h
    obtain ⟨o', h1, h2⟩ := masks_at h
    exact ⟨o', by simpa using h1, h2⟩
def okPairs (l : List (Stp × List Nat)) (ms : List Nat) : Bool := (List.range l.length).all fun j => (List.range j).all fun i => (ms.getD j 0).testBit i || (match l[i]?, l[j]? with
  | some x, some y => apart x.1 y.1 && (y.2.contains i || still x.1.op y.1.op)
  | _, _ => true)
def okLt : Nat → List Oper → Bool
  | _, [] => true
  | j, o :: r => o.after.toList.all (fun e => !Region.binds .any e || Nat.blt e.on j) && okLt (j + 1) r
theorem okLt_ok : ∀ {l : List Oper} {k : Nat}, okLt k l = true → ∀ j o e, l[j]? = some o → e ∈ o.after.toList → Region.binds .any e = true → e.on < k + j
  | [], k, h, j, o, e, hj, _, _ => by simp at hj
  | o' :: r, k, h, j, o, e, hj, he, hb => by
    simp only [okLt, Bool.and_eq_true] at h
    cases j with
    | zero =>
      simp at hj
      subst hj
      have := List.all_eq_true.1 h.1 e he
      rw [hb] at this
      simpa using this
    | succ j => have := okLt_ok h.2 j o e (by simpa using hj) he hb; omega
def okDr (n : Nat) (ops : Array Oper) (l : List (Stp × List Nat)) : Bool := P.follows .mixedOrders && okOps P n ops ops.toList (l.map (·.1)) && okLt 0 ops.toList && okPairs l (masks ops.toList [])
theorem okDr_ok {n : Nat} {ops : Array Oper} {l : List (Stp × List Nat)} (h : okDr P n ops l = true) : P.follows .mixedOrders = true ∧ MOps P n ops (List.range ops.size) (l.map (·.1)) ∧ Deps ops l (fun j i => ((masks ops.toList []).getD j 0).testBit i = true) := by
  simp only [okDr, Bool.and_eq_true] at h
  obtain ⟨⟨⟨h1, h2⟩, h3⟩, h4⟩ := h
  have h5 := okOps_ok P (k := 0) h2 fun j o hj => by simpa using hj
  rw [Array.length_toList, ← List.range_eq_range'] at h5
  refine ⟨h1, h5, fun j o e hj he hb => ?_, fun i j hc => ?_, fun i j x y hlt hi hj => ?_⟩
  · have := okLt_ok h3 j o e (by simpa using hj) (by simpa using he) hb
    omega
  · obtain ⟨o, q1, e, q2, q3, q4⟩ := masks_at (acc := []) (by simpa using hc)
    exact ⟨o, e, by simpa using q1, by simpa using q2, q3, q4⟩
  · have hjl := getq_lt hj
    have := List.all_eq_true.1 (List.all_eq_true.1 h4 j (List.mem_range.2 hjl)) i (List.mem_range.2 hlt)
    rw [hi, hj] at this
    simp only [Bool.or_eq_true, Bool.and_eq_true] at this
    rcases this with h | ⟨h, h'⟩
    · exact .inl h
    · refine .inr ⟨h, ?_⟩
      rcases h' with h' | h'
      · exact .inl (by simpa using h')
      · exact .inr h'

/-- Each of these steps waits for all ahead of it. -/
def okTail (m : Nat) (ms : List Nat) (N : Nat) : Bool := (List.range N).all fun j => Nat.blt j m || (List.range j).all fun i => (ms.getD j 0).testBit i
def okDrt (n : Nat) (ops : Array Oper) (l : List (Stp × List Nat)) (tl : List Stp) : Bool := P.follows .mixedOrders && okOps P n ops ops.toList (l.map (·.1) ++ tl) && okLt 0 ops.toList && okPairs l (masks ops.toList []) && okTail l.length (masks ops.toList []) ops.toList.length
theorem okDrt_ok {n : Nat} {ops : Array Oper} {l : List (Stp × List Nat)} {tl : List Stp} (h : okDrt P n ops l tl = true) : P.follows .mixedOrders = true ∧ MOps P n ops (List.range ops.size) (l.map (·.1) ++ tl) ∧ Deps ops l (fun j i => ((masks ops.toList []).getD j 0).testBit i = true) ∧ ∀ i j, l.length ≤ j → j < ops.size → i < j → ((masks ops.toList []).getD j 0).testBit i = true := by
  simp only [okDrt, Bool.and_eq_true] at h
  obtain ⟨⟨⟨⟨h1, h2⟩, h3⟩, h4⟩, h6⟩ := h
  have h5 := okOps_ok P (k := 0) h2 fun j o hj => by simpa using hj
  rw [Array.length_toList, ← List.range_eq_range'] at h5
  refine ⟨h1, h5, ⟨fun j o e hj he hb => ?_, fun i j hc => ?_, fun i j x y hlt hi hj => ?_⟩, fun i j q1 q2 q3 => ?_⟩
  · have := okLt_ok h3 j o e (by simpa using hj) (by simpa using he) hb
    omega
  · obtain ⟨o, q1, e, q2, q3, q4⟩ := masks_at (acc := []) (by simpa using hc)
    exact ⟨o, e, by simpa using q1, by simpa using q2, q3, q4⟩
  · have hjl := getq_lt hj
    have := List.all_eq_true.1 (List.all_eq_true.1 h4 j (List.mem_range.2 hjl)) i (List.mem_range.2 hlt)
    rw [hi, hj] at this
    simp only [Bool.or_eq_true, Bool.and_eq_true] at this
    rcases this with h | ⟨h, h'⟩
    · exact .inl h
    · refine .inr ⟨h, ?_⟩
      rcases h' with h' | h'
      · exact .inl (by simpa using h')
      · exact .inr h'
  · have := List.all_eq_true.1 h6 j (List.mem_range.2 (by simpa using q2))
    rw [Bool.or_eq_true] at this
    rcases this with h | h
    · have : j < l.length := by simpa using h
      omega
    · exact List.all_eq_true.1 h i (List.mem_range.2 q3)
/-! ### A scope that jumps back to one label -/
def lab : Code → Option Nat
  | .seq (.label l) _ => some l
  | .seq _ b => lab b
  | _ => none
def unG : Code → Code
  | .seq a b => .seq a (unG b)
  | .goto _ => .skip
  | c => c
def unJ : Code → Code
  | .seq (.label _) r => .loop (unG r)
  | .seq a b => .seq a (unJ b)
  | c => c
def shG (l : Nat) : Code → Cd → Bool
  | .goto l', .sk => l == l'
  | .seq _ b, .sq _ b' => shG l b b'
  | _, _ => false
def shJ (l : Nat) : Code → Cd → Bool
  | .seq (.label l') r, .lp _ _ b' => l == l' && shG l r b'
  | .seq (.label _) _, _ => false
  | .seq a b, .sq _ b' => (findLabel a l).isNone && shJ l b b'
  | _, _ => false
theorem shG_rounds {l : Nat} {b' : Cd} : ∀ {r : Code}, shG l r b' = true → rounds (unG r) = rounds r := by
  induction b' with
  | sk =>
    intro r h
    cases r <;> first | (simp [shG] at h; done) | rfl
  | sq a' b' iha ihb =>
    intro r h
    cases r <;> first | (simp [shG] at h; done) | skip
    rename_i a b
    show rounds a ++ rounds (unG b) = rounds a ++ rounds b
    rw [ihb h]
  | _ => intro r h; cases r <;> simp [shG] at h
theorem shG_ok {n l : Nat} {b' : Cd} : ∀ {r : Code}, shG l r b' = true → MCd P n (unG r) b' → MCx P n (.G l) r b' := by
  induction b' with
  | sk =>
    intro r h hm
    cases r <;> first | (simp [shG] at h; done) | skip
    simp only [shG, beq_iff_eq] at h
    subst h
    exact .gh
  | sq a' b' iha ihb =>
    intro r h hm
    cases r <;> first | (simp [shG] at h; done) | skip
    rename_i a b
    have h : shG l b b' = true := h
    have hm : MCd P n (.seq a (unG b)) (.sq a' b') := hm
    cases hm with
    | sq ha hb => exact .gq ha (ihb h hb)
    | tg hl hc => cases b <;> simp [shG] at h
  | _ => intro r h hm; cases r <;> simp [shG] at h
theorem unJ_seq {a b : Code} (h : ∀ l, a ≠ .label l) : unJ (.seq a b) = .seq a (unJ b) := by
  cases a <;> first | rfl | exact absurd rfl (h _)
theorem shJ_seq {l : Nat} {a b : Code} {a' b' : Cd} (h : ∀ l, a ≠ .label l) : shJ l (.seq a b) (.sq a' b') = ((findLabel a l).isNone && shJ l b b') := by
  cases a <;> first | rfl | exact absurd rfl (h _)
theorem notLab (a : Code) : (∃ l, a = .label l) ∨ ∀ l, a ≠ .label l := by
  cases a <;> first | exact .inl ⟨_, rfl⟩ | exact .inr (fun l h => by cases h)
theorem shJ_rounds {l : Nat} {b' : Cd} : ∀ {r : Code}, shJ l r b' = true → rounds (unJ r) = rounds r := by
  induction b' with
  | lp ks bs b' ihb =>
    intro r h
    cases r with
    | seq a b =>
      cases a with
      | label l' =>
        simp only [shJ, Bool.and_eq_true, beq_iff_eq] at h
        show rounds (unG b) = [] ++ rounds b
        rw [shG_rounds h.2]; rfl
      | _ => simp [shJ] at h
    | _ => simp [shJ] at h
  | sq a' b' iha ihb =>
    intro r h
    cases r with
    | seq a b =>
      rcases notLab a with ⟨l', rfl⟩ | ha
      · simp [shJ] at h
      · rw [shJ_seq ha, Bool.and_eq_true] at h
        rw [unJ_seq ha]
        show rounds a ++ rounds (unJ b) = rounds a ++ rounds b
        rw [ihb h.2]
    | _ => simp [shJ] at h
  | _ =>
    intro r h
    cases r <;> first | (simp [shJ] at h; done) | skip
    rename_i x y
    cases x <;> simp [shJ] at h
theorem shJ_ok {n l : Nat} {b' : Cd} : ∀ {r : Code}, shJ l r b' = true → MCd P n (unJ r) b' → ∃ q, MCx P n (.J l q) r b' := by
  induction b' with
  | lp ks bs b' ihb =>
    intro r h hm
    cases r with
    | seq a b =>
      cases a with
      | label l' =>
        simp only [shJ, Bool.and_eq_true, beq_iff_eq] at h
        obtain ⟨h1, h2⟩ := h
        subst h1
        have hm : MCd P n (.loop (unG b)) (.lp ks bs b') := hm
        cases hm with
        | lp ha => exact ⟨_, .jh (shG_ok P h2 ha)⟩
      | _ => simp [shJ] at h
    | _ => simp [shJ] at h
  | sq a' b' iha ihb =>
    intro r h hm
    cases r with
    | seq a b =>
      rcases notLab a with ⟨l', rfl⟩ | ha
      · simp [shJ] at h
      · rw [shJ_seq ha, Bool.and_eq_true] at h
        rw [unJ_seq ha] at hm
        cases hm with
        | sq ha hb =>
          obtain ⟨q, q1⟩ := ihb h.2 hb
          exact ⟨q, .js (Option.isNone_iff_eq_none.1 h.1) ha q1⟩
        | tg hl hc =>
          have h2 := h.2
          cases b <;> first | (simp [shJ] at h2; done) | skip
          rename_i x y
          cases x <;> simp [shJ] at h2
    | _ => simp [shJ] at h
  | _ =>
    intro r h hm
    cases r <;> first | (simp [shJ] at h; done) | skip
    rename_i x y
    cases x <;> simp [shJ] at h
theorem lab_seq {c : Code} {l : Nat} (h : lab c = some l) : ∃ a b, c = .seq a b := by
  cases c <;> first | exact ⟨_, _, rfl⟩ | cases h
theorem unJ_nos {a b c : Code} : unJ (.seq a b) ≠ .scope c := by
  rcases notLab a with ⟨l', rfl⟩ | ha
  · intro h; cases h
  · rw [unJ_seq ha]; intro h; cases h
def okC (f n : Nat) : Nat → Code → Cd → Bool
  | j, .scope c, .gs [] (.gs [] c') => match lab c with
    | some l => shJ l c c' && okC f n j (unJ c) c'
    | none => okC f n j c (.gs [] c')
  | j, .scope c, .gs [] c' => okC f n j c c'
  | j, c, .gs l c' => l.all Gc.ok && okC f n j c c'
  | _, .label _, .sk => true
  | _, .skip, .sk => true
  | _, .region _ ops false, .rg ps => okOps P n ops ops.toList ps
  | _, .region _ ops true, .dr l => okDr P n ops l
  | _, .region _ ops true, .drt l tl => okDrt P n ops l tl
  | j, .seq a b, .sq a' b' => okC f n j a a' && okC f n (j + (rounds a).length) b b'
  | j, c, .sq a' (.gs l .sk) => l.all Gc.ok && okC f n j c a'
  | j, .cond c a b, .ff c' a' b' => okD c c' && okC f n j a a' && okC f n (j + (rounds a).length) b b'
  | j, .block id a, .bl id' a' => id == id' && okC f n j a a'
  | j, .loop a, .lp _ _ a' => okC f n j a a'
  | j, .rangeFunc x ps asg body, .rf x' b rid _ => okD x x' && Nat.ble RL b && rid == RL + (1000 * f + j) && Nat.blt j 1000
  | _, .exit id, .ex id' => id == id'
  | _, .ret, .rt => true
  | _, _, _ => false
/-- The rounds of code that stands in a function. -/
def InF (f n : Nat) (l : List (Array Tmp × Code × Code)) (j : Nat) : Prop := ∃ fn c, PP.funcs[f]? = some fn ∧ fn.ntmps = n ∧ fn.body = some c ∧ ∀ i x, l[i]? = some x → (rounds c)[j + i]? = some x
theorem InF.left {f n j : Nat} {l l' : List (Array Tmp × Code × Code)} (h : InF f n (l ++ l') j) : InF f n l j := by
  obtain ⟨fn, c, h1, h2, h3, h4⟩ := h
  exact ⟨fn, c, h1, h2, h3, fun i x hi => h4 i x (by rw [List.getElem?_append_left (getq_lt hi)]; exact hi)⟩
theorem InF.right {f n j : Nat} {l l' : List (Array Tmp × Code × Code)} (h : InF f n (l ++ l') j) : InF f n l' (j + l.length) := by
  obtain ⟨fn, c, h1, h2, h3, h4⟩ := h
  exact ⟨fn, c, h1, h2, h3, fun i x hi => by rw [Nat.add_assoc]; exact h4 _ x (by rw [List.getElem?_append_right (by omega), Nat.add_sub_cancel_left]; exact hi)⟩
theorem RL_val : RL = 1000000 := rfl
theorem rid_f (f j : Nat) (h : j < 1000) : (RL + (1000 * f + j) - RL) / 1000 = f ∧ (RL + (1000 * f + j) - RL) % 1000 = j := by
  rw [Nat.add_sub_cancel_left]
  constructor <;> omega
theorem okC_ok {f n j : Nat} {c : Code} {c' : Cd} (h : okC P f n j c c' = true) (hi : InF f n (rounds c) j) : MCd P n c c' := by
  induction c' generalizing c j with
  | sk => cases c <;> first | exact .sk | exact .lb | (simp [okC] at h)
  | rg ps =>
    cases c with
    | region id ops dr => cases dr with
      | false =>
        simp only [okC] at h
        have := okOps_ok P (k := 0) h fun j o hj => by simpa using hj
        rw [Array.length_toList, ← List.range_eq_range'] at this
        exact .rg this
      | true => simp [okC] at h
    | _ => simp [okC] at h
  | dr l =>
    cases c with
    | region id ops dr => cases dr with
      | true =>
        simp only [okC] at h
        obtain ⟨q1, q2, q3⟩ := okDr_ok P h
        exact .dr q1 q2 q3
      | false => simp [okC] at h
    | _ => simp [okC] at h
  | drt l tl =>
    cases c with
    | region id ops dr => cases dr with
      | true =>
        simp only [okC] at h
        obtain ⟨q1, q2, q3, q4⟩ := okDrt_ok P h
        exact .drt q1 q2 q3 q4
      | false => simp [okC] at h
    | _ => simp [okC] at h
  | gs l a iha =>
    by_cases hs : ∃ c0, c = .scope c0 ∧ l = []
    · obtain ⟨c0, rfl, rfl⟩ := hs
      by_cases hj : ∃ a0, a = .gs [] a0
      · obtain ⟨a0, rfl⟩ := hj
        have h' : (match lab c0 with
          | some l => shJ l c0 a0 && okC P f n j (unJ c0) a0
          | none => okC P f n j c0 (.gs [] a0)) = true := h
        split at h'
        · rename_i l hl
          rw [Bool.and_eq_true] at h'
          obtain ⟨h1, h2⟩ := h'
          obtain ⟨x, y, rfl⟩ := lab_seq hl
          have hn : ∀ c, unJ (.seq x y) ≠ .scope c := fun c => unJ_nos
          have hr : rounds (unJ (.seq x y)) = rounds (.seq x y) := shJ_rounds h1
          generalize hu : unJ (.seq x y) = u at hn hr h2
          have h3 : okC P f n j u (.gs [] a0) = true := by
            cases u <;> first | exact (Bool.and_eq_true _ _).mpr ⟨rfl, h2⟩ | exact absurd rfl (hn _)
          have h4 := iha h3 (by rw [hr]; exact hi)
          have h5 : MCd P n u a0 := by
            cases h4 with
            | gs _ hc => exact hc
            | sc hc => exact absurd rfl (hn _)
            | sj hc => exact absurd rfl (hn _)
          rw [← hu] at h5
          obtain ⟨q, h6⟩ := shJ_ok P h1 h5
          exact .gs rfl (.gs rfl (.sj h6))
        · exact .sc (iha h' hi)
      · exact .sc (iha (by cases a <;> first | exact h | (rename_i q _; cases q <;> first | exact h | exact absurd ⟨_, rfl⟩ hj)) hi)
    have h' : (l.all Gc.ok && okC P f n j c a) = true := by
      cases c with
      | scope c0 => cases l with
        | nil => exact absurd ⟨c0, rfl, rfl⟩ hs
        | cons p r => exact h
      | _ => exact h
    rw [Bool.and_eq_true] at h'
    exact .gs h'.1 (iha h'.2 hi)
  | sq a b iha ihb =>
    cases c with
    | seq x y => simp only [okC, Bool.and_eq_true] at h; exact .sq (iha h.1 hi.left) (ihb h.2 hi.right)
    | _ =>
      cases b with
      | gs l b => cases b with
        | sk =>
          simp only [okC, Bool.and_eq_true] at h
          exact .tg h.1 (iha h.2 hi)
        | _ => simp [okC] at h
      | _ => simp [okC] at h
  | ff q a b iha ihb =>
    cases c with
    | cond c x y => simp only [okC, Bool.and_eq_true] at h; exact .ff (okD_ok h.1.1) (iha h.1.2 hi.left) (ihb h.2 hi.right)
    | _ => simp [okC] at h
  | bl id a iha =>
    cases c with
    | block i x => simp only [okC, Bool.and_eq_true, beq_iff_eq] at h; rw [h.1]; exact .bl (iha h.2 hi)
    | _ => simp [okC] at h
  | lp ks bs a iha =>
    cases c with
    | loop x => exact .lp (iha h hi)
    | _ => simp [okC] at h
  | rf x b rid ks =>
    cases c with
    | rangeFunc x ps asg body =>
      simp only [okC, Bool.and_eq_true, beq_iff_eq, Nat.ble_eq, Nat.blt_eq] at h
      obtain ⟨⟨⟨h1, h2⟩, h3⟩, h4⟩ := h
      obtain ⟨fn, c0, q1, q2, q3, q4⟩ := hi
      refine .rf (okD_ok h1) h2 (by rw [h3]; omega) ?_
      obtain ⟨e1, e2⟩ := rid_f f j h4
      have := q4 0 (ps, asg, body) rfl
      rw [Nat.add_zero] at this
      simp only [roundOf, h3, e1, e2, q1, q3, Option.bind_some, this, Option.map_some, q2]
    | _ => simp [okC] at h
  | ex id =>
    cases c with
    | exit i => simp only [okC, beq_iff_eq] at h; rw [h]; exact .ex
    | _ => simp [okC] at h
  | rt =>
    cases c with
    | ret => exact .rt
    | _ => simp [okC] at h

def okR : List ResultVar → List Res → Bool
  | [], [] => true
  | .tmp n :: r, .t m :: r' => n == m && okR r r'
  | .cell n t :: r, .c m q :: r' => n == m && okSz P t q && okR r r'
  | _, _ => false
theorem okR_ok : ∀ {l : List ResultVar} {l' : List Res}, okR P l l' = true → MResL P l l'
  | [], [], _ => .nil
  | .tmp n :: r, .t m :: r', h => by
    simp only [okR, Bool.and_eq_true, beq_iff_eq] at h
    rw [h.1]; exact .cons (.t m) (okR_ok h.2)
  | .cell n t :: r, .c m q :: r', h => by
    simp only [okR, Bool.and_eq_true, beq_iff_eq] at h
    rw [h.1.1]; exact .cons (.c (okSz_ok P h.1.2)) (okR_ok h.2)
  | [], _ :: _, h => by cases h
  | .tmp _ :: _, [], h => by cases h
  | .cell _ _ :: _, [], h => by cases h
  | .tmp _ :: _, .c _ _ :: _, h => by cases h
  | .cell _ _ :: _, .t _ :: _, h => by cases h
def okF (f : Nat) (fn : Func) (F : Fn) : Bool := fn.ntmps == F.nt && !(fn.name == "runtime.NumGoroutine") && okR P fn.results.toList F.res && (match fn.body with | some c => okC P f F.nt 0 c F.body | none => false)
theorem okF_ok {f : Nat} {fn : Func} {F : Fn} (hf : PP.funcs[f]? = some fn) (h : okF P f fn F = true) : MFn P fn F := by
  simp only [okF, Bool.and_eq_true] at h
  obtain ⟨⟨⟨h1, h2⟩, h3⟩, h4⟩ := h
  have h1' := beq_iff_eq.1 h1
  refine ⟨h1', by simpa using h2, okR_ok P h3, ?_⟩
  cases hb : fn.body with
  | none => rw [hb] at h4; cases h4
  | some c => rw [hb] at h4; exact ⟨c, rfl, okC_ok P h4 ⟨fn, c, hf, h1', hb, fun i x hi => by rw [Nat.zero_add]; exact hi⟩⟩
def okRd1 (F : Fn) (ps : List Nat) (asg : Cd) (f0 j0 : Nat) (x : Nat × Array Tmp × Code × Code) : Bool :=
  x.1 == F.nt && x.2.1.toList == ps && ps.all (fun p => Nat.blt p F.nt) && okC P f0 F.nt (j0 + 1) x.2.2.1 asg && okC P f0 F.nt (j0 + 1 + (rounds x.2.2.1).length) x.2.2.2 F.body
noncomputable def okRd (rid : Nat) (F : Fn) (ps : List Nat) (asg : Cd) : Bool := (roundOf PP rid).elim false (okRd1 P F ps asg ((rid - RL) / 1000) ((rid - RL) % 1000))
theorem okRd_ok {rid : Nat} {F : Fn} {ps : List Nat} {asg : Cd} (h : okRd P rid F ps asg = true) : MRd P rid F ps asg := by
  unfold okRd at h
  generalize hR : roundOf PP rid = R at h
  have hr := hR
  unfold roundOf at hr
  generalize (rid - RL) / 1000 = f0 at h hr
  generalize (rid - RL) % 1000 = j0 at h hr
  cases R with
  | none => cases h
  | some x =>
    simp only [Option.elim_some, okRd1, Bool.and_eq_true, beq_iff_eq] at h
    obtain ⟨⟨⟨⟨h1, h2⟩, h3⟩, h4⟩, h5⟩ := h
    have hI : InF f0 F.nt (rounds x.2.2.1 ++ rounds x.2.2.2) (j0 + 1) := by
      obtain ⟨fn, q1, q2⟩ := Option.bind_eq_some_iff.1 hr
      obtain ⟨c, q3, q4⟩ := Option.bind_eq_some_iff.1 q2
      obtain ⟨p, q5, q6⟩ := Option.map_eq_some_iff.1 q4
      subst q6
      exact ⟨fn, c, q1, h1, q3, fun i y hi => rounds_sub c _ _ q5 i y hi⟩
    exact ⟨x.2.1, x.2.2.1, x.2.2.2, by rw [hR, ← h1], h2, fun p hp => Nat.le_of_ble_eq_true (List.all_eq_true.1 h3 p hp), okC_ok P h4 hI.left, okC_ok P h5 hI.right⟩
/-- An entry of a table. -/
noncomputable def okT (P : Program) (k : Nat) (F : Fn) : Bool := match F.rnd with
  | none => Nat.blt k RL && (match P.funcs[k]? with | some fn => okF P k fn F | none => false)
  | some (ps, asg) => Nat.ble RL k && okRd P k F ps asg
/-- A table. -/
def tab : List (Nat × Fn) → Nat → Option Fn
  | [], _ => none
  | (k, F) :: r, f => if f = k then some F else tab r f
theorem tab_ok {l : List (Nat × Fn)} (h : ∀ p ∈ l, okT PP p.1 p.2 = true) : MProg PP (tab l) := by
  intro f F hf
  induction l with
  | nil => cases hf
  | cons p r ih =>
    obtain ⟨k, F'⟩ := p
    simp only [tab] at hf
    split at hf
    · rename_i e
      injection hf with hf
      subst hf e
      have h1 := h _ (List.mem_cons_self ..)
      unfold okT at h1
      split at h1
      · rename_i hrn
        rw [hrn]
        simp only [Bool.and_eq_true, Nat.blt_eq] at h1
        obtain ⟨h2, h3⟩ := h1
        split at h3
        · rename_i fn hfn
          exact ⟨h2, fn, hfn, okF_ok PP hfn h3⟩
        · cases h3
      · rename_i ps asg hrn
        rw [hrn]
        simp only [Bool.and_eq_true, Nat.ble_eq] at h1
        exact ⟨h1.1, okRd_ok PP h1.2⟩
    · exact ih (fun p hp => h p (List.mem_cons_of_mem _ hp)) hf
end Go.Proofs.Ytiglckehhfbliaa.Ev
