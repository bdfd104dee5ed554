/- Steps in another order. Conditions: none. -/
import Derived.Test.YtlhjdikklmkihaaEvV
set_option linter.all false
namespace Go.Proofs.Ytlhjdikklmkihaa.Ev
open Go

section
variable {c : Caller} {s s' : S}
theorem sbx_put {f b n : Nat} {ds : List D} {d : D} : sbx f b ds (put n d s) = put n d (sbx f b ds s) := by
  unfold sbx put
  simp only
  split <;> rfl
theorem bx_put {f b n : Nat} {d : D} : bx f b (put n d s) = bx f b s := rfl
theorem bx_moved {f b : Nat} {m : Option Nat} : bx f b (moved m s) = bx f b s := by cases m <;> rfl
theorem sbx_moved {f b : Nat} {ds : List D} {m : Option Nat} : sbx f b ds (moved m s) = moved m (sbx f b ds s) := by
  cases m with
  | none => rfl
  | some n =>
    simp only [moved]
    rw [sbx_put]
    congr 2
    unfold sbx
    split <;> rfl
theorem ins_moved {t : Nat} {ds : List D} {m : Option Nat} : (moved m s).wl (ins t ds (moved m s).l) = moved m (s.wl (ins t ds s.l)) := by cases m <;> rfl
theorem unsnoc_app {α : Type} (l : List α) (x : α) : unsnoc (l ++ [x]) = some (l, x) := by
  induction l with
  | nil => rfl
  | cons y r ih =>
    cases hr : r ++ [x] with
    | nil => simp at hr
    | cons z q => rw [List.cons_append, hr, unsnoc, ← hr, ih]; rfl
theorem rdL_ot {xs : List Opd} (h : xs.all Opd.ot = true) : rdL xs s = (rds s xs, s) := by
  induction xs with
  | nil => rfl
  | cons x r ih =>
    simp only [List.all_cons, Bool.and_eq_true] at h
    simp only [rdL, rds, rd_ot h.1, ih h.2]
theorem doCall_q {f : Nat} {ds : List D} {d : D} (h : qv c f ds = some d) : doCall c f ds s = some (d, s) := by
  unfold doCall
  rw [qv_some h]
  simp only [unsnoc_app]
  rfl

/-- The step, as the evaluator takes it. -/
theorem inst_ok {t : Option Nat} {p : Op} {i : Ins} (h : inst c t p s = some i) : evOp c t p s = some (i.d, moved i.mv (i.a.ap s)) := by
  unfold inst at h
  split at h
  · rename_i n x
    simp only [evOp]
    split at h
    · split at h
      · rename_i hx _ ds hb
        obtain ⟨d, q1, q2⟩ := Option.map_eq_some_iff.1 h
        subst q2
        (try rw [hx]); (try simp only); (try rw [hb]); (try simp only); rw [q1]; rfl
      · cases h
    · rename_i hx
      obtain ⟨d, q1, q2⟩ := Option.map_eq_some_iff.1 h
      subst q2
      (try rw [hx]); (try simp only); rw [q1]; rfl
    · cases h
  · rename_i n x
    simp only [evOp]
    split at h
    · split at h
      · rename_i hx _ ds hb
        obtain ⟨d, q1, q2⟩ := Option.map_eq_some_iff.1 h
        subst q2
        (try rw [hx]); (try simp only); (try rw [hb]); (try simp only); rw [q1]
        simp only [Option.map_some, moved, Ba.ap, hb, Option.getD_some]
      · cases h
    · cases h
  · rename_i n x y
    simp only [evOp]
    split at h
    · split at h
      · rename_i hx _ ds hb
        split at h
        · rename_i hc
          injection h with h
          subst h
          (try rw [hx]); (try simp only); (try rw [hb]); (try simp only); rw [if_pos hc]
          simp only [Ba.ap, hb, Option.getD_some]
          rw [rd_moved, sbx_moved]
        · cases h
      · cases h
    · cases h
  · split at h
    · split at h
      · rename_i hl
        injection h with h
        subst h
        simp only [evOp, hl]
        rfl
      · cases h
    · cases h
  · rename_i f xs
    split at h
    · rename_i hc
      obtain ⟨d, q1, q2⟩ := Option.map_eq_some_iff.1 h
      subst q2
      simp only [evOp, rdL_ot hc, doCall_q q1]
      rfl
    · cases h
  · rename_i f xs
    split at h
    · rename_i hc
      obtain ⟨d, q1, q2⟩ := Option.map_eq_some_iff.1 h
      subst q2
      simp only [evOp, rdL_ot hc, doCall_q q1]
      cases d <;> rfl
    · cases h
  · split at h
    · rename_i hn
      obtain ⟨r, q1, q2⟩ := Option.map_eq_some_iff.1 h
      subst q2
      obtain ⟨r1, r2⟩ := neut_loc (s' := s) hn q1 fun _ _ => rfl
      rw [r2]; rfl
    · cases h
theorem instS_ok {p : Stp} {i : Ins} (h : instS c p s = some i) : evStp c p s = some (i.ap p.t s) := by
  unfold instS at h
  unfold evStp
  cases hg : p.g with
  | none =>
    rw [hg] at h
    simp only at h ⊢
    rw [inst_ok h]; rfl
  | some qw =>
    obtain ⟨q, w⟩ := qw
    rw [hg] at h
    simp only at h ⊢
    split at h
    · rename_i b hb
      split at h
      · rename_i e; rw [if_pos e, inst_ok h]; rfl
      · rename_i e; rw [if_neg e]; injection h with h; subst h; rfl
    · rename_i x hx he
      injection h with h
      subst h
      rfl
    · cases h

/-- What a step asks of the variables. -/
def Ba.ok : Ba → S → S → Prop
  | .no, _, _ => True
  | .rd f b, s, s' => bx f b s = bx f b s'
  | .wr f b _ _, s, s' => bx f b s = bx f b s'
  | .al t _, _, s' => lk t s'.l = none
theorem inst_loc {t : Option Nat} {p : Op} {i : Ins} (h : inst c t p s = some i) (hr : ∀ n ∈ p.rs, get n s.e = get n s'.e) (hl : s.o.length = s'.o.length) (ho : i.a.ok s s') : inst c t p s' = some i := by
  unfold inst at h ⊢
  split at h
  · rename_i n x
    have h1 : (rd x s).1 = (rd x s').1 := rd_same hr
    rw [← h1]
    try simp only
    split at h
    · split at h
      · rename_i hx _ ds hb
        obtain ⟨d, q1, q2⟩ := Option.map_eq_some_iff.1 h
        subst q2
        rw [← (show bx _ _ s = bx _ _ s' from ho), hb]; simp only; rw [q1]; rfl
      · cases h
    · exact h
    · cases h
  · rename_i n x
    have h1 : (rd x s).1 = (rd x s').1 := rd_same hr
    rw [← h1]
    try simp only
    split at h
    · split at h
      · rename_i hx _ ds hb
        obtain ⟨d, q1, q2⟩ := Option.map_eq_some_iff.1 h
        subst q2
        rw [← (show bx _ _ s = bx _ _ s' from ho), hb]; simp only; rw [q1]; rfl
      · cases h
    · cases h
  · rename_i n x y
    have h1 : (rd x s).1 = (rd x s').1 := rd_same fun n hn => hr n (by simp [Op.rs, hn])
    have h2 : (rd y s).1 = (rd y s').1 := rd_same fun n hn => hr n (by simp [Op.rs, hn])
    rw [← h1, ← h2]
    try simp only
    split at h
    · split at h
      · rename_i hx _ ds hb
        split at h
        · rename_i hc
          injection h with h
          subst h
          rw [← (show bx _ _ s = bx _ _ s' from ho), hb]; simp only; rw [if_pos hc]
        · cases h
      · cases h
    · cases h
  · try simp only
    split at h
    · split at h
      · injection h with h
        subst h
        rw [show lk _ s'.l = none from ho, hl]
      · cases h
    · cases h
  · rename_i f xs
    try simp only
    rw [← rds_same (s := s) (s' := s') hr]
    exact h
  · rename_i f xs
    try simp only
    rw [← rds_same (s := s) (s' := s') hr]
    exact h
  · split at h
    · rename_i hn
      rw [if_pos hn]
      obtain ⟨r, q1, q2⟩ := Option.map_eq_some_iff.1 h
      subst q2
      obtain ⟨r1, r2⟩ := neut_loc (s' := s') hn q1 hr
      rw [r2]; rfl
    · cases h
theorem instS_loc {p : Stp} {i : Ins} (h : instS c p s = some i) (hr : ∀ n ∈ p.rs, get n s.e = get n s'.e) (hl : s.o.length = s'.o.length) (ho : i.a.ok s s') : instS c p s' = some i := by
  unfold instS at h ⊢
  cases hg : p.g with
  | none =>
    rw [hg] at h
    simp only at h ⊢
    exact inst_loc h (fun n hn => hr n (by simp [Stp.rs, hn])) hl ho
  | some qw =>
    obtain ⟨q, w⟩ := qw
    rw [hg] at h
    simp only at h ⊢
    rw [← hr q (by simp [Stp.rs, hg])]
    split at h
    · split at h
      · rename_i e; rw [if_pos e]; exact inst_loc h (fun n hn => hr n (by simp [Stp.rs, hn])) hl ho
      · rename_i e; rw [if_neg e]; exact h
    · exact h
    · cases h
end
end Go.Proofs.Ytlhjdikklmkihaa.Ev
