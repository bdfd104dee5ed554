/- Steps that may be taken in another order. Conditions: none. -/
import Derived.Test.YtlhjdikklmkihaaEvA
set_option linter.all false
namespace Go.Proofs.Ytlhjdikklmkihaa.Ev
open Go

/-! ### What a step does, as data -/
theorem qv_of {c : Caller} {f : Nat} {ds : List D} {d : D} (h : ∀ B, c f ds B = some (d, B)) : qv c f ds = some d := by
  have hx : ∃ d, ∀ B, c f ds B = some (d, B) := ⟨d, h⟩
  unfold qv
  rw [dif_pos hx]
  have := (hx.choose_spec []).symm.trans (h [])
  injection this with this
  injection this with this
  rw [this]
theorem qv_some {c : Caller} {f : Nat} {ds : List D} {d : D} (h : qv c f ds = some d) (B : List Bx) : c f ds B = some (d, B) := by
  unfold qv at h
  split at h
  · rename_i hx
    injection h with h
    rw [← h]
    exact hx.choose_spec B
  · cases h

def SEq (s t : S) : Prop := s.l = t.l ∧ s.o = t.o ∧ ∀ n, get n s.e = get n t.e
theorem SEq.refl (s : S) : SEq s s := ⟨rfl, rfl, fun _ => rfl⟩
theorem SEq.trans {s t u : S} (h : SEq s t) (h' : SEq t u) : SEq s u := ⟨h.1.trans h'.1, h.2.1.trans h'.2.1, fun n => (h.2.2 n).trans (h'.2.2 n)⟩
theorem SEq.symm {s t : S} (h : SEq s t) : SEq t s := ⟨h.1.symm, h.2.1.symm, fun n => (h.2.2 n).symm⟩

section
variable {c : Caller} {s s' : S}
theorem rd_same {x : Opd} (h : ∀ n ∈ x.rs, get n s.e = get n s'.e) : (rd x s).1 = (rd x s').1 := by
  cases x with
  | t n => simp only [rd]; rw [h n (by simp [Opd.rs])]
  | m n => simp only [rd]; rw [h n (by simp [Opd.rs])]
  | _ => rfl
theorem rd_ot {x : Opd} (h : x.ot = true) : (rd x s).2 = s := by cases x <;> first | rfl | cases h
theorem rd_moved {x : Opd} : (rd x s).2 = moved x.ms s := by cases x <;> rfl
theorem rds_same {xs : List Opd} (h : ∀ n ∈ xs.flatMap Opd.rs, get n s.e = get n s'.e) : rds s xs = rds s' xs := by
  induction xs with
  | nil => rfl
  | cons x r ih =>
    simp only [rds]
    rw [rd_same fun n hn => h n (by simp [hn]), ih fun n hn => h n (by simp only [List.flatMap_cons, List.mem_append]; exact .inr hn)]
theorem lay_same {ps : List (Nat × Nat × Opd)} (h : ∀ n ∈ ps.flatMap (fun p => p.2.2.rs), get n s.e = get n s'.e) (cs : List D) : lay s cs ps = lay s' cs ps := by
  induction ps generalizing cs with
  | nil => rfl
  | cons p r ih =>
    obtain ⟨a, b, x⟩ := p
    have e : (rd x s).1 = (rd x s').1 := rd_same fun n hn => h n (by simp [hn])
    simp only [lay]
    rw [e]
    split
    · exact ih (fun n hn => h n (by simp only [List.flatMap_cons, List.mem_append]; exact .inr hn)) _
    · rfl
theorem optI_same {o : Option Opd} {k : Int} (h : ∀ n ∈ Oop o, get n s.e = get n s'.e) : optI s k o = optI s' k o := by
  cases o with
  | none => rfl
  | some x => simp only [optI]; rw [rd_same (s' := s') fun n hn => h n (by simpa [Oop] using hn)]
theorem mnm_same {mx : Bool} {k : IntKind} {a : Int} {xs : List Opd} (h : ∀ n ∈ xs.flatMap Opd.rs, get n s.e = get n s'.e) : mnm mx k a s xs = mnm mx k a s' xs := by
  induction xs generalizing a with
  | nil => rfl
  | cons x r ih =>
    simp only [mnm]
    rw [rd_same (s' := s') fun n hn => h n (by simp [hn])]
    have ih' := fun a => ih (a := a) fun n hn => h n (by simp only [List.flatMap_cons, List.mem_append]; exact .inr hn)
    split
    · exact ih' _
    · rfl

/-- A step that looks at slots alone gives the same in another state that has these slots. -/
theorem neut_loc {t : Option Nat} {p : Op} {r : D × S} (hp : p.neut = true) (he : evOp c t p s = some r) (h : ∀ n ∈ p.rs, get n s.e = get n s'.e) : r.2 = moved p.ms s ∧ evOp c t p s' = some (r.1, moved p.ms s') := by
  cases p with
  | mv x =>
    simp only [evOp] at he ⊢
    injection he with he
    subst he
    exact ⟨rd_moved, by rw [rd_same (s := s) (s' := s') h]; exact congrArg some (Prod.ext rfl rd_moved)⟩
  | pk q a b =>
    simp only [Op.neut, Bool.and_eq_true] at hp
    have h0 : (rd q s).1 = (rd q s').1 := rd_same fun n hn => h n (by simp [Op.rs, hn])
    have h1 : (rd a s).1 = (rd a s').1 := rd_same fun n hn => h n (by simp [Op.rs, hn])
    have h2 : (rd b s).1 = (rd b s').1 := rd_same fun n hn => h n (by simp [Op.rs, hn])
    simp only [evOp] at he ⊢
    rw [← h0]
    split at he
    · rename_i v hv
      injection he with he
      subst he
      cases v with
      | true => simp only [if_true]; exact ⟨rd_ot hp.1, by rw [h1]; exact congrArg some (Prod.ext rfl (rd_ot hp.1))⟩
      | false => simp only [Bool.false_eq_true, if_false]; exact ⟨rd_ot hp.2, by rw [h2]; exact congrArg some (Prod.ext rfl (rd_ot hp.2))⟩
    · cases he
  | ap w z by_ x y =>
    have h1 : (rd x s).1 = (rd x s').1 := rd_same fun n hn => h n (by simp [Op.rs, hn])
    have h2 : (rd y s).1 = (rd y s').1 := rd_same fun n hn => h n (by simp [Op.rs, hn])
    simp only [evOp] at he ⊢
    rw [← h1, ← h2]
    have e : (rd x s').2 = moved (Op.ap w z by_ x y).ms s' := rd_moved
    have e0 : (rd x s).2 = moved (Op.ap w z by_ x y).ms s := rd_moved
    rw [e]
    rw [e0] at he
    split at he
    · split at he
      · rename_i hc
        rw [if_pos hc]
        injection he with he
        subst he
        exact ⟨rfl, rfl⟩
      · cases he
    · split at he
      · rename_i hc
        rw [if_pos hc]
        injection he with he
        subst he
        exact ⟨rfl, rfl⟩
      · cases he
    · split at he
      · rename_i hc
        rw [if_pos hc]
        injection he with he
        subst he
        exact ⟨rfl, rfl⟩
      · cases he
    · cases he
  | ext x i =>
    have h1 : (rd x s).1 = (rd x s').1 := rd_same fun n hn => h n (by simp [Op.rs, hn])
    cases x with
    | m n => cases hp
    | _ =>
      simp only [evOp] at he ⊢
      rw [← h1]
      split at he
      · obtain ⟨d, q1, q2⟩ := Option.map_eq_some_iff.1 he
        subst q2
        exact ⟨rfl, by rw [q1]; rfl⟩
      · cases he
  | bin op x y =>
    have h1 : (rd x s).1 = (rd x s').1 := rd_same fun n hn => h n (by simp [Op.rs, hn])
    have h2 : (rd y s).1 = (rd y s').1 := rd_same fun n hn => h n (by simp [Op.rs, hn])
    simp only [evOp] at he ⊢
    rw [← h1, ← h2]
    split at he
    · split at he
      · rename_i hk
        rw [if_pos hk]
        obtain ⟨d, q1, q2⟩ := Option.map_eq_some_iff.1 he
        subst q2
        exact ⟨rfl, by rw [q1]; rfl⟩
      · cases he
    · cases he
  | no x =>
    have h1 : (rd x s).1 = (rd x s').1 := rd_same h
    simp only [evOp] at he ⊢
    rw [← h1]
    split at he
    · injection he with he; subst he; exact ⟨rfl, rfl⟩
    · cases he
  | un xr x =>
    have h1 : (rd x s).1 = (rd x s').1 := rd_same h
    simp only [evOp] at he ⊢
    rw [← h1]
    split at he
    · obtain ⟨d, q1, q2⟩ := Option.map_eq_some_iff.1 he
      subst q2
      exact ⟨rfl, by rw [q1]; rfl⟩
    · cases he
  | fa x off =>
    have h1 : (rd x s).1 = (rd x s').1 := rd_same h
    simp only [evOp] at he ⊢
    rw [← h1]
    split at he
    · injection he with he; subst he; exact ⟨rfl, rfl⟩
    · injection he with he; subst he; exact ⟨rfl, rfl⟩
    · cases he
  | nck x =>
    have h1 : (rd x s).1 = (rd x s').1 := rd_same h
    simp only [evOp] at he ⊢
    rw [← h1]
    split at he
    · injection he with he; subst he; exact ⟨rfl, rfl⟩
    · injection he with he; subst he; exact ⟨rfl, rfl⟩
    · cases he
  | ia x i z =>
    have h1 : (rd x s).1 = (rd x s').1 := rd_same fun n hn => h n (by simp [Op.rs, hn])
    have h2 : (rd i s).1 = (rd i s').1 := rd_same fun n hn => h n (by simp [Op.rs, hn])
    simp only [evOp] at he ⊢
    rw [← h1, ← h2]
    split at he
    · split at he
      · rename_i hk
        rw [if_pos hk]
        obtain ⟨d, q1, q2⟩ := Option.map_eq_some_iff.1 he
        subst q2
        exact ⟨rfl, by rw [q1]; rfl⟩
      · cases he
    · split at he
      · rename_i hk
        rw [if_pos hk]
        injection he with he; subst he; exact ⟨rfl, rfl⟩
      · cases he
    · cases he
  | len x =>
    have h1 : (rd x s).1 = (rd x s').1 := rd_same h
    simp only [evOp] at he ⊢
    rw [← h1]
    split at he
    · injection he with he; subst he; exact ⟨rfl, rfl⟩
    · injection he with he; subst he; exact ⟨rfl, rfl⟩
    · cases he
  | lns x =>
    have h1 : (rd x s).1 = (rd x s').1 := rd_same h
    simp only [evOp] at he ⊢
    rw [← h1]
    split at he
    · injection he with he; subst he; exact ⟨rfl, rfl⟩
    · cases he
  | ci k x =>
    have h1 : (rd x s).1 = (rd x s').1 := rd_same h
    simp only [evOp] at he ⊢
    rw [← h1]
    split at he
    · injection he with he; subst he; exact ⟨rfl, rfl⟩
    · cases he
  | eqn ne x =>
    have h1 : (rd x s).1 = (rd x s').1 := rd_same h
    simp only [evOp] at he ⊢
    rw [← h1]
    split at he
    · injection he with he; subst he; exact ⟨rfl, rfl⟩
    · injection he with he; subst he; exact ⟨rfl, rfl⟩
    · injection he with he; subst he; exact ⟨rfl, rfl⟩
    · cases he
  | mk z by_ ze x y =>
    have h1 : (rd x s).1 = (rd x s').1 := rd_same fun n hn => h n (by simp [Op.rs, hn])
    have h2 : (rd y s).1 = (rd y s').1 := rd_same fun n hn => h n (by simp [Op.rs, hn])
    simp only [evOp] at he ⊢
    rw [← h1, ← h2]
    split at he
    · split at he
      · rename_i hk
        rw [if_pos hk]
        injection he with he; subst he; exact ⟨rfl, rfl⟩
      · cases he
    · cases he
  | eqs ne x y =>
    have h1 : (rd x s).1 = (rd x s').1 := rd_same fun n hn => h n (by simp [Op.rs, hn])
    have h2 : (rd y s).1 = (rd y s').1 := rd_same fun n hn => h n (by simp [Op.rs, hn])
    simp only [evOp] at he ⊢
    rw [← h1, ← h2]
    split at he
    · injection he with he; subst he; exact ⟨rfl, rfl⟩
    · cases he
  | eqb ne x y =>
    have h1 : (rd x s).1 = (rd x s').1 := rd_same fun n hn => h n (by simp [Op.rs, hn])
    have h2 : (rd y s).1 = (rd y s').1 := rd_same fun n hn => h n (by simp [Op.rs, hn])
    simp only [evOp] at he ⊢
    rw [← h1, ← h2]
    split at he
    · injection he with he; subst he; exact ⟨rfl, rfl⟩
    · cases he
  | eqa ne z x y =>
    have h1 : (rd x s).1 = (rd x s').1 := rd_same fun n hn => h n (by simp [Op.rs, hn])
    have h2 : (rd y s).1 = (rd y s').1 := rd_same fun n hn => h n (by simp [Op.rs, hn])
    simp only [evOp] at he ⊢
    rw [← h1, ← h2]
    split at he
    · obtain ⟨d, q1, q2⟩ := Option.map_eq_some_iff.1 he
      subst q2
      exact ⟨rfl, by rw [q1]; rfl⟩
    · cases he
  | sh op x y =>
    have h1 : (rd x s).1 = (rd x s').1 := rd_same fun n hn => h n (by simp [Op.rs, hn])
    have h2 : (rd y s).1 = (rd y s').1 := rd_same fun n hn => h n (by simp [Op.rs, hn])
    simp only [evOp] at he ⊢
    rw [← h1, ← h2]
    split at he
    · obtain ⟨d, q1, q2⟩ := Option.map_eq_some_iff.1 he
      subst q2
      exact ⟨rfl, by rw [q1]; rfl⟩
    · cases he
  | bs z xs =>
    have h1 : rds s xs = rds s' xs := rds_same h
    simp only [evOp] at he ⊢
    rw [← h1]
    split at he
    · rename_i hk
      rw [if_pos hk]
      injection he with he; subst he; exact ⟨rfl, rfl⟩
    · cases he
  | mf f xs =>
    have h1 : rds s xs = rds s' xs := rds_same h
    simp only [evOp] at he ⊢
    rw [← h1]
    split at he
    · rename_i hk
      rw [if_pos hk]
      injection he with he; subst he; exact ⟨rfl, rfl⟩
    · cases he
  | bd z ps =>
    have h1 : lay s (z.map zc) ps = lay s' (z.map zc) ps := lay_same h _
    simp only [evOp] at he ⊢
    rw [← h1]
    obtain ⟨d, q1, q2⟩ := Option.map_eq_some_iff.1 he
    subst q2
    exact ⟨rfl, by rw [q1]; rfl⟩
  | mm mx x xs =>
    have h1 : (rd x s).1 = (rd x s').1 := rd_same fun n hn => h n (by simp [Op.rs, hn])
    have h2 : ∀ k a, mnm mx k a s xs = mnm mx k a s' xs := fun k a => mnm_same fun n hn => h n (by simp only [Op.rs, List.mem_append]; exact .inr hn)
    simp only [evOp] at he ⊢
    rw [← h1]
    split at he
    · rw [← h2]
      obtain ⟨d, q1, q2⟩ := Option.map_eq_some_iff.1 he
      subst q2
      exact ⟨rfl, by rw [q1]; rfl⟩
    · cases he
  | slc z x lo hi =>
    have h1 : (rd x s).1 = (rd x s').1 := rd_same fun n hn => h n (by simp [Op.rs, hn])
    have h2 : ∀ k, optI s k lo = optI s' k lo := fun k => optI_same fun n hn => h n (by simp [Op.rs, hn])
    have h3 : ∀ k, optI s k hi = optI s' k hi := fun k => optI_same fun n hn => h n (by simp [Op.rs, hn])
    simp only [evOp] at he ⊢
    rw [← h1]
    split at he
    · rw [← h2, ← h3]
      split at he
      · split at he
        · rename_i hk
          rw [if_pos hk]
          split at he
          · injection he with he; subst he; exact ⟨rfl, rfl⟩
          · injection he with he; subst he; exact ⟨rfl, rfl⟩
          · cases he
        · cases he
      · cases he
    · rw [← h2, ← h3]
      split at he
      · split at he
        · rename_i hk
          rw [if_pos hk]
          injection he with he; subst he; exact ⟨rfl, rfl⟩
        · cases he
      · cases he
    · cases he
  | _ => cases hp
end
end Go.Proofs.Ytlhjdikklmkihaa.Ev
