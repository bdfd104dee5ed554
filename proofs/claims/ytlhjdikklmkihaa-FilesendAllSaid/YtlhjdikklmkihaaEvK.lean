/- The evaluator's equations. Conditions: none. -/
import Derived.Test.YtlhjdikklmkihaaEvA
import Derived.Test.YtlhjdikklmkihaaEvV
set_option linter.all false
namespace Go.Proofs.Ytlhjdikklmkihaa.Ev
open Go

def CLe (c c' : Caller) : Prop := ∀ f ds B r, c f ds B = some r → c' f ds B = some r
theorem lim_ex {α : Type} {f : Nat → Option α} {r : α} (h : lim f = some r) : ∃ n, f n = some r := by
  unfold lim at h
  split at h
  · rename_i hx
    injection h with h
    exact ⟨hx.choose, by rw [hx.choose_spec.choose_spec, h]⟩
  · cases h
theorem mono_le {α : Type} {f : Nat → Option α} (hm : ∀ n r, f n = some r → f (n + 1) = some r) {n m : Nat} (h : n ≤ m) {r : α} (hr : f n = some r) : f m = some r := by
  induction h with
  | refl => exact hr
  | step _ ih => exact hm _ _ ih
theorem lim_eq {α : Type} {f : Nat → Option α} (hm : ∀ n r, f n = some r → f (n + 1) = some r) {n : Nat} {r : α} (h : f n = some r) : lim f = some r := by
  have hx : ∃ n r, f n = some r := ⟨n, r, h⟩
  unfold lim
  rw [dif_pos hx]
  have h2 := hx.choose_spec.choose_spec
  generalize hx.choose_spec.choose = r2 at h2
  generalize hx.choose = n2 at h2
  have a := mono_le hm (Nat.le_max_left n n2) h
  have b := mono_le hm (Nat.le_max_right n n2) h2
  rw [a] at b
  exact b.symm

theorem doCall_mono {c c' : Caller} (h : CLe c c') {f : Nat} {ds : List D} {s : S} {r : D × S} (he : doCall c f ds s = some r) : doCall c' f ds s = some r := by
  unfold doCall at he ⊢
  cases hq : c f ds (s.o ++ [s.l]) with
  | none => rw [hq] at he; cases he
  | some p => rw [hq] at he; rw [h _ _ _ _ hq]; exact he
theorem evOp_mono {c c' : Caller} (h : CLe c c') {t : Option Nat} {p : Op} {s : S} {r : D × S} (he : evOp c t p s = some r) : evOp c' t p s = some r := by
  cases p with
  | call f args => exact doCall_mono h he
  | calf f args =>
    simp only [evOp] at he ⊢
    generalize hq : doCall c f (rdL args s).1 (rdL args s).2 = q at he
    cases q with
    | none => cases he
    | some p => rw [doCall_mono h hq]; exact he
  | cv f args =>
    simp only [evOp] at he ⊢
    split at he
    · exact doCall_mono h he
    · split at he
      · exact doCall_mono h he
      · cases he
    · cases he
  | _ => exact he
theorem evR_mono {c c' : Caller} (h : CLe c c') {x : Opd} {b rid : Nat} {ks : List Nat} {s : S} {r : Ex × S} (he : evR c x b rid ks s = some r) : evR c' x b rid ks s = some r := by
  unfold evR at he ⊢
  split at he
  · split at he
    · rename_i hc
      rw [if_pos hc]
      split at he
      · rename_i hd
        rw [doCall_mono h hd]
        exact he
      · cases he
    · cases he
  · cases he
theorem qv_mono {c c' : Caller} (h : CLe c c') {f : Nat} {ds : List D} {d : D} (he : qv c f ds = some d) : qv c' f ds = some d := qv_of fun B => h _ _ _ _ (qv_some he B)
theorem inst_mono {c c' : Caller} (h : CLe c c') {t : Option Nat} {p : Op} {s : S} {i : Ins} (he : inst c t p s = some i) : inst c' t p s = some i := by
  unfold inst at he ⊢
  split at he
  · exact he
  · exact he
  · exact he
  · exact he
  · split at he
    · rename_i hc
      rw [if_pos hc]
      obtain ⟨d, q1, q2⟩ := Option.map_eq_some_iff.1 he
      rw [qv_mono h q1]
      exact congrArg some q2
    · cases he
  · split at he
    · rename_i hc
      rw [if_pos hc]
      obtain ⟨d, q1, q2⟩ := Option.map_eq_some_iff.1 he
      rw [qv_mono h q1]
      exact congrArg some q2
    · cases he
  · split at he
    · rename_i hc
      rw [if_pos hc]
      obtain ⟨r, q1, q2⟩ := Option.map_eq_some_iff.1 he
      rw [evOp_mono h q1]
      exact congrArg some q2
    · cases he
theorem instS_mono {c c' : Caller} (h : CLe c c') {p : Stp} {s : S} {i : Ins} (he : instS c p s = some i) : instS c' p s = some i := by
  unfold instS at he ⊢
  split at he
  · exact inst_mono h he
  · split at he
    · split at he
      · rename_i e; rw [if_pos e]; exact inst_mono h he
      · rename_i e; rw [if_neg e]; exact he
    · exact he
    · cases he
theorem evDr_mono {c c' : Caller} (h : CLe c c') {l : List (Stp × List Nat)} : ∀ {acts : List Ba} {s s' : S}, evDr c l acts s = some s' → evDr c' l acts s = some s' := by
  induction l with
  | nil => intro acts s s' he; exact he
  | cons p l ih =>
    intro acts s s' he
    obtain ⟨p, un⟩ := p
    simp only [evDr] at he ⊢
    split at he
    · rename_i i hi
      rw [instS_mono h hi]
      simp only
      split at he
      · rename_i hu; rw [if_pos hu]; exact ih he
      · cases he
    · cases he
theorem evStp_mono {c c' : Caller} (h : CLe c c') {p : Stp} {s s' : S} (he : evStp c p s = some s') : evStp c' p s = some s' := by
  have one : ∀ r : S, (evOp c p.t p.op s).map (fun r => putO p.t r.1 r.2) = some r → (evOp c' p.t p.op s).map (fun r => putO p.t r.1 r.2) = some r := by
    intro r hr
    obtain ⟨q, h1, h2⟩ := Option.map_eq_some_iff.1 hr
    rw [evOp_mono h h1]
    exact congrArg some h2
  unfold evStp at he ⊢
  split at he
  · rename_i hg; exact one _ he
  · rename_i q want hg
    split at he
    · rename_i b hb
      by_cases e : b = want
      · rw [if_pos e] at he ⊢; exact one _ he
      · rw [if_neg e] at he ⊢; exact he
    · exact he
    · cases he
theorem evOps_mono {c c' : Caller} (h : CLe c c') {l : List Stp} {s s' : S} (he : evOps c l s = some s') : evOps c' l s = some s' := by
  induction l generalizing s with
  | nil => exact he
  | cons p r ih =>
    simp only [evOps] at he ⊢
    obtain ⟨s1, h1, h2⟩ := Option.bind_eq_some_iff.1 he
    rw [evStp_mono h h1]
    exact ih h2
theorem iter_mono {b b' : S → Option (Ex × S)} {cr : S → Option S} (h : ∀ s r, b s = some r → b' s = some r) {n m : Nat} (hn : n ≤ m) {s : S} {r : Ex × S} (he : iter b cr n s = some r) : iter b' cr m s = some r := by
  induction n generalizing s m with
  | zero => cases he
  | succ n ih =>
    obtain ⟨m, rfl⟩ : ∃ k, m = k + 1 := ⟨m - 1, by omega⟩
    simp only [iter] at he ⊢
    cases hc : cr s with
    | none => rw [hc] at he; cases he
    | some s1 =>
      rw [hc] at he
      simp only at he ⊢
      cases hb : b s1 with
      | none => rw [hb] at he; cases he
      | some p =>
        rw [hb] at he
        rw [h _ _ hb]
        obtain ⟨x, s2⟩ := p
        cases x with
        | nm => exact ih (by omega) he
        | ex id => exact he
        | rt => exact he
theorem iter_step {b : S → Option (Ex × S)} {cr : S → Option S} {s : S} (n : Nat) (r : Ex × S) (h : iter b cr n s = some r) : iter b cr (n + 1) s = some r := iter_mono (fun _ _ h => h) (Nat.le_succ n) h
theorem evC_mono {c c' : Caller} (h : CLe c c') {p : Cd} : ∀ {s : S} {r : Ex × S}, evC c p s = some r → evC c' p s = some r := by
  induction p with
  | sk => intro s r he; exact he
  | ex id => intro s r he; exact he
  | rt => intro s r he; exact he
  | rg l =>
    intro s r he
    simp only [evC] at he ⊢
    obtain ⟨s1, h1, h2⟩ := Option.map_eq_some_iff.1 he
    rw [evOps_mono h h1]; exact congrArg some h2
  | sq a b iha ihb =>
    intro s r he
    simp only [evC] at he ⊢
    cases ha : evC c a s with
    | none => rw [ha] at he; cases he
    | some p =>
      rw [ha] at he
      rw [iha ha]
      obtain ⟨x, s2⟩ := p
      cases x with
      | nm => exact ihb he
      | ex id => exact he
      | rt => exact he
  | ff q a b iha ihb =>
    intro s r he
    simp only [evC] at he ⊢
    split at he
    · rename_i v hv
      by_cases e : v = true
      · subst e; simp only [if_true] at he ⊢; exact iha he
      · simp only [if_neg e] at he ⊢; exact ihb he
    · cases he
  | bl id a iha =>
    intro s r he
    simp only [evC] at he ⊢
    cases ha : evC c a s with
    | none => rw [ha] at he; cases he
    | some p => rw [ha] at he; rw [iha ha]; exact he
  | rf x b rid ks => intro s r he; exact evR_mono h he
  | drt l tl =>
    intro s r he
    simp only [evC] at he ⊢
    obtain ⟨s1, h1, h2⟩ := Option.map_eq_some_iff.1 he
    obtain ⟨s2, h3, h4⟩ := Option.bind_eq_some_iff.1 h1
    rw [evDr_mono h h3, Option.bind_some, evOps_mono h h4]; exact congrArg some h2
  | gs l a iha =>
    intro s r he
    simp only [evC] at he ⊢
    cases hl : evG l s with
    | none => rw [hl] at he; cases he
    | some s1 => rw [hl] at he; exact iha he
  | dr l =>
    intro s r he
    simp only [evC] at he ⊢
    obtain ⟨s1, h1, h2⟩ := Option.map_eq_some_iff.1 he
    rw [evDr_mono h h1]; exact congrArg some h2
  | lp ks bs a iha =>
    intro s r he
    simp only [evC] at he ⊢
    obtain ⟨n, hn⟩ := lim_ex he
    exact lim_eq (fun n r => iter_step n r) (iter_mono (fun s r => iha) (Nat.le_refl n) hn)

section
variable {C : Nat → Caller} {E : Caller}
theorem res1_same {c c' : Caller} (r : Res) (s : S) : res1 c r s = res1 c' r s := by cases r <;> rfl
theorem resL_same {c c' : Caller} (l : List Res) : ∀ s : S, resL c l s = resL c' l s := by
  induction l with
  | nil => intro s; rfl
  | cons r l ih => intro s; simp only [resL, res1_same (c := c) (c' := c'), ih]
theorem runR_of {c c' : Caller} (h : ∀ p s r, evC c p s = some r → evC c' p s = some r) {F : Fn} {ps : List Nat} {asg : Cd} {rid f b : Nat} {args : List D} {B : List Bx} {r : D × List Bx} (he : runR c F ps asg rid f b args B = some r) : runR c' F ps asg rid f b args B = some r := by
  unfold runR at he ⊢
  split at he
  · split at he
    · rename_i hc
      rw [if_pos hc]
      split at he
      · rename_i s1 h1
        rw [h _ _ _ h1]
        simp only
        split at he
        · rename_i h2
          split at he
          · rename_i h3
            rw [h _ _ _ h3]
            exact he
          · cases he
        · cases he
      · cases he
    · cases he
  · cases he
theorem runF_of {prog : Nat → Option Fn} {c c' : Caller} {f : Nat} {ds : List D} {B : List Bx} {r : D × List Bx} (h : ∀ p s r, evC c p s = some r → evC c' p s = some r) (he : runF prog c f ds B = some r) : runF prog c' f ds B = some r := by
  unfold runF at he ⊢
  cases hp : prog f with
  | none => rw [hp] at he; cases he
  | some F =>
    rw [hp] at he
    simp only at he ⊢
    split at he
    · rename_i hrn
      split at he
      · rename_i hc
        rw [if_pos hc]
        cases hb : evC c F.body ⟨argE 0 ds, [], B⟩ with
        | none => rw [hb] at he; cases he
        | some p =>
          rw [hb] at he
          rw [h _ _ _ hb]
          obtain ⟨x, s2⟩ := p
          cases x with
          | ex id => exact he
          | nm => simp only [resL_same (c := c) (c' := c')] at he; exact he
          | rt => simp only [resL_same (c := c) (c' := c')] at he; exact he
      · cases he
    · rename_i ps asg hrn
      split at he
      · exact runR_of h he
      · cases he
end

theorem runF_mono {prog : Nat → Option Fn} {c c' : Caller} (h : CLe c c') : CLe (runF prog c) (runF prog c') := fun f ds B r he => runF_of (fun p s r hr => evC_mono h hr) he
theorem EFr_fun {prog : Nat → Option Fn} {f : Nat} {ds : List D} {B : List Bx} {r : D × List Bx} (h : EFr prog f ds B r) : ∀ r', EFr prog f ds B r' → r = r' := by
  induction h with
  | @mk f ds B r c hc he ih =>
    intro r' h'
    cases h' with
    | mk c' hc' he' =>
      let u : Caller := fun f ds B => match c f ds B with
        | some r => some r
        | none => c' f ds B
      have h1 : CLe c u := fun f ds B r hr => by simp only [u, hr]
      have h2 : CLe c' u := fun f ds B r hr => by
        simp only [u]
        cases hq : c f ds B with
        | none => exact hr
        | some x => simp only; rw [ih _ _ _ _ hq r (hc' _ _ _ _ hr)]
      have a := runF_mono (prog := prog) h1 _ _ _ _ he
      have b := runF_mono (prog := prog) h2 _ _ _ _ he'
      rw [a] at b
      injection b
theorem EF_of {prog : Nat → Option Fn} {f : Nat} {ds : List D} {B : List Bx} {r : D × List Bx} (h : EFr prog f ds B r) : EF prog f ds B = some r := by
  have hx : ∃ r, EFr prog f ds B r := ⟨r, h⟩
  unfold EF
  rw [dif_pos hx, EFr_fun hx.choose_spec r h]
/-- The evaluator's one equation. -/
theorem EF_eq (prog : Nat → Option Fn) (f : Nat) (ds : List D) (B : List Bx) : EF prog f ds B = runF prog (EF prog) f ds B := by
  have a : ∀ r, EF prog f ds B = some r → runF prog (EF prog) f ds B = some r := by
    intro r h
    cases EF_r h with
    | mk c hc he => exact runF_mono (fun f ds B r hr => EF_of (hc _ _ _ _ hr)) _ _ _ _ he
  have b : ∀ r, runF prog (EF prog) f ds B = some r → EF prog f ds B = some r := fun r h => EF_of (.mk (EF prog) (fun _ _ _ _ h => EF_r h) h)
  cases h : EF prog f ds B with
  | some r => exact (a r h).symm
  | none => cases h' : runF prog (EF prog) f ds B with
    | none => rfl
    | some r => rw [b r h'] at h; cases h
/-- A loop's one equation. -/
theorem evC_lp (c : Caller) (ks bs : List Nat) (a : Cd) (s : S) : evC c (.lp ks bs a) s = (match carry ks bs s with
    | none => none
    | some s1 => match evC c a s1 with
      | none => none
      | some (.nm, s2) => evC c (.lp ks bs a) s2
      | some (x, s2) => some (x, s2)) := by
  have hm : ∀ (s : S) n r, iter (evC c a) (carry ks bs) n s = some r → iter (evC c a) (carry ks bs) (n + 1) s = some r := fun s n r => iter_step n r
  have e : ∀ s, evC c (.lp ks bs a) s = lim fun n => iter (evC c a) (carry ks bs) n s := fun s => rfl
  have a1 : ∀ r, evC c (.lp ks bs a) s = some r → (match carry ks bs s with
    | none => none
    | some s1 => match evC c a s1 with
      | none => none
      | some (.nm, s2) => evC c (.lp ks bs a) s2
      | some (x, s2) => some (x, s2)) = some r := by
    intro r h
    rw [e] at h
    obtain ⟨n, hn⟩ := lim_ex h
    cases n with
    | zero => cases hn
    | succ n =>
      simp only [iter] at hn
      cases hc : carry ks bs s with
      | none => rw [hc] at hn; cases hn
      | some s1 =>
        rw [hc] at hn
        simp only at hn ⊢
        cases hb : evC c a s1 with
        | none => rw [hb] at hn; cases hn
        | some p =>
          rw [hb] at hn
          obtain ⟨x, s2⟩ := p
          cases x with
          | nm => simp only at hn ⊢; rw [e]; exact lim_eq (hm s2) hn
          | ex id => exact hn
          | rt => exact hn
  have b1 : ∀ r, (match carry ks bs s with
    | none => none
    | some s1 => match evC c a s1 with
      | none => none
      | some (.nm, s2) => evC c (.lp ks bs a) s2
      | some (x, s2) => some (x, s2)) = some r → evC c (.lp ks bs a) s = some r := by
    intro r h
    cases hc : carry ks bs s with
    | none => rw [hc] at h; cases h
    | some s1 =>
      rw [hc] at h
      simp only at h
      cases hb : evC c a s1 with
      | none => rw [hb] at h; cases h
      | some p =>
        rw [hb] at h
        obtain ⟨x, s2⟩ := p
        have fin : ∀ n, iter (evC c a) (carry ks bs) (n + 1) s = some r → evC c (.lp ks bs a) s = some r := fun n hn => by rw [e]; exact lim_eq (hm s) hn
        cases x with
        | nm =>
          simp only at h
          rw [e] at h
          obtain ⟨n, hn⟩ := lim_ex h
          exact fin n (by simp only [iter, hc, hb]; exact hn)
        | ex id => exact fin 0 (by simp only [iter, hc, hb]; exact h)
        | rt => exact fin 0 (by simp only [iter, hc, hb]; exact h)
  cases h : evC c (.lp ks bs a) s with
  | some r => exact (a1 r h).symm
  | none =>
    generalize hR : (match carry ks bs s with
      | none => none
      | some s1 => match evC c a s1 with
        | none => none
        | some (.nm, s2) => evC c (.lp ks bs a) s2
        | some (x, s2) => some (x, s2)) = R
    cases R with
    | none => rfl
    | some r => rw [b1 r hR] at h; cases h
end Go.Proofs.Ytlhjdikklmkihaa.Ev
