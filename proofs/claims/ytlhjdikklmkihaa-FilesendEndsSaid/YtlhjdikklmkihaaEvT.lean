/- The check holds. Conditions: none. -/
import Derived.Test.YtlhjdikklmkihaaEvC
import Derived.Test.YtlhjdikklmkihaaEvY
import Derived.Test.YtlhjdikklmkihaaEvJ
set_option linter.all false
namespace Go.Proofs.Ytlhjdikklmkihaa.Ev
open Go
def CLe (c c' : Caller) : Prop := ∀ f ds B r, c f ds B = some r -> c' f ds B = some r
theorem lim_ex {α : Type} {f : Nat -> Option α} {r : α} (h : lim f = some r) : ∃ n, f n = some r := by
 unfold lim at h
 split at h
 ·rename_i hx
  injection h with h
  exact ⟨hx.choose, by rw [hx.choose_spec.choose_spec, h]⟩
 ·cases h
theorem mono_le {α : Type} {f : Nat -> Option α} (hm : ∀ n r, f n = some r -> f (n + 1) = some r) {n m : Nat} (h : n <= m) {r : α} (hr : f n = some r) : f m = some r := by
 induction h with
 | refl => exact hr
 | step _ ih => exact hm _ _ ih
theorem lim_eq {α : Type} {f : Nat -> Option α} (hm : ∀ n r, f n = some r -> f (n + 1) = some r) {n : Nat} {r : α} (h : f n = some r) : lim f = some r := by
 have hx : ∃ n r, f n = some r := ⟨n, r, h⟩
 unfold lim
 rw [dif_pos hx]
 have h2 := hx.choose_spec.choose_spec
 generalize hx.choose_spec.choose = r2 at h2
 generalize hx.choose = n2 at h2
 have a := mono_le hm (Nat.le_max_left n n2) h
 have b := mono_le hm (Nat.le_max_right n n2) h2
 rw [a] at b
 exact b.symm
theorem doCall_mono {c c' : Caller} (h : CLe c c') {f : Nat} {ds : List D} {s : S} {r : D × S} (he : doCall c f ds s = some r) : doCall c' f ds s = some r := by
 unfold doCall at he ⊢
 cases hq : c f ds (s.o ++ [s.l]) with
 | none => rw [hq] at he; cases he
 | some p => rw [hq] at he; rw [h _ _ _ _ hq]; exact he
theorem evOp_mono {c c' : Caller} (h : CLe c c') {t : Option Nat} {p : Op} {s : S} {r : D × S} (he : evOp c t p s = some r) : evOp c' t p s = some r := by
 cases p with
 | call f args => exact doCall_mono h he
 | calf f args =>
  simp only [evOp] at he ⊢
  generalize hq : doCall c f (rdL args s).1 (rdL args s).2 = q at he
  cases q with
  | none => cases he
  | some p => rw [doCall_mono h hq]; exact he
 | cv f args =>
  simp only [evOp] at he ⊢
  split at he
  ·exact doCall_mono h he
  ·split at he
   ·exact doCall_mono h he
   ·cases he
  ·cases he
 | pcal f args =>
  simp only [evOp] at he ⊢
  split at he
  ·split at he
   ·rename_i hd _ hq
    rw [h _ _ _ _ hq]; exact he
   ·cases he
  ·cases he
 | _ => exact he
theorem evR_mono {c c' : Caller} (h : CLe c c') {x : Opd} {b rid : Nat} {ks : List Nat} {s : S} {r : Ex × S} (he : evR c x b rid ks s = some r) : evR c' x b rid ks s = some r := by
 unfold evR at he ⊢
 split at he
 ·split at he
  ·rename_i hc
   rw [if_pos hc]
   split at he
   ·rename_i hd
    rw [doCall_mono h hd]
    exact he
   ·cases he
  ·cases he
 ·cases he
theorem qv_mono {c c' : Caller} (h : CLe c c') {n f : Nat} {ds : List D} {d : D} (he : qv c n f ds = some d) : qv c' n f ds = some d := qv_of fun B hB => h _ _ _ _ (qv_some he B hB)
theorem inst_mono {c c' : Caller} (h : CLe c c') {t : Option Nat} {p : Op} {s : S} {i : Ins} (he : inst c t p s = some i) : inst c' t p s = some i := by
 unfold inst at he ⊢
 split at he
 ·exact he
 ·exact he
 ·exact he
 ·exact he
 ·exact he
 ·split at he
  ·rename_i hc
   rw [if_pos hc]
   obtain ⟨d, q1, q2⟩ := Option.map_eq_some_iff.1 he
   rw [qv_mono h q1]
   exact congrArg some q2
  ·cases he
 ·split at he
  ·rename_i hc
   rw [if_pos hc]
   obtain ⟨d, q1, q2⟩ := Option.map_eq_some_iff.1 he
   rw [qv_mono h q1]
   exact congrArg some q2
  ·cases he
 ·split at he
  ·rename_i hc
   rw [if_pos hc]
   split at he
   ·obtain ⟨d, q1, q2⟩ := Option.map_eq_some_iff.1 he
    simp only [qv_mono h q1]
    exact congrArg some q2
   ·cases he
  ·cases he
 ·split at he
  ·rename_i hc
   rw [if_pos hc]
   obtain ⟨r, q1, q2⟩ := Option.map_eq_some_iff.1 he
   rw [evOp_mono h q1]
   exact congrArg some q2
  ·cases he
theorem instS_mono {c c' : Caller} (h : CLe c c') {p : Stp} {s : S} {i : Ins} (he : instS c p s = some i) : instS c' p s = some i := by
 unfold instS at he ⊢
 split at he
 ·exact inst_mono h he
 ·split at he
  ·split at he
   ·rename_i e; rw [if_pos e]; exact inst_mono h he
   ·rename_i e; rw [if_neg e]; exact he
  ·exact he
  ·cases he
theorem evDr_mono {c c' : Caller} (h : CLe c c') {l : List (Stp × List Nat)} : ∀ {acts : List Ba} {s s' : S}, evDr c l acts s = some s' -> evDr c' l acts s = some s' := by
 induction l with
 | nil => intro acts s s' he; exact he
 | cons p l ih =>
  intro acts s s' he
  obtain ⟨p, un⟩ := p
  simp only [evDr] at he ⊢
  split at he
  ·rename_i i hi
   rw [instS_mono h hi]
   simp only
   split at he
   ·rename_i hu; rw [if_pos hu]; exact ih he
   ·cases he
  ·cases he
theorem evStp_mono {c c' : Caller} (h : CLe c c') {p : Stp} {s s' : S} (he : evStp c p s = some s') : evStp c' p s = some s' := by
 have one : ∀ r : S, (evOp c p.t p.op s).map (fun r => putO p.t r.1 r.2) = some r -> (evOp c' p.t p.op s).map (fun r => putO p.t r.1 r.2) = some r := by
  intro r hr
  obtain ⟨q, h1, h2⟩ := Option.map_eq_some_iff.1 hr
  rw [evOp_mono h h1]
  exact congrArg some h2
 unfold evStp at he ⊢
 split at he
 ·rename_i hg; exact one _ he
 ·rename_i q want hg
  split at he
  ·rename_i b hb
   by_cases e : b = want
   ·rw [if_pos e] at he ⊢; exact one _ he
   ·rw [if_neg e] at he ⊢; exact he
  ·exact he
  ·cases he
theorem evOps_mono {c c' : Caller} (h : CLe c c') {l : List Stp} {s s' : S} (he : evOps c l s = some s') : evOps c' l s = some s' := by
 induction l generalizing s with
 | nil => exact he
 | cons p r ih =>
  simp only [evOps] at he ⊢
  obtain ⟨s1, h1, h2⟩ := Option.bind_eq_some_iff.1 he
  rw [evStp_mono h h1]
  exact ih h2
theorem iter_mono {b b' : S -> Option (Ex × S)} {cr : S -> Option S} (h : ∀ s r, b s = some r -> b' s = some r) {n m : Nat} (hn : n <= m) {s : S} {r : Ex × S} (he : iter b cr n s = some r) : iter b' cr m s = some r := by
 induction n generalizing s m with
 | zero => cases he
 | succ n ih =>
  obtain ⟨m, rfl⟩ : ∃ k, m = k + 1 := ⟨m - 1, by omega⟩
  simp only [iter] at he ⊢
  cases hc : cr s with
  | none => rw [hc] at he; cases he
  | some s1 =>
   rw [hc] at he
   simp only at he ⊢
   cases hb : b s1 with
   | none => rw [hb] at he; cases he
   | some p =>
    rw [hb] at he
    rw [h _ _ hb]
    obtain ⟨x, s2⟩ := p
    cases x with
    | nm => exact ih (by omega) he
    | ex id => exact he
    | rt => exact he
theorem iter_step {b : S -> Option (Ex × S)} {cr : S -> Option S} {s : S} (n : Nat) (r : Ex × S) (h : iter b cr n s = some r) : iter b cr (n + 1) s = some r := iter_mono (fun _ _ h => h) (Nat.le_succ n) h
theorem AllR_mono {c c' : Caller} (h : CLe c c') {l : List (Stp × List Nat)} : ∀ {n : Nat} {done : List Nat} {s s' : S}, AllR c l n done s s' -> AllR c' l n done s s'
 | 0, done, s, s', he => he
 | n + 1, done, s, s', he => fun i p ds hp hr => by
  obtain ⟨s1, h1, h2⟩ := he i p ds hp hr
  exact ⟨s1, evStp_mono h h1, AllR_mono h h2⟩
theorem evC_mono {c c' : Caller} (h : CLe c c') {p : Cd} : ∀ {s : S} {r : Ex × S}, evC c p s = some r -> evC c' p s = some r := by
 induction p with
 | sk => intro s r he; exact he
 | ex id => intro s r he; exact he
 | rt => intro s r he; exact he
 | rg l =>
  intro s r he
  simp only [evC] at he ⊢
  obtain ⟨s1, h1, h2⟩ := Option.map_eq_some_iff.1 he
  rw [evOps_mono h h1]; exact congrArg some h2
 | sq a b iha ihb =>
  intro s r he
  simp only [evC] at he ⊢
  cases ha : evC c a s with
  | none => rw [ha] at he; cases he
  | some p =>
   rw [ha] at he
   rw [iha ha]
   obtain ⟨x, s2⟩ := p
   cases x with
   | nm => exact ihb he
   | ex id => exact he
   | rt => exact he
 | ff q a b iha ihb =>
  intro s r he
  simp only [evC] at he ⊢
  split at he
  ·rename_i v hv
   by_cases e : v = true
   ·subst e; simp only [if_true] at he ⊢; exact iha he
   ·simp only [if_neg e] at he ⊢; exact ihb he
  ·cases he
 | bl id a iha =>
  intro s r he
  simp only [evC] at he ⊢
  cases ha : evC c a s with
  | none => rw [ha] at he; cases he
  | some p => rw [ha] at he; rw [iha ha]; exact he
 | rf x b rid ks => intro s r he; exact evR_mono h he
 | dead => intro s r he; cases he
 | del z => intro s r he; exact he
 | ls t off id a iha =>
  intro s r he
  simp only [evC] at he ⊢
  split at he
  ·split at he
   ·rename_i s1 h1
    split at he
    ·rename_i x2 s2 h2
     rw [iha h2]; exact he
    ·cases he
   ·cases he
  ·cases he
 | dra l =>
  intro s r he
  simp only [evC] at he ⊢
  split at he
  ·rename_i s1 h1
   split at he
   ·rename_i hR
    rw [evOps_mono h h1]
    simp only
    rw [if_pos (AllR_mono h hR)]; exact he
   ·cases he
  ·cases he
 | drt l tl =>
  intro s r he
  simp only [evC] at he ⊢
  obtain ⟨s1, h1, h2⟩ := Option.map_eq_some_iff.1 he
  obtain ⟨s2, h3, h4⟩ := Option.bind_eq_some_iff.1 h1
  rw [evDr_mono h h3, Option.bind_some, evOps_mono h h4]; exact congrArg some h2
 | gs l a iha =>
  intro s r he
  simp only [evC] at he ⊢
  cases hl : evG l s with
  | none => rw [hl] at he; cases he
  | some s1 => rw [hl] at he; exact iha he
 | dr l =>
  intro s r he
  simp only [evC] at he ⊢
  obtain ⟨s1, h1, h2⟩ := Option.map_eq_some_iff.1 he
  rw [evDr_mono h h1]; exact congrArg some h2
 | lp ks bs a iha =>
  intro s r he
  simp only [evC] at he ⊢
  obtain ⟨n, hn⟩ := lim_ex he
  exact lim_eq (fun n r => iter_step n r) (iter_mono (fun s r => iha) (Nat.le_refl n) hn)
section
variable {C : Nat -> Caller} {E : Caller}
theorem res1_same {c c' : Caller} (r : Res) (s : S) : res1 c r s = res1 c' r s := by cases r <;> rfl
theorem resL_same {c c' : Caller} (l : List Res) : ∀ s : S, resL c l s = resL c' l s := by
 induction l with
 | nil => intro s; rfl
 | cons r l ih => intro s; simp only [resL, res1_same (c := c) (c' := c'), ih]
theorem runR_of {c c' : Caller} (h : ∀ p s r, evC c p s = some r -> evC c' p s = some r) {F : Fn} {ps : List Nat} {asg : Cd} {rid f b : Nat} {args : List D} {B : List Bx} {r : D × List Bx} (he : runR c F ps asg rid f b args B = some r) : runR c' F ps asg rid f b args B = some r := by
 unfold runR at he ⊢
 split at he
 ·split at he
  ·rename_i hc
   rw [if_pos hc]
   split at he
   ·rename_i s1 h1
    rw [h _ _ _ h1]
    simp only
    split at he
    ·rename_i h2
     split at he
     ·rename_i h3
      rw [h _ _ _ h3]
      exact he
     ·cases he
    ·cases he
   ·cases he
  ·cases he
 ·cases he
theorem runF_of {prog : Nat -> Option Fn} {c c' : Caller} {f : Nat} {ds : List D} {B : List Bx} {r : D × List Bx} (h : ∀ p s r, evC c p s = some r -> evC c' p s = some r) (he : runF prog c f ds B = some r) : runF prog c' f ds B = some r := by
 unfold runF at he ⊢
 cases hp : prog f with
 | none => rw [hp] at he; cases he
 | some F =>
  rw [hp] at he
  simp only at he ⊢
  split at he
  ·rename_i hrn
   split at he
   ·rename_i hc
    rw [if_pos hc]
    cases hb : evC c F.body ⟨argE 0 ds, [], B⟩ with
    | none => rw [hb] at he; cases he
    | some p =>
     rw [hb] at he
     rw [h _ _ _ hb]
     obtain ⟨x, s2⟩ := p
     cases x with
     | ex id => exact he
     | nm => simp only [resL_same (c := c) (c' := c')] at he; exact he
     | rt => simp only [resL_same (c := c) (c' := c')] at he; exact he
   ·cases he
  ·rename_i ps asg hrn
   split at he
   ·exact runR_of h he
   ·cases he
end
theorem runF_mono {prog : Nat -> Option Fn} {c c' : Caller} (h : CLe c c') : CLe (runF prog c) (runF prog c') := fun f ds B r he => runF_of (fun p s r hr => evC_mono h hr) he
theorem EFr_fun {prog : Nat -> Option Fn} {f : Nat} {ds : List D} {B : List Bx} {r : D × List Bx} (h : EFr prog f ds B r) : ∀ r', EFr prog f ds B r' -> r = r' := by
 induction h with
 | @mk f ds B r c hc he ih =>
  intro r' h'
  cases h' with
  | mk c' hc' he' =>
   let u : Caller := fun f ds B => match c f ds B with
    | some r => some r
    | none => c' f ds B
   have h1 : CLe c u := fun f ds B r hr => by simp only [u, hr]
   have h2 : CLe c' u := fun f ds B r hr => by
    simp only [u]
    cases hq : c f ds B with
    | none => exact hr
    | some x => simp only; rw [ih _ _ _ _ hq r (hc' _ _ _ _ hr)]
   have a := runF_mono (prog := prog) h1 _ _ _ _ he
   have b := runF_mono (prog := prog) h2 _ _ _ _ he'
   rw [a] at b
   injection b
theorem EF_of {prog : Nat -> Option Fn} {f : Nat} {ds : List D} {B : List Bx} {r : D × List Bx} (h : EFr prog f ds B r) : EF prog f ds B = some r := by
 have hx : ∃ r, EFr prog f ds B r := ⟨r, h⟩
 unfold EF
 rw [dif_pos hx, EFr_fun hx.choose_spec r h]
theorem EF_eq (prog : Nat -> Option Fn) (f : Nat) (ds : List D) (B : List Bx) : EF prog f ds B = runF prog (EF prog) f ds B := by
 have a : ∀ r, EF prog f ds B = some r -> runF prog (EF prog) f ds B = some r := by
  intro r h
  cases EF_r h with
  | mk c hc he => exact runF_mono (fun f ds B r hr => EF_of (hc _ _ _ _ hr)) _ _ _ _ he
 have b : ∀ r, runF prog (EF prog) f ds B = some r -> EF prog f ds B = some r := fun r h => EF_of (.mk (EF prog) (fun _ _ _ _ h => EF_r h) h)
 cases h : EF prog f ds B with
 | some r => exact (a r h).symm
 | none => cases h' : runF prog (EF prog) f ds B with
  | none => rfl
  | some r => rw [b r h'] at h; cases h
theorem evC_lp (c : Caller) (ks bs : List Nat) (a : Cd) (s : S) : evC c (.lp ks bs a) s = (match carry ks bs s with
  | none => none
  | some s1 => match evC c a s1 with
   | none => none
   | some (.nm, s2) => evC c (.lp ks bs a) s2
   | some (x, s2) => some (x, s2)) := by
 have hm : ∀ (s : S) n r, iter (evC c a) (carry ks bs) n s = some r -> iter (evC c a) (carry ks bs) (n + 1) s = some r := fun s n r => iter_step n r
 have e : ∀ s, evC c (.lp ks bs a) s = lim fun n => iter (evC c a) (carry ks bs) n s := fun s => rfl
 have a1 : ∀ r, evC c (.lp ks bs a) s = some r -> (match carry ks bs s with
  | none => none
  | some s1 => match evC c a s1 with
   | none => none
   | some (.nm, s2) => evC c (.lp ks bs a) s2
   | some (x, s2) => some (x, s2)) = some r := by
  intro r h
  rw [e] at h
  obtain ⟨n, hn⟩ := lim_ex h
  cases n with
  | zero => cases hn
  | succ n =>
   simp only [iter] at hn
   cases hc : carry ks bs s with
   | none => rw [hc] at hn; cases hn
   | some s1 =>
    rw [hc] at hn
    simp only at hn ⊢
    cases hb : evC c a s1 with
    | none => rw [hb] at hn; cases hn
    | some p =>
     rw [hb] at hn
     obtain ⟨x, s2⟩ := p
     cases x with
     | nm => simp only at hn ⊢; rw [e]; exact lim_eq (hm s2) hn
     | ex id => exact hn
     | rt => exact hn
 have b1 : ∀ r, (match carry ks bs s with
  | none => none
  | some s1 => match evC c a s1 with
   | none => none
   | some (.nm, s2) => evC c (.lp ks bs a) s2
   | some (x, s2) => some (x, s2)) = some r -> evC c (.lp ks bs a) s = some r := by
  intro r h
  cases hc : carry ks bs s with
  | none => rw [hc] at h; cases h
  | some s1 =>
   rw [hc] at h
   simp only at h
   cases hb : evC c a s1 with
   | none => rw [hb] at h; cases h
   | some p =>
    rw [hb] at h
    obtain ⟨x, s2⟩ := p
    have fin : ∀ n, iter (evC c a) (carry ks bs) (n + 1) s = some r -> evC c (.lp ks bs a) s = some r := fun n hn => by rw [e]; exact lim_eq (hm s) hn
    cases x with
    | nm =>
     simp only at h
     rw [e] at h
     obtain ⟨n, hn⟩ := lim_ex h
     exact fin n (by simp only [iter, hc, hb]; exact hn)
    | ex id => exact fin 0 (by simp only [iter, hc, hb]; exact h)
    | rt => exact fin 0 (by simp only [iter, hc, hb]; exact h)
 cases h : evC c (.lp ks bs a) s with
 | some r => exact (a1 r h).symm
 | none =>
  generalize hR : (match carry ks bs s with
   | none => none
   | some s1 => match evC c a s1 with
    | none => none
    | some (.nm, s2) => evC c (.lp ks bs a) s2
    | some (x, s2) => some (x, s2)) = R
  cases R with
  | none => rfl
  | some r => rw [b1 r hR] at h; cases h
end Go.Proofs.Ytlhjdikklmkihaa.Ev
namespace Go.Proofs.Ytlhjdikklmkihaa.Ev
open Go
def vEq : Value -> Value -> Bool
 | .int k a, .int k' b => k == k' && a == b
 | .bool a, .bool b => a == b
 | .string a, .string b => a.data.toList == b.data.toList
 | .slice none 0 0, .slice none 0 0 => true
 | .pointer none, .pointer none => true
 | .map none, .map none => true
 | .nilFunc, .nilFunc => true
 | .nilIface, .nilIface => true
 | _, _ => false
theorem vEq_ok {a b : Value} (h : vEq a b = true) : a = b := by
 unfold vEq at h
 split at h <;> first | (cases h; done) | rfl | skip
 ·simp only [Bool.and_eq_true, beq_iff_eq] at h; rw [h.1, h.2]
 ·rw [beq_iff_eq.1 h]
 ·rename_i a b
  have := beq_iff_eq.1 h
  obtain ⟨x⟩ := a
  obtain ⟨y⟩ := b
  simp only at this
  rw [show x = y from Array.ext' this]
def okD : Operand -> Opd -> Bool
 | .tmp n, .t m => n == m
 | .tmp n, .m m => n == m
 | .const x, .c y => vEq x y
 | .const x, .cn => vEq x (.slice none 0 0)
 | .func n, .f m => n == m && Nat.blt n RL
 | _, _ => false
theorem okD_ok {x : Operand} {y : Opd} (h : okD x y = true) : MOpd x y := by
 unfold okD at h
 split at h
 ·rw [beq_iff_eq.1 h]; exact .t _
 ·rw [beq_iff_eq.1 h]; exact .m _
 ·rw [vEq_ok h]; exact .c _
 ·rw [vEq_ok h]; exact .cn
 ·simp only [Bool.and_eq_true, beq_iff_eq, Nat.blt_eq] at h; rw [h.1]; exact .f _ (by rw [<- h.1]; exact h.2)
 ·cases h
def okDs : List Operand -> List Opd -> Bool
 | [], [] => true
 | x :: r, y :: r' => okD x y && okDs r r'
 | _, _ => false
theorem okDs_ok : ∀ {xs : List Operand} {ys : List Opd}, okDs xs ys = true -> xs.length = ys.length ∧ ∀ (i : Nat) x y, xs[i]? = some x -> ys[i]? = some y -> MOpd x y
 | [], [], _ => ⟨rfl, fun i x y h => by simp at h⟩
 | x :: r, y :: r', h => by
  simp only [okDs, Bool.and_eq_true] at h
  obtain ⟨h1, h2⟩ := okDs_ok h.2
  refine ⟨by simp [h1], fun i a b ha hb => ?_⟩
  cases i with
  | zero => simp at ha hb; subst ha hb; exact okD_ok h.1
  | succ i => exact h2 i a b (by simpa using ha) (by simpa using hb)
 | [], _ :: _, h => by cases h
 | _ :: _, [], h => by cases h
theorem okA_ok {xs : Array Operand} {ys : List Opd} (h : okDs xs.toList ys = true) : MArgs xs ys := by
 obtain ⟨h1, h2⟩ := okDs_ok h
 have := MArgs.mk h1 h2
 rwa [Array.toArray_toList] at this
def okO : Option Operand -> Option Opd -> Bool
 | none, none => true
 | some x, some y => okD x y
 | _, _ => false
theorem okO_ok {x : Option Operand} {y : Option Opd} (h : okO x y = true) : MOpt x y := by
 unfold okO at h
 split at h
 ·exact .n
 ·exact .s (okD_ok h)
 ·cases h
variable (P : Program)
def okSz (t : TypeId) (q : Option Nat) : Bool := match P.underlying t with
 | some d => match q with
  | none => !aggT d
  | some n => aggT d && (match P.info? t with | some i => i.size == n | none => false)
 | none => false
theorem okSz_ok {t : TypeId} {q : Option Nat} (h : okSz P t q = true) : Sz P t q := by
 unfold okSz at h
 split at h
 ·rename_i d hd
  cases q with
  | none => exact ⟨d, hd, by simpa using h⟩
  | some n =>
   simp only [Bool.and_eq_true] at h
   obtain ⟨h1, h2⟩ := h
   split at h2
   ·rename_i i hi
    exact ⟨d, i, hd, h1, hi, beq_iff_eq.1 h2⟩
   ·cases h2
 ·cases h
def okB : BinOp -> Bop -> Bool
 | .add, .add | .sub, .sub | .mul, .mul | .quo, .quo | .rem, .rem | .and, .and | .or, .or | .xor, .xor | .andNot, .andNot | .shl, .shl | .shr, .shr
 | .eql, .eql | .neq, .neq | .lss, .lss | .leq, .leq | .gtr, .gtr | .geq, .geq => true
 | _, _ => false
theorem okB_ok {o : BinOp} {p : Bop} (h : okB o p = true) : MB o p := by
 cases o <;> cases p <;> first | trivial | cases h
def okE (t : TypeId) (f : TypeId -> TypeInfo -> Bool) : Bool := match P.underlying t with
 | some (.slice e) => match P.info? e with
  | some i => f e i
  | none => false
 | _ => false
theorem okE_ok {t : TypeId} {f : TypeId -> TypeInfo -> Bool} (h : okE P t f = true) : ∃ e i, P.underlying t = some (.slice e) ∧ P.info? e = some i ∧ f e i = true := by
 unfold okE at h
 split at h
 ·rename_i e he
  split at h
  ·rename_i i hi; exact ⟨e, i, he, hi, h⟩
  ·cases h
 ·cases h
def okZ (z : Nat) (by_ : Option Nat) (e : TypeId) (i : TypeInfo) : Bool := i.size == z && (match i.zero with | some v => v.cells.size == z | none => false) && decide (0 < z) && (match by_ with | some b => i.bytes == b && decide (1 <= b) | none => true)
theorem okZ_ok {z : Nat} {by_ : Option Nat} {e : TypeId} {i : TypeInfo} (h : okZ z by_ e i = true) : i.size = z ∧ (∃ zv, i.zero = some zv ∧ zv.cells.size = z) ∧ 0 < z ∧ ∀ b, by_ = some b -> i.bytes = b ∧ 1 <= b := by
 simp only [okZ, Bool.and_eq_true, beq_iff_eq, decide_eq_true_eq] at h
 obtain ⟨⟨⟨h1, h2⟩, h3⟩, h4⟩ := h
 refine ⟨h1, ?_, h3, fun b hb => ?_⟩
 ·split at h2
  ·rename_i v hv; exact ⟨v, hv, beq_iff_eq.1 h2⟩
  ·cases h2
 ·subst hb; simp only [Bool.and_eq_true, beq_iff_eq, decide_eq_true_eq] at h4; exact h4
def okCells (z : List Value) (v : Value) : Bool := z.length == v.cells.toList.length && (z.zip v.cells.toList).all fun p => vEq p.1 p.2
theorem okCells_ok {z : List Value} {v : Value} (h : okCells z v = true) : v.cells.toList = z := by
 simp only [okCells, Bool.and_eq_true, beq_iff_eq] at h
 generalize v.cells.toList = l at h
 obtain ⟨h1, h2⟩ := h
 induction z generalizing l with
 | nil => exact List.eq_nil_of_length_eq_zero (by simpa using h1.symm)
 | cons x z ih => cases l with
  | nil => simp at h1
  | cons y l =>
   simp only [List.zip_cons_cons, List.all_cons, Bool.and_eq_true] at h2
   rw [vEq_ok h2.1, ih l (by simpa using h1) h2.2]
def okParts (fs : Array Field) : List (Nat × Operand) -> List (Nat × Nat × Opd) -> Bool
 | [], [] => true
 | (f, x) :: r, (off, sz, y) :: r' => okD x y && (match fs[f]? with | some fd => fd.offset == off && (match P.info? fd.type with | some i => i.size == sz | none => false) | none => false) && okParts fs r r'
 | _, _ => false
theorem okParts_ok {fs : Array Field} : ∀ {ps : List (Nat × Operand)} {ps' : List (Nat × Nat × Opd)}, okParts P fs ps ps' = true -> ps.length = ps'.length ∧ ∀ (j : Nat) f x off sz y, ps[j]? = some (f, x) -> ps'[j]? = some (off, sz, y) -> MOpd x y ∧ ∃ (fd : Field) (fi : TypeInfo), fs[f]? = some fd ∧ fd.offset = off ∧ P.info? fd.type = some fi ∧ fi.size = sz
 | [], [], _ => ⟨rfl, fun j f x off sz y h => by simp at h⟩
 | (f, x) :: r, (off, sz, y) :: r', h => by
  simp only [okParts, Bool.and_eq_true] at h
  obtain ⟨⟨h1, h2⟩, h3⟩ := h
  obtain ⟨k1, k2⟩ := okParts_ok h3
  refine ⟨by simp [k1], fun j f' x' off' sz' y' ha hb => ?_⟩
  cases j with
  | zero =>
   simp at ha hb
   obtain ⟨rfl, rfl⟩ := ha
   obtain ⟨rfl, rfl, rfl⟩ := hb
   refine ⟨okD_ok h1, ?_⟩
   split at h2
   ·rename_i fd hfd
    simp only [Bool.and_eq_true, beq_iff_eq] at h2
    split at h2
    ·rename_i i hi; exact ⟨fd, i, hfd, h2.1, hi, beq_iff_eq.1 h2.2⟩
    ·cases h2.2
   ·cases h2
  | succ j => exact k2 j f' x' off' sz' y' (by simpa using ha) (by simpa using hb)
 | [], _ :: _, h => by cases h
 | _ :: _, [], h => by cases h
def zcEq : D -> Value -> Bool
 | .v x, y => vEq x y && !(vEq y (.slice none 0 0))
 | .sl .nl 0 [], y => vEq y (.slice none 0 0)
 | _, _ => false
theorem zcEq_ok {d : D} {y : Value} (h : zcEq d y = true) : d = zc y := by
 unfold zcEq at h
 split at h
 ·simp only [Bool.and_eq_true, Bool.not_eq_true'] at h
  rw [vEq_ok h.1]
  unfold zc
  split
  ·exact absurd h.2 (by simp [vEq])
  ·rfl
 ·rw [vEq_ok h]; rfl
 ·cases h
def zcsEq : List D -> List Value -> Bool
 | [], [] => true
 | d :: r, v :: r' => zcEq d v && zcsEq r r'
 | _, _ => false
theorem zcsEq_ok : ∀ {ds : List D} {vs : List Value}, zcsEq ds vs = true -> ds = vs.map zc
 | [], [], _ => rfl
 | d :: r, v :: r', h => by
  simp only [zcsEq, Bool.and_eq_true] at h
  rw [zcEq_ok h.1, zcsEq_ok h.2]; rfl
 | [], _ :: _, h => by cases h
 | _ :: _, [], h => by cases h
def okPl : Nat -> List Field -> List Value -> Bool
 | _, [], [] => true
 | j, f :: fs, z :: zs => f.offset == j && !(f.name == "_") && (match P.underlying f.type with | some d => plainT d z | none => false) && okPl (j + 1) fs zs
 | _, _, _ => false
theorem okPl_ok : ∀ {j : Nat} {fs : List Field} {zs : List Value}, okPl P j fs zs = true -> PlainF P j fs zs
 | j, [], [], _ => .nil
 | j, f :: fs, z :: zs, h => by
  simp only [okPl, Bool.and_eq_true, beq_iff_eq, Bool.not_eq_true'] at h
  obtain ⟨⟨⟨h1, h2⟩, h3⟩, h4⟩ := h
  split at h3
  ·rename_i d hd; exact .cons h1 h2 hd h3 (okPl_ok h4)
  ·cases h3
 | _, [], _ :: _, h => by cases h
 | _, _ :: _, [], h => by cases h
def okOp (o : Go.Op) (p : Op) : Bool := match o, p with
 | .move x, .mv x' => okD x x'
 | .assign x, .mv x' => okD x x'
 | .pick c a b, .pk c' a' b' => okD c c' && okD a a' && okD b b'
 | .makeMap _ r, .mkm => r.isNone
 | .alloc t, .al z => (match P.info? t with | some i => (match i.zero with | some v => okCells z v && z.all Value.oneCell' | none => false) | none => false)
 | .box _ x, .bx x' => okD x x'
 | .box _ x, .bxo u x' => okD x x' && Nat.blt u RL
 | .load t p, .ld n p' => okD p p' && okSz P t n
 | .load t p, .ldm n p' => okD p p' && okSz P t n
 | .store t p x, .st n p' x' => okD p p' && okD x x' && (match P.info? t with | some i => i.size == n | none => false)
 | .binOp op t x y _, .bin op' x' y' => okB op op' && okD x x' && okD y y'
 | .unOp .not _ x, .no x' => okD x x'
 | .unOp op _ x, .un xr x' => okD x x' && (match op with | .xor => xr | .neg => !xr | _ => false)
 | .fieldAddr t x f, .fa x' off => okD x x' && (match P.underlying t with | some (.struct fs) => (match fs[f]? with | some fd => fd.offset == off && (match P.info? fd.type with | some i => !(i.size == 0) | none => false) | none => false) | _ => false)
 | .indexAddr t x (.const (.int _ q)), .fa x' off => okD x x' && (match P.underlying t with | some (.array n e) => decide (0 <= q) && decide (q < (n : Int)) && (match P.info? e with | some i => q.toNat * i.size == off | none => false) | _ => false)
 | .indexAddr t x y, .ia x' y' z => okD x x' && okD y y' && okE P t fun _ i => i.size == z
 | .index t x y, .six x' y' => okD x x' && okD y y' && (match P.underlying t with | some .string => true | _ => false)
 | .extract x i, .ext x' i' => okD x x' && i == i'
 | .call c, .call f args => (match c.callee with | .value (.func f') => f == f' && Nat.blt f RL && okDs c.args.toList args | _ => false)
 | .call c, .calf f args => (match c.callee with | .value (.func f') => f == f' && Nat.blt f RL && okDs c.args.toList args | _ => false)
 | .call c, .cv f args => (match c.callee with | .value f' => okD f' f && okDs c.args.toList args | _ => false)
 | .call c, .len x => (match c.callee, c.args.toList, c.argTypes.toList with | .builtin .len, [y], [t] => okD y x && okE P t fun _ _ => true | _, _, _ => false)
 | .call c, .lns x => (match c.callee, c.args.toList, c.argTypes.toList with | .builtin .len, [y], [t] => okD y x && (match P.underlying t with | some .string => true | _ => false) | _, _, _ => false)
 | .call c, .ap _ z by_ x y => (match c.callee, c.args.toList, c.argTypes.toList with | .builtin .append, [x', y'], [t, tx] => okD x' x && okD y' y && okE P t (okZ z (some by_)) && (match P.underlying tx with | some (.slice _) => true | _ => false) | _, _, _ => false)
 | .call c, .mm mx x r => (match c.callee, c.args.toList with | .builtin b, x' :: r' => (match b with | .max => mx | .min => !mx | _ => false) && okD x' x && okDs r' r | _, _ => false)
 | .buildSlice t len ps, .bs _ z ps' => okDs (ps.toList.map (·.2)) ps' && (ps.toList.map (·.1) == List.range len) && okE P t (okZ z none) && decide (len * z <= 16777216)
 | .makeSlice t x y, .mk _ z by_ ze x' y' => okD x x' && okD y y' && okE P t fun e i => okZ z (some by_) e i && (match i.zero with | some v => zcsEq ze.cells v.cells.toList && v.cells.toList.all Value.oneCell' | none => false)
 | .build t ps, .bd z ps' => (match P.underlying t with | some (.struct fs) => okParts P fs ps.toList ps' && fs.all (fun fd => (P.info? fd.type).isSome) | _ => false) && (match P.info? t with | some i => (match i.zero with | some v => okCells z v | none => false) | none => false)
 | .slice t x lo hi none, .slc z x' lo' hi' => okD x x' && okO lo lo' && okO hi hi' && okE P t fun _ i => i.size == z
 | .binOp op t x y _, .eqn ne x' => okD x x' && (match y with | .const v => vEq v (.slice none 0 0) | _ => false) && (match op with | .eql => !ne | .neq => ne | _ => false) && okE P t fun _ _ => true
 | .binOp op t x y _, .eqs ne x' y' => okD x x' && okD y y' && (match op with | .eql => !ne | .neq => ne | _ => false)
 | .binOp op t x y _, .eqb ne x' y' => okD x x' && okD y y' && (match op with | .eql => !ne | .neq => ne | _ => false) && (match P.underlying t with | some .bool => true | _ => false)
 | .binOp op t x y _, .eqa ne z x' y' => okD x x' && okD y y' && (match op with | .eql => !ne | .neq => ne | _ => false) && (match P.underlying t with | some (.struct fs) => !P.stoodInHeld t && !P.eqGuardType P.depth t && okPl P 0 fs.toList z | _ => false)
 | .binOp op t x y _, .sh op' x' y' => okB op op' && okD x x' && okD y y'
 | .convert s t x, .ci k x' => okD x x' && (P.underlying s).isSome && (match P.underlying t with | some (.int k') => k == k' | _ => false)
 | .makeFunc (.func f) first caps, .mf f' caps' => f == f' && Nat.blt f RL && first.isEmpty && okDs caps.toList caps'
 | .nilCheck x, .nck x' => okD x x'
 | .convert s t x, .bst x' => okD x x' && (match P.underlying s with | some (.slice e) => (match P.underlying e with | some (.int .u8) => true | _ => false) | _ => false) && (match P.underlying t with | some .string => true | _ => false)
 | .call c, .cpy x y => (match c.callee, c.args.toList, c.argTypes.toList with | .builtin .copy, [x', y'], [t, tx] => okD x' x && okD y' y && okE P t (fun _ i => i.size == 1) | _, _, _ => false)
 | .call c, .pcal f args => (match c.callee with | .value (.func f') => f == f' && Nat.blt f RL && okDs c.args.toList args | _ => false)
 | _, _ => false
end Go.Proofs.Ytlhjdikklmkihaa.Ev
namespace Go.Proofs.Ytlhjdikklmkihaa.Ev
open Go
variable (P : Program)
theorem zip_self {α β : Type} (l : List (α × β)) : (l.map (·.1)).zip (l.map (·.2)) = l := by
 induction l with
 | nil => rfl
 | cons x l ih => simp [ih]
theorem arr1 {α : Type} {a : Array α} {l : List α} (h : a.toList = l) : a = l.toArray := by rw [<- h]
theorem call_eta (c : Call) : c = ⟨c.callee, c.args, c.argTypes⟩ := rfl
set_option maxHeartbeats 1000000 in
theorem okOp_ok {o : Go.Op} {p : Op} (h : okOp P o p = true) : MOp P o p := by
 unfold okOp at h
 split at h
 ·exact .mv (okD_ok h)
 ·exact .asg (okD_ok h)
 ·simp only [Bool.and_eq_true] at h; exact .pk (okD_ok h.1.1) (okD_ok h.1.2) (okD_ok h.2)
 ·obtain rfl := Option.isNone_iff_eq_none.1 h
  exact .mkm
 ·split at h
  ·rename_i i hi
   split at h
   ·rename_i v hv
    simp only [Bool.and_eq_true] at h
    exact .al hi hv (okCells_ok h.1) h.2
   ·cases h
  ·cases h
 ·exact .bx (okD_ok h)
 ·simp only [Bool.and_eq_true] at h; exact .bxo (okD_ok h.1) (by simpa using h.2)
 ·simp only [Bool.and_eq_true] at h; exact .ld (okD_ok h.1) (okSz_ok P h.2)
 ·simp only [Bool.and_eq_true] at h; exact .ldm (okD_ok h.1) (okSz_ok P h.2)
 ·simp only [Bool.and_eq_true] at h
  obtain ⟨⟨h1, h2⟩, h3⟩ := h
  split at h3
  ·rename_i i hi; exact .st (okD_ok h1) (okD_ok h2) hi (beq_iff_eq.1 h3)
  ·cases h3
 ·simp only [Bool.and_eq_true] at h; exact .bin (okB_ok h.1.1) (okD_ok h.1.2) (okD_ok h.2)
 ·exact .no (okD_ok h)
 ·rename_i op t x xr x'
  simp only [Bool.and_eq_true] at h
  obtain ⟨h1, h2⟩ := h
  split at h2
  ·subst h2; exact .xr (okD_ok h1)
  ·obtain rfl : xr = false := by simpa using h2
   exact .ng (okD_ok h1)
  ·cases h2
 ·simp only [Bool.and_eq_true] at h
  obtain ⟨h1, h2⟩ := h
  split at h2
  ·rename_i fs hfs
   split at h2
   ·rename_i fd hfd
    simp only [Bool.and_eq_true, beq_iff_eq] at h2
    obtain ⟨h3, h4⟩ := h2
    split at h4
    ·rename_i i hi; exact .fa (okD_ok h1) hfs hfd h3 hi (by simpa using h4)
    ·cases h4
   ·cases h2
  ·cases h2
 ·simp only [Bool.and_eq_true] at h
  obtain ⟨h1, h2⟩ := h
  split at h2
  ·rename_i n e hu
   simp only [Bool.and_eq_true, decide_eq_true_eq] at h2
   obtain ⟨⟨h3, h4⟩, h5⟩ := h2
   split at h5
   ·rename_i i hi; exact .fai (okD_ok h1) hu hi h3 h4 (beq_iff_eq.1 h5)
   ·cases h5
  ·cases h2
 ·simp only [Bool.and_eq_true] at h
  obtain ⟨e, i, q1, q2, q3⟩ := okE_ok P h.2
  exact .ia (okD_ok h.1.1) (okD_ok h.1.2) q1 q2 (beq_iff_eq.1 q3)
 ·simp only [Bool.and_eq_true] at h
  obtain ⟨⟨h1, h2⟩, h3⟩ := h
  split at h3
  ·rename_i hu; exact .six (okD_ok h1) (okD_ok h2) hu
  ·cases h3
 ·simp only [Bool.and_eq_true, beq_iff_eq] at h; rw [h.2]; exact .ext (okD_ok h.1)
 ·rename_i c f args
  split at h
  ·rename_i f' hc
   simp only [Bool.and_eq_true, beq_iff_eq, Nat.blt_eq] at h
   rw [call_eta c, hc, <- h.1.1]; exact .call h.1.2 (okA_ok h.2)
  ·cases h
 ·rename_i c f args
  split at h
  ·rename_i f' hc
   simp only [Bool.and_eq_true, beq_iff_eq, Nat.blt_eq] at h
   rw [call_eta c, hc, <- h.1.1]; exact .calf h.1.2 (okA_ok h.2)
  ·cases h
 ·rename_i c f args
  split at h
  ·rename_i f' hc
   simp only [Bool.and_eq_true] at h
   rw [call_eta c, hc]; exact .cv (okD_ok h.1) (okA_ok h.2)
  ·cases h
 ·rename_i c x
  split at h
  ·rename_i y t hc ha ht
   simp only [Bool.and_eq_true] at h
   obtain ⟨e, i, q1, q2, q3⟩ := okE_ok P h.2
   rw [call_eta c, hc, arr1 ha, arr1 ht]; exact .lenS (okD_ok h.1) q1
  ·cases h
 ·rename_i c x
  split at h
  ·rename_i y t hc ha ht
   simp only [Bool.and_eq_true] at h
   obtain ⟨h1, h2⟩ := h
   split at h2
   ·rename_i hu
    rw [call_eta c, hc, arr1 ha, arr1 ht]; exact .lenT (okD_ok h1) hu
   ·cases h2
  ·cases h
 ·rename_i c wm z by_ x y
  split at h
  ·rename_i x' y' t tx hc ha ht
   simp only [Bool.and_eq_true] at h
   obtain ⟨⟨⟨h1, h2⟩, h3⟩, h4⟩ := h
   obtain ⟨e, i, q1, q2, q3⟩ := okE_ok P h3
   obtain ⟨r1, ⟨zv, r2, r3⟩, r4, r5⟩ := okZ_ok q3
   obtain ⟨r6, r7⟩ := r5 by_ rfl
   split at h4
   ·rename_i e' he'
    rw [call_eta c, hc, arr1 ha, arr1 ht]
    exact .ap (okD_ok h1) (okD_ok h2) q1 he' q2 r2 r1 r6 r3 r4 r7
   ·cases h4
  ·cases h
 ·rename_i c mx x r
  split at h
  ·rename_i b x' r' hc ha
   simp only [Bool.and_eq_true] at h
   obtain ⟨⟨h1, h2⟩, h3⟩ := h
   obtain ⟨k1, k2⟩ := okDs_ok h3
   split at h1
   ·subst h1; rw [call_eta c, hc, arr1 ha]; exact .mx (okD_ok h2) k1 k2
   ·obtain rfl : mx = false := by simpa using h1
    rw [call_eta c, hc, arr1 ha]; exact .mn (okD_ok h2) k1 k2
   ·cases h1
  ·cases h
 ·rename_i t len ps w z ps'
  simp only [Bool.and_eq_true, beq_iff_eq, decide_eq_true_eq] at h
  obtain ⟨⟨⟨h1, h2⟩, h3⟩, h4⟩ := h
  obtain ⟨e, i, q1, q2, q3⟩ := okE_ok P h3
  obtain ⟨r1, ⟨zv, r2, r3⟩, r4, _⟩ := okZ_ok q3
  obtain ⟨k1, k2⟩ := okDs_ok h1
  have hlen : len = (ps.toList.map (·.2)).length := by
   have := congrArg List.length h2
   simp at this ⊢
   exact this.symm
  have hps : ps = ((List.range (ps.toList.map (·.2)).length).zip (ps.toList.map (·.2))).toArray := by
   rw [<- hlen, <- h2, zip_self]
  rw [hlen, hps]
  have e2 : ((List.range (ps.toList.map (·.2)).length).zip (ps.toList.map (·.2))).toArray.toList.map (·.2) = ps.toList.map (·.2) := by rw [<- hps]
  rw [e2]
  exact .bs k1 k2 q1 q2 r2 r1 r3 r4 (by rw [<- hlen]; exact h4)
 ·rename_i t x y z by_ ze x' y'
  simp only [Bool.and_eq_true] at h
  obtain ⟨e, i, q1, q2, q3⟩ := okE_ok P h.2
  simp only [Bool.and_eq_true] at q3
  obtain ⟨r1, ⟨zv, r2, r3⟩, r4, r5⟩ := okZ_ok q3.1
  obtain ⟨r6, r7⟩ := r5 by_ rfl
  have h5 := q3.2
  rw [r2] at h5
  simp only [Bool.and_eq_true] at h5
  exact .mk (okD_ok h.1.1) (okD_ok h.1.2) q1 q2 r2 r1 r6 r3 r4 r7 (zcsEq_ok h5.1) h5.2
 ·rename_i t ps z ps'
  simp only [Bool.and_eq_true] at h
  obtain ⟨h1, h2⟩ := h
  split at h1
  ·rename_i fs hfs
   simp only [Bool.and_eq_true] at h1
   obtain ⟨k1, k2⟩ := okParts_ok P h1.1
   split at h2
   ·rename_i i hi
    split at h2
    ·rename_i v hv
     have := MOp.bd (ps := ps.toList) hfs hi hv (okCells_ok h2) k1 k2 (fun fd hfd => by
      have := Array.all_eq_true_iff_forall_mem.1 h1.2 fd hfd
      exact this)
     rwa [Array.toArray_toList] at this
    ·cases h2
   ·cases h2
  ·cases h1
 ·simp only [Bool.and_eq_true] at h
  obtain ⟨⟨⟨h1, h2⟩, h3⟩, h4⟩ := h
  obtain ⟨e, i, q1, q2, q3⟩ := okE_ok P h4
  exact .slc (okD_ok h1) q1 q2 (beq_iff_eq.1 q3) (okO_ok h2) (okO_ok h3)
 ·rename_i op t x y t' ne x'
  simp only [Bool.and_eq_true] at h
  obtain ⟨⟨⟨h1, h2⟩, h3⟩, h4⟩ := h
  obtain ⟨e, i, q1, q2, q3⟩ := okE_ok P h4
  split at h2
  ·rw [vEq_ok h2]
   split at h3
   ·obtain rfl : ne = false := by simpa using h3
    exact .eqn (okD_ok h1) q1
   ·subst h3; exact .nen (okD_ok h1) q1
   ·cases h3
  ·cases h2
 ·rename_i op t x y t' ne x' y'
  simp only [Bool.and_eq_true] at h
  obtain ⟨⟨h1, h2⟩, h3⟩ := h
  split at h3
  ·obtain rfl : ne = false := by simpa using h3
   exact .eqs (okD_ok h1) (okD_ok h2)
  ·subst h3; exact .nes (okD_ok h1) (okD_ok h2)
  ·cases h3
 ·rename_i op t x y t' ne x' y'
  simp only [Bool.and_eq_true] at h
  obtain ⟨⟨⟨h1, h2⟩, h3⟩, h4⟩ := h
  split at h4
  ·rename_i hu
   split at h3
   ·obtain rfl : ne = false := by simpa using h3
    exact .eqb (okD_ok h1) (okD_ok h2) hu
   ·subst h3; exact .neb (okD_ok h1) (okD_ok h2) hu
   ·cases h3
  ·cases h4
 ·rename_i op t x y t' ne z x' y'
  simp only [Bool.and_eq_true] at h
  obtain ⟨⟨⟨h1, h2⟩, h3⟩, h4⟩ := h
  split at h4
  ·rename_i fs hu
   simp only [Bool.and_eq_true, Bool.not_eq_true'] at h4
   obtain ⟨⟨h5, h6⟩, h7⟩ := h4
   split at h3
   ·obtain rfl : ne = false := by simpa using h3
    exact .eqa (okD_ok h1) (okD_ok h2) hu h5 h6 (okPl_ok P h7)
   ·subst h3; exact .nea (okD_ok h1) (okD_ok h2) hu h5 h6 (okPl_ok P h7)
   ·cases h3
  ·cases h4
 ·simp only [Bool.and_eq_true] at h; exact .sh (okB_ok h.1.1) (okD_ok h.1.2) (okD_ok h.2)
 ·simp only [Bool.and_eq_true] at h
  obtain ⟨⟨h1, h2⟩, h3⟩ := h
  obtain ⟨d, hd⟩ := Option.isSome_iff_exists.1 h2
  split at h3
  ·rename_i k' hk
   rw [beq_iff_eq.1 h3]; exact .ci (okD_ok h1) hd hk
  ·cases h3
 ·rename_i f first caps f' caps'
  simp only [Bool.and_eq_true, beq_iff_eq, Nat.blt_eq] at h
  obtain ⟨⟨⟨h1, h0⟩, h2⟩, h3⟩ := h
  have : first = #[] := by simpa using h2
  subst this
  rw [<- h1]; exact .mf h0 (okA_ok h3)
 ·exact .nck (okD_ok h)
 ·simp only [Bool.and_eq_true] at h
  obtain ⟨⟨h1, h2⟩, h3⟩ := h
  split at h2
  ·rename_i e hs
   split at h2
   ·rename_i he
    split at h3
    ·rename_i ht
     exact .bst (okD_ok h1) hs he ht
    ·cases h3
   ·cases h2
  ·cases h2
 ·rename_i c x y
  split at h
  ·rename_i x' y' t tx hc ha ht
   simp only [Bool.and_eq_true] at h
   obtain ⟨⟨h1, h2⟩, h3⟩ := h
   obtain ⟨e, i, q1, q2, q3⟩ := okE_ok P h3
   rw [call_eta c, hc, arr1 ha, arr1 ht]
   exact .cpy (okD_ok h1) (okD_ok h2) q1 q2 (beq_iff_eq.1 q3)
  ·cases h
 ·rename_i c f args
  split at h
  ·rename_i f' hc
   simp only [Bool.and_eq_true, beq_iff_eq, Nat.blt_eq] at h
   obtain ⟨⟨h1, h0⟩, h3⟩ := h
   rw [call_eta c, hc, <- h1]; exact .pcal h0 (okA_ok h3)
  ·cases h
 ·cases h
def okStp (n : Nat) (ops : Array Oper) (o : Oper) (p : Stp) : Bool :=
 okOp P o.op p.op && p.t == o.dst && (match p.t with | some t => Nat.blt t n && Nat.blt t RL | none => true) &&
  (match o.guard, p.g with
   | none, none => true
   | some (j, want), some (q, want') => want == want' && (ops[j]?).bind (·.dst) == some q
   | _, _ => false)
theorem okStp_ok {n : Nat} {ops : Array Oper} {o : Oper} {p : Stp} (h : okStp P n ops o p = true) : MStp P n ops o p := by
 simp only [okStp, Bool.and_eq_true, beq_iff_eq] at h
 obtain ⟨⟨⟨h1, h2⟩, h3⟩, h4⟩ := h
 refine ⟨okOp_ok P h1, h2, fun t ht => by rw [ht] at h3; simp only [Bool.and_eq_true, Nat.blt_eq] at h3; exact h3.1, fun t ht => by rw [ht] at h3; simp only [Bool.and_eq_true, Nat.blt_eq] at h3; exact h3.2, ?_⟩
 cases ho : o.guard with
 | none => rw [ho] at h4; cases hp : p.g with
  | none => trivial
  | some q => rw [hp] at h4; cases h4
 | some jw =>
  rw [ho] at h4
  obtain ⟨j, w⟩ := jw
  cases hp : p.g with
  | none => rw [hp] at h4; cases h4
  | some q =>
   rw [hp] at h4
   obtain ⟨q, w'⟩ := q
   simpa [Bool.and_eq_true] using h4
def okOps (n : Nat) (ops : Array Oper) : List Oper -> List Stp -> Bool
 | [], [] => true
 | o :: r, p :: r' => okStp P n ops o p && okOps n ops r r'
 | _, _ => false
theorem okOps_ok {n : Nat} {ops : Array Oper} : ∀ {l : List Oper} {ps : List Stp} {k : Nat}, okOps P n ops l ps = true -> (∀ j o, l[j]? = some o -> ops[k + j]? = some o) -> MOps P n ops (List.range' k l.length) ps
 | [], [], k, _, _ => .nil
 | o :: r, p :: r', k, h, hl => by
  simp only [okOps, Bool.and_eq_true] at h
  rw [List.length_cons, List.range'_succ]
  refine .cons (hl 0 o rfl) (okStp_ok P h.1) (okOps_ok h.2 fun j o' hj => ?_)
  have := hl (j + 1) o' (by simpa using hj)
  rw [<- this]; congr 1; omega
 | [], _ :: _, _, h, _ => by cases h
 | _ :: _, [], _, h, _ => by cases h
theorem rounds_sub : ∀ (c : Code) (j : Nat) (p : Array Tmp × Code × Code), (rounds c)[j]? = some p -> ∀ i x, (rounds p.2.1 ++ rounds p.2.2)[i]? = some x -> (rounds c)[j + 1 + i]? = some x
 | .seq a b, j, p, hj, i, x, hx => by
  simp only [rounds] at hj ⊢
  rcases Nat.lt_or_ge j (rounds a).length with h | h
  ·rw [List.getElem?_append_left h] at hj
   have := rounds_sub a j p hj i x hx
   rw [List.getElem?_append_left (getq_lt this)]; exact this
  ·rw [List.getElem?_append_right h] at hj
   have := rounds_sub b _ p hj i x hx
   rw [List.getElem?_append_right (by omega), <- this]; congr 1; omega
 | .cond _ a b, j, p, hj, i, x, hx => by
  simp only [rounds] at hj ⊢
  rcases Nat.lt_or_ge j (rounds a).length with h | h
  ·rw [List.getElem?_append_left h] at hj
   have := rounds_sub a j p hj i x hx
   rw [List.getElem?_append_left (getq_lt this)]; exact this
  ·rw [List.getElem?_append_right h] at hj
   have := rounds_sub b _ p hj i x hx
   rw [List.getElem?_append_right (by omega), <- this]; congr 1; omega
 | .block _ c, j, p, hj, i, x, hx => rounds_sub c j p hj i x hx
 | .loop c, j, p, hj, i, x, hx => rounds_sub c j p hj i x hx
 | .scope c, j, p, hj, i, x, hx => rounds_sub c j p hj i x hx
 | .rangeFunc _ ps a c, j, p, hj, i, x, hx => by
  simp only [rounds] at hj ⊢
  cases j with
  | zero => simp at hj; subst hj; rw [show 0 + 1 + i = i + 1 by omega, List.getElem?_cons_succ]; exact hx
  | succ j =>
   rw [List.getElem?_cons_succ] at hj
   rw [show j + 1 + 1 + i = (j + 1 + i) + 1 by omega, List.getElem?_cons_succ]
   rcases Nat.lt_or_ge j (rounds a).length with h | h
   ·rw [List.getElem?_append_left h] at hj
    have := rounds_sub a j p hj i x hx
    rw [List.getElem?_append_left (getq_lt this)]; exact this
   ·rw [List.getElem?_append_right h] at hj
    have := rounds_sub c _ p hj i x hx
    rw [List.getElem?_append_right (by omega), <- this]; congr 1; omega
 | .skip, _, _, hj, _, _, _ => by simp [rounds] at hj
 | .region _ _ _, _, _, hj, _, _, _ => by simp [rounds] at hj
 | .exit _, _, _, hj, _, _, _ => by simp [rounds] at hj
 | .label _, _, _, hj, _, _, _ => by simp [rounds] at hj
 | .goto _, _, _, hj, _, _, _ => by simp [rounds] at hj
 | .ret, _, _, hj, _, _, _ => by simp [rounds] at hj
 | .refuse _, _, _, hj, _, _, _ => by simp [rounds] at hj
def mask1 (acc : List Nat) (m : Nat) (e : Edge) : Nat := if Region.binds .any e then m ||| 2 ^ e.on ||| acc.getD e.on 0 else m
def masks : List Oper -> List Nat -> List Nat
 | [], acc => acc
 | o :: r, acc => masks r (acc ++ [o.after.toList.foldl (mask1 acc) 0])
theorem mask1_bit {acc : List Nat} {i : Nat} : ∀ {es : List Edge} {m : Nat}, (es.foldl (mask1 acc) m).testBit i = true -> m.testBit i = true ∨ ∃ e ∈ es, Region.binds .any e = true ∧ (e.on = i ∨ (acc.getD e.on 0).testBit i = true)
 | [], m, h => .inl h
 | e :: es, m, h => by
  rw [List.foldl_cons] at h
  rcases mask1_bit h with h | ⟨e', h1, h2⟩
  ·unfold mask1 at h
   split at h
   ·rename_i hb
    simp only [Nat.testBit_or, Bool.or_eq_true, Nat.testBit_two_pow, decide_eq_true_eq] at h
    rcases h with (h | h) | h
    ·exact .inl h
    ·exact .inr ⟨e, by simp, hb, .inl h⟩
    ·exact .inr ⟨e, by simp, hb, .inr h⟩
   ·exact .inl h
  ·exact .inr ⟨e', by simp [h1], h2⟩
theorem masks_acc : ∀ {l : List Oper} {acc : List Nat} {i : Nat}, i < acc.length -> (masks l acc).getD i 0 = acc.getD i 0
 | [], acc, i, _ => rfl
 | o :: r, acc, i, h => by
  rw [masks, masks_acc (by simp; omega)]
  simp only [List.getD, List.getElem?_append_left h]
theorem masks_at : ∀ {l : List Oper} {acc : List Nat} {j i : Nat}, ((masks l acc).getD (acc.length + j) 0).testBit i = true -> ∃ o, l[j]? = some o ∧ ∃ e ∈ o.after.toList, Region.binds .any e = true ∧ (e.on = i ∨ ((masks l acc).getD e.on 0).testBit i = true)
 | [], acc, j, i, h => by simp [masks, List.getD] at h
 | o :: r, acc, 0, i, h => by
  rw [masks, masks_acc (by simp)] at h
  simp only [Nat.add_zero, List.getD, List.getElem?_append_right (Nat.le_refl _), Nat.sub_self, List.getElem?_cons_zero, Option.getD_some] at h
  rcases mask1_bit h with h | ⟨e, h1, h2, h3⟩
  ·simp at h
  ·refine ⟨o, rfl, e, h1, h2, ?_⟩
   rcases h3 with h3 | h3
   ·exact .inl h3
   ·right
    rcases Nat.lt_or_ge e.on acc.length with hl | hl
    ·rw [masks_acc hl]; exact h3
    ·simp [List.getD, List.getElem?_eq_none hl] at h3
 | o :: r, acc, j + 1, i, h => by
  rw [masks] at h ⊢
  have e : acc.length + (j + 1) = (acc ++ [o.after.toList.foldl (mask1 acc) 0]).length + j := by simp; omega
  rw [e] at h
  obtain ⟨o', h1, h2⟩ := masks_at h
  exact ⟨o', by simpa using h1, h2⟩
def okPairs (l : List (Stp × List Nat)) (ms : List Nat) : Bool := (List.range l.length).all fun j => (List.range j).all fun i => (ms.getD j 0).testBit i || (match l[i]?, l[j]? with
 | some x, some y => apart x.1 y.1 && (y.2.contains i || still x.1.op y.1.op)
 | _, _ => true)
def okLt : Nat -> List Oper -> Bool
 | _, [] => true
 | j, o :: r => o.after.toList.all (fun e => !Region.binds .any e || Nat.blt e.on j) && okLt (j + 1) r
theorem okLt_ok : ∀ {l : List Oper} {k : Nat}, okLt k l = true -> ∀ j o e, l[j]? = some o -> e ∈ o.after.toList -> Region.binds .any e = true -> e.on < k + j
 | [], k, h, j, o, e, hj, _, _ => by simp at hj
 | o' :: r, k, h, j, o, e, hj, he, hb => by
  simp only [okLt, Bool.and_eq_true] at h
  cases j with
  | zero =>
   simp at hj
   subst hj
   have := List.all_eq_true.1 h.1 e he
   rw [hb] at this
   simpa using this
  | succ j => have := okLt_ok h.2 j o e (by simpa using hj) he hb; omega
def okDr (n : Nat) (ops : Array Oper) (l : List (Stp × List Nat)) : Bool := P.follows .mixedOrders && okOps P n ops ops.toList (l.map (·.1)) && okLt 0 ops.toList && okPairs l (masks ops.toList [])
theorem okDr_ok {n : Nat} {ops : Array Oper} {l : List (Stp × List Nat)} (h : okDr P n ops l = true) : P.follows .mixedOrders = true ∧ MOps P n ops (List.range ops.size) (l.map (·.1)) ∧ Deps ops l (fun j i => ((masks ops.toList []).getD j 0).testBit i = true) := by
 simp only [okDr, Bool.and_eq_true] at h
 obtain ⟨⟨⟨h1, h2⟩, h3⟩, h4⟩ := h
 have h5 := okOps_ok P (k := 0) h2 fun j o hj => by simpa using hj
 rw [Array.length_toList, <- List.range_eq_range'] at h5
 refine ⟨h1, h5, fun j o e hj he hb => ?_, fun i j hc => ?_, fun i j x y hlt hi hj => ?_⟩
 ·have := okLt_ok h3 j o e (by simpa using hj) (by simpa using he) hb
  omega
 ·obtain ⟨o, q1, e, q2, q3, q4⟩ := masks_at (acc := []) (by simpa using hc)
  exact ⟨o, e, by simpa using q1, by simpa using q2, q3, q4⟩
 ·have hjl := getq_lt hj
  have := List.all_eq_true.1 (List.all_eq_true.1 h4 j (List.mem_range.2 hjl)) i (List.mem_range.2 hlt)
  rw [hi, hj] at this
  simp only [Bool.or_eq_true, Bool.and_eq_true] at this
  rcases this with h | ⟨h, h'⟩
  ·exact .inl h
  ·refine .inr ⟨h, ?_⟩
   rcases h' with h' | h'
   ·exact .inl (by simpa using h')
   ·exact .inr h'
def okTail (m : Nat) (ms : List Nat) (N : Nat) : Bool := (List.range N).all fun j => Nat.blt j m || (List.range j).all fun i => (ms.getD j 0).testBit i
def okDrt (n : Nat) (ops : Array Oper) (l : List (Stp × List Nat)) (tl : List Stp) : Bool := P.follows .mixedOrders && okOps P n ops ops.toList (l.map (·.1) ++ tl) && okLt 0 ops.toList && okPairs l (masks ops.toList []) && okTail l.length (masks ops.toList []) ops.toList.length
theorem okDrt_ok {n : Nat} {ops : Array Oper} {l : List (Stp × List Nat)} {tl : List Stp} (h : okDrt P n ops l tl = true) : P.follows .mixedOrders = true ∧ MOps P n ops (List.range ops.size) (l.map (·.1) ++ tl) ∧ Deps ops l (fun j i => ((masks ops.toList []).getD j 0).testBit i = true) ∧ ∀ i j, l.length <= j -> j < ops.size -> i < j -> ((masks ops.toList []).getD j 0).testBit i = true := by
 simp only [okDrt, Bool.and_eq_true] at h
 obtain ⟨⟨⟨⟨h1, h2⟩, h3⟩, h4⟩, h6⟩ := h
 have h5 := okOps_ok P (k := 0) h2 fun j o hj => by simpa using hj
 rw [Array.length_toList, <- List.range_eq_range'] at h5
 refine ⟨h1, h5, ⟨fun j o e hj he hb => ?_, fun i j hc => ?_, fun i j x y hlt hi hj => ?_⟩, fun i j q1 q2 q3 => ?_⟩
 ·have := okLt_ok h3 j o e (by simpa using hj) (by simpa using he) hb
  omega
 ·obtain ⟨o, q1, e, q2, q3, q4⟩ := masks_at (acc := []) (by simpa using hc)
  exact ⟨o, e, by simpa using q1, by simpa using q2, q3, q4⟩
 ·have hjl := getq_lt hj
  have := List.all_eq_true.1 (List.all_eq_true.1 h4 j (List.mem_range.2 hjl)) i (List.mem_range.2 hlt)
  rw [hi, hj] at this
  simp only [Bool.or_eq_true, Bool.and_eq_true] at this
  rcases this with h | ⟨h, h'⟩
  ·exact .inl h
  ·refine .inr ⟨h, ?_⟩
   rcases h' with h' | h'
   ·exact .inl (by simpa using h')
   ·exact .inr h'
 ·have := List.all_eq_true.1 h6 j (List.mem_range.2 (by simpa using q2))
  rw [Bool.or_eq_true] at this
  rcases this with h | h
  ·have : j < l.length := by simpa using h
   omega
  ·exact List.all_eq_true.1 h i (List.mem_range.2 q3)
def lab : Code -> Option Nat
 | .seq (.label l) _ => some l
 | .seq _ b => lab b
 | _ => none
def unG : Code -> Code
 | .seq a b => .seq a (unG b)
 | .goto _ => .skip
 | c => c
def unJ : Code -> Code
 | .seq (.label _) r => .loop (unG r)
 | .seq a b => .seq a (unJ b)
 | c => c
def shG (l : Nat) : Code -> Cd -> Bool
 | .goto l', .sk => l == l'
 | .seq _ b, .sq _ b' => shG l b b'
 | _, _ => false
def shJ (l : Nat) : Code -> Cd -> Bool
 | .seq (.label l') r, .lp _ _ b' => l == l' && shG l r b'
 | .seq (.label _) _, _ => false
 | .seq a b, .sq _ b' => (findLabel a l).isNone && shJ l b b'
 | _, _ => false
theorem shG_rounds {l : Nat} {b' : Cd} : ∀ {r : Code}, shG l r b' = true -> rounds (unG r) = rounds r := by
 induction b' with
 | sk =>
  intro r h
  cases r <;> first | (simp [shG] at h; done) | rfl
 | sq a' b' iha ihb =>
  intro r h
  cases r <;> first | (simp [shG] at h; done) | skip
  rename_i a b
  show rounds a ++ rounds (unG b) = rounds a ++ rounds b
  rw [ihb h]
 | _ => intro r h; cases r <;> simp [shG] at h
theorem shG_ok {n l : Nat} {b' : Cd} : ∀ {r : Code}, shG l r b' = true -> MCd P n (unG r) b' -> MCx P n (.G l) r b' := by
 induction b' with
 | sk =>
  intro r h hm
  cases r <;> first | (simp [shG] at h; done) | skip
  simp only [shG, beq_iff_eq] at h
  subst h
  exact .gh
 | sq a' b' iha ihb =>
  intro r h hm
  cases r <;> first | (simp [shG] at h; done) | skip
  rename_i a b
  have h : shG l b b' = true := h
  have hm : MCd P n (.seq a (unG b)) (.sq a' b') := hm
  cases hm with
  | sq ha hb => exact .gq ha (ihb h hb)
  | tg hl hc => cases b <;> simp [shG] at h
 | _ => intro r h hm; cases r <;> simp [shG] at h
theorem unJ_seq {a b : Code} (h : ∀ l, a ≠ .label l) : unJ (.seq a b) = .seq a (unJ b) := by
 cases a <;> first | rfl | exact absurd rfl (h _)
theorem shJ_seq {l : Nat} {a b : Code} {a' b' : Cd} (h : ∀ l, a ≠ .label l) : shJ l (.seq a b) (.sq a' b') = ((findLabel a l).isNone && shJ l b b') := by
 cases a <;> first | rfl | exact absurd rfl (h _)
theorem notLab (a : Code) : (∃ l, a = .label l) ∨ ∀ l, a ≠ .label l := by
 cases a <;> first | exact .inl ⟨_, rfl⟩ | exact .inr (fun l h => by cases h)
theorem shJ_rounds {l : Nat} {b' : Cd} : ∀ {r : Code}, shJ l r b' = true -> rounds (unJ r) = rounds r := by
 induction b' with
 | lp ks bs b' ihb =>
  intro r h
  cases r with
  | seq a b =>
   cases a with
   | label l' =>
    simp only [shJ, Bool.and_eq_true, beq_iff_eq] at h
    show rounds (unG b) = [] ++ rounds b
    rw [shG_rounds h.2]; rfl
   | _ => simp [shJ] at h
  | _ => simp [shJ] at h
 | sq a' b' iha ihb =>
  intro r h
  cases r with
  | seq a b =>
   rcases notLab a with ⟨l', rfl⟩ | ha
   ·simp [shJ] at h
   ·rw [shJ_seq ha, Bool.and_eq_true] at h
    rw [unJ_seq ha]
    show rounds a ++ rounds (unJ b) = rounds a ++ rounds b
    rw [ihb h.2]
  | _ => simp [shJ] at h
 | _ =>
  intro r h
  cases r <;> first | (simp [shJ] at h; done) | skip
  rename_i x y
  cases x <;> simp [shJ] at h
theorem shJ_ok {n l : Nat} {b' : Cd} : ∀ {r : Code}, shJ l r b' = true -> MCd P n (unJ r) b' -> ∃ q, MCx P n (.J l q) r b' := by
 induction b' with
 | lp ks bs b' ihb =>
  intro r h hm
  cases r with
  | seq a b =>
   cases a with
   | label l' =>
    simp only [shJ, Bool.and_eq_true, beq_iff_eq] at h
    obtain ⟨h1, h2⟩ := h
    subst h1
    have hm : MCd P n (.loop (unG b)) (.lp ks bs b') := hm
    cases hm with
    | lp ha => exact ⟨_, .jh (shG_ok P h2 ha)⟩
   | _ => simp [shJ] at h
  | _ => simp [shJ] at h
 | sq a' b' iha ihb =>
  intro r h hm
  cases r with
  | seq a b =>
   rcases notLab a with ⟨l', rfl⟩ | ha
   ·simp [shJ] at h
   ·rw [shJ_seq ha, Bool.and_eq_true] at h
    rw [unJ_seq ha] at hm
    cases hm with
    | sq ha hb =>
     obtain ⟨q, q1⟩ := ihb h.2 hb
     exact ⟨q, .js (Option.isNone_iff_eq_none.1 h.1) ha q1⟩
    | tg hl hc =>
     have h2 := h.2
     cases b <;> first | (simp [shJ] at h2; done) | skip
     rename_i x y
     cases x <;> simp [shJ] at h2
  | _ => simp [shJ] at h
 | _ =>
  intro r h hm
  cases r <;> first | (simp [shJ] at h; done) | skip
  rename_i x y
  cases x <;> simp [shJ] at h
theorem lab_seq {c : Code} {l : Nat} (h : lab c = some l) : ∃ a b, c = .seq a b := by
 cases c <;> first | exact ⟨_, _, rfl⟩ | cases h
theorem unJ_nos {a b c : Code} : unJ (.seq a b) ≠ .scope c := by
 rcases notLab a with ⟨l', rfl⟩ | ha
 ·intro h; cases h
 ·rw [unJ_seq ha]; intro h; cases h
def okDp : List Oper -> List (Stp × List Nat) -> Bool
 | [], [] => true
 | o :: r, x :: l => x.2.all (fun d => o.after.toList.any fun e => Region.binds .any e && e.on == d) && okDp r l
 | _, _ => false
theorem okDp_ok : ∀ {os : List Oper} {l : List (Stp × List Nat)}, okDp os l = true -> ∀ (i : Nat) p ds d, l[i]? = some (p, ds) -> d ∈ ds -> ∃ o e, os[i]? = some o ∧ e ∈ o.after.toList ∧ Region.binds .any e = true ∧ e.on = d
 | [], [], _, i, p, ds, d, hp, _ => by simp at hp
 | o :: r, x :: l, h, i, p, ds, d, hp, hd => by
  simp only [okDp, Bool.and_eq_true] at h
  cases i with
  | zero =>
   simp at hp
   subst hp
   obtain ⟨e, h1, h2⟩ := List.any_eq_true.1 (List.all_eq_true.1 h.1 d hd)
   simp only [Bool.and_eq_true, beq_iff_eq] at h2
   exact ⟨o, e, rfl, h1, h2.1, h2.2⟩
  | succ i => exact okDp_ok h.2 i p ds d (by simpa using hp) hd
 | [], _ :: _, h, _, _, _, _, _, _ => by cases h
 | _ :: _, [], h, _, _, _, _, _, _ => by cases h
def okDra (n : Nat) (ops : Array Oper) (l : List (Stp × List Nat)) : Bool := P.follows .mixedOrders && okOps P n ops ops.toList (l.map (·.1)) && okLt 0 ops.toList && okDp ops.toList l
theorem okDra_ok {n id : Nat} {ops : Array Oper} {l : List (Stp × List Nat)} (h : okDra P n ops l = true) : MCd P n (.region id ops true) (.dra l) := by
 simp only [okDra, Bool.and_eq_true] at h
 obtain ⟨⟨⟨h1, h2⟩, h3⟩, h4⟩ := h
 have h5 := okOps_ok P (k := 0) h2 fun j o hj => by simpa using hj
 rw [Array.length_toList, <- List.range_eq_range'] at h5
 refine .dra h1 h5 (fun j o e hj he hb => ?_) (fun i p ds d hp hd => ?_)
 ·have := okLt_ok h3 j o e (by simpa using hj) (by simpa using he) hb
  omega
 ·obtain ⟨o, e, q1, q2, q3, q4⟩ := okDp_ok h4 i p ds d hp hd
  exact ⟨o, e, by simpa using q1, by simpa using q2, q3, q4⟩
def okC (f n : Nat) : Nat -> Code -> Cd -> Bool
 | j, .scope c, .gs [] (.gs [] c') => match lab c with
  | some l => shJ l c c' && okC f n j (unJ c) c'
  | none => okC f n j c (.gs [] c')
 | j, .scope c, .gs [] c' => okC f n j c c'
 | j, c, .gs l c' => l.all Gc.ok && okC f n j c c'
 | j, c, .ls _ _ id c' => Nat.blt id RL && okC f n j c c'
 | _, .label _, .sk => true
 | _, .skip, .sk => true
 | _, .region _ ops false, .rg ps => okOps P n ops ops.toList ps
 | _, .region _ ops true, .dr l => okDr P n ops l
 | _, .region _ ops true, .drt l tl => okDrt P n ops l tl
 | _, .region _ ops true, .dra l => okDra P n ops l
 | j, .seq a b, .sq a' b' => okC f n j a a' && okC f n (j + (rounds a).length) b b'
 | j, c, .sq a' (.gs l .sk) => l.all Gc.ok && okC f n j c a'
 | j, .cond c a b, .ff c' a' b' => okD c c' && okC f n j a a' && okC f n (j + (rounds a).length) b b'
 | j, .block id a, .bl id' a' => id == id' && okC f n j a a'
 | j, .loop a, .lp _ _ a' => okC f n j a a'
 | j, .rangeFunc x ps asg body, .rf x' b rid _ => okD x x' && Nat.ble RL b && rid == RL + (1000 * f + j) && Nat.blt j 1000
 | _, .exit id, .ex id' => id == id'
 | _, .ret, .rt => true
 | _, _, .dead => true
 | _, _, _ => false
def InF (f n : Nat) (l : List (Array Tmp × Code × Code)) (j : Nat) : Prop := ∃ fn c, PP.funcs[f]? = some fn ∧ fn.ntmps = n ∧ fn.body = some c ∧ ∀ i x, l[i]? = some x -> (rounds c)[j + i]? = some x
theorem InF.left {f n j : Nat} {l l' : List (Array Tmp × Code × Code)} (h : InF f n (l ++ l') j) : InF f n l j := by
 obtain ⟨fn, c, h1, h2, h3, h4⟩ := h
 exact ⟨fn, c, h1, h2, h3, fun i x hi => h4 i x (by rw [List.getElem?_append_left (getq_lt hi)]; exact hi)⟩
theorem InF.right {f n j : Nat} {l l' : List (Array Tmp × Code × Code)} (h : InF f n (l ++ l') j) : InF f n l' (j + l.length) := by
 obtain ⟨fn, c, h1, h2, h3, h4⟩ := h
 exact ⟨fn, c, h1, h2, h3, fun i x hi => by rw [Nat.add_assoc]; exact h4 _ x (by rw [List.getElem?_append_right (by omega), Nat.add_sub_cancel_left]; exact hi)⟩
theorem RL_val : RL = 1000000 := rfl
theorem rid_f (f j : Nat) (h : j < 1000) : (RL + (1000 * f + j) - RL) / 1000 = f ∧ (RL + (1000 * f + j) - RL) % 1000 = j := by
 rw [Nat.add_sub_cancel_left]
 constructor <;> omega
theorem okC_ok {f n j : Nat} {c : Code} {c' : Cd} (h : okC P f n j c c' = true) (hi : InF f n (rounds c) j) : MCd P n c c' := by
 induction c' generalizing c j with
 | sk => cases c <;> first | exact .sk | exact .lb | (simp [okC] at h)
 | rg ps =>
  cases c with
  | region id ops dr => cases dr with
   | false =>
    simp only [okC] at h
    have := okOps_ok P (k := 0) h fun j o hj => by simpa using hj
    rw [Array.length_toList, <- List.range_eq_range'] at this
    exact .rg this
   | true => simp [okC] at h
  | _ => simp [okC] at h
 | dr l =>
  cases c with
  | region id ops dr => cases dr with
   | true =>
    simp only [okC] at h
    obtain ⟨q1, q2, q3⟩ := okDr_ok P h
    exact .dr q1 q2 q3
   | false => simp [okC] at h
  | _ => simp [okC] at h
 | drt l tl =>
  cases c with
  | region id ops dr => cases dr with
   | true =>
    simp only [okC] at h
    obtain ⟨q1, q2, q3, q4⟩ := okDrt_ok P h
    exact .drt q1 q2 q3 q4
   | false => simp [okC] at h
  | _ => simp [okC] at h
 | dra l =>
  cases c with
  | region id ops dr => cases dr with
   | true => exact okDra_ok P (by simpa only [okC] using h)
   | false => simp [okC] at h
  | _ => simp [okC] at h
 | gs l a iha =>
  by_cases hs : ∃ c0, c = .scope c0 ∧ l = []
  ·obtain ⟨c0, rfl, rfl⟩ := hs
   by_cases hj : ∃ a0, a = .gs [] a0
   ·obtain ⟨a0, rfl⟩ := hj
    have h' : (match lab c0 with
     | some l => shJ l c0 a0 && okC P f n j (unJ c0) a0
     | none => okC P f n j c0 (.gs [] a0)) = true := h
    split at h'
    ·rename_i l hl
     rw [Bool.and_eq_true] at h'
     obtain ⟨h1, h2⟩ := h'
     obtain ⟨x, y, rfl⟩ := lab_seq hl
     have hn : ∀ c, unJ (.seq x y) ≠ .scope c := fun c => unJ_nos
     have hr : rounds (unJ (.seq x y)) = rounds (.seq x y) := shJ_rounds h1
     generalize hu : unJ (.seq x y) = u at hn hr h2
     have h3 : okC P f n j u (.gs [] a0) = true := by
      cases u <;> first | exact (Bool.and_eq_true _ _).mpr ⟨rfl, h2⟩ | exact absurd rfl (hn _)
     have h4 := iha h3 (by rw [hr]; exact hi)
     have h5 : MCd P n u a0 := by
      cases h4 with
      | gs _ hc => exact hc
      | sc hc => exact absurd rfl (hn _)
      | sj hc => exact absurd rfl (hn _)
     rw [<- hu] at h5
     obtain ⟨q, h6⟩ := shJ_ok P h1 h5
     exact .gs rfl (.gs rfl (.sj h6))
    ·exact .sc (iha h' hi)
   ·exact .sc (iha (by cases a <;> first | exact h | (rename_i q _; cases q <;> first | exact h | exact absurd ⟨_, rfl⟩ hj)) hi)
  have h' : (l.all Gc.ok && okC P f n j c a) = true := by
   cases c with
   | scope c0 => cases l with
    | nil => exact absurd ⟨c0, rfl, rfl⟩ hs
    | cons p r => exact h
   | _ => exact h
  rw [Bool.and_eq_true] at h'
  exact .gs h'.1 (iha h'.2 hi)
 | sq a b iha ihb =>
  cases c with
  | seq x y => simp only [okC, Bool.and_eq_true] at h; exact .sq (iha h.1 hi.left) (ihb h.2 hi.right)
  | _ =>
   cases b with
   | gs l b => cases b with
    | sk =>
     simp only [okC, Bool.and_eq_true] at h
     exact .tg h.1 (iha h.2 hi)
    | _ => simp [okC] at h
   | _ => simp [okC] at h
 | ff q a b iha ihb =>
  cases c with
  | cond c x y => simp only [okC, Bool.and_eq_true] at h; exact .ff (okD_ok h.1.1) (iha h.1.2 hi.left) (ihb h.2 hi.right)
  | _ => simp [okC] at h
 | bl id a iha =>
  cases c with
  | block i x => simp only [okC, Bool.and_eq_true, beq_iff_eq] at h; rw [h.1]; exact .bl (iha h.2 hi)
  | _ => simp [okC] at h
 | lp ks bs a iha =>
  cases c with
  | loop x => exact .lp (iha h hi)
  | _ => simp [okC] at h
 | rf x b rid ks =>
  cases c with
  | rangeFunc x ps asg body =>
   simp only [okC, Bool.and_eq_true, beq_iff_eq, Nat.ble_eq, Nat.blt_eq] at h
   obtain ⟨⟨⟨h1, h2⟩, h3⟩, h4⟩ := h
   obtain ⟨fn, c0, q1, q2, q3, q4⟩ := hi
   refine .rf (okD_ok h1) h2 (by rw [h3]; omega) ?_
   obtain ⟨e1, e2⟩ := rid_f f j h4
   have := q4 0 (ps, asg, body) rfl
   rw [Nat.add_zero] at this
   simp only [roundOf, h3, e1, e2, q1, q3, Option.bind_some, this, Option.map_some, q2]
  | _ => simp [okC] at h
 | ex id =>
  cases c with
  | exit i => simp only [okC, beq_iff_eq] at h; rw [h]; exact .ex
  | _ => simp [okC] at h
 | rt =>
  cases c with
  | ret => exact .rt
  | _ => simp [okC] at h
 | dead => exact .dd
 | del z => simp [okC] at h
 | ls t off id a iha =>
  have h' : (Nat.blt id RL && okC P f n j c a) = true := by
   cases c <;> exact h
  rw [Bool.and_eq_true] at h'
  exact .ls (by simpa using h'.1) (iha h'.2 hi)
def okR : List ResultVar -> List Res -> Bool
 | [], [] => true
 | .tmp n :: r, .t m :: r' => n == m && okR r r'
 | .cell n t :: r, .c m q :: r' => n == m && okSz P t q && okR r r'
 | _, _ => false
theorem okR_ok : ∀ {l : List ResultVar} {l' : List Res}, okR P l l' = true -> MResL P l l'
 | [], [], _ => .nil
 | .tmp n :: r, .t m :: r', h => by
  simp only [okR, Bool.and_eq_true, beq_iff_eq] at h
  rw [h.1]; exact .cons (.t m) (okR_ok h.2)
 | .cell n t :: r, .c m q :: r', h => by
  simp only [okR, Bool.and_eq_true, beq_iff_eq] at h
  rw [h.1.1]; exact .cons (.c (okSz_ok P h.1.2)) (okR_ok h.2)
 | [], _ :: _, h => by cases h
 | .tmp _ :: _, [], h => by cases h
 | .cell _ _ :: _, [], h => by cases h
 | .tmp _ :: _, .c _ _ :: _, h => by cases h
 | .cell _ _ :: _, .t _ :: _, h => by cases h
def okF (f : Nat) (fn : Func) (F : Fn) : Bool := fn.ntmps == F.nt && !(fn.name == "runtime.NumGoroutine") && okR P fn.results.toList F.res && (match fn.body with | some c => okC P f F.nt 0 c F.body | none => false)
theorem okF_ok {f : Nat} {fn : Func} {F : Fn} (hf : PP.funcs[f]? = some fn) (h : okF P f fn F = true) : MFn P fn F := by
 simp only [okF, Bool.and_eq_true] at h
 obtain ⟨⟨⟨h1, h2⟩, h3⟩, h4⟩ := h
 have h1' := beq_iff_eq.1 h1
 refine ⟨h1', by simpa using h2, okR_ok P h3, ?_⟩
 cases hb : fn.body with
 | none => rw [hb] at h4; cases h4
 | some c => rw [hb] at h4; exact ⟨c, rfl, okC_ok P h4 ⟨fn, c, hf, h1', hb, fun i x hi => by rw [Nat.zero_add]; exact hi⟩⟩
def okRd1 (F : Fn) (ps : List Nat) (asg : Cd) (f0 j0 : Nat) (x : Nat × Array Tmp × Code × Code) : Bool :=
 x.1 == F.nt && x.2.1.toList == ps && ps.all (fun p => Nat.blt p F.nt) && okC P f0 F.nt (j0 + 1) x.2.2.1 asg && okC P f0 F.nt (j0 + 1 + (rounds x.2.2.1).length) x.2.2.2 F.body
noncomputable def okRd (rid : Nat) (F : Fn) (ps : List Nat) (asg : Cd) : Bool := (roundOf PP rid).elim false (okRd1 P F ps asg ((rid - RL) / 1000) ((rid - RL) % 1000))
theorem okRd_ok {rid : Nat} {F : Fn} {ps : List Nat} {asg : Cd} (h : okRd P rid F ps asg = true) : MRd P rid F ps asg := by
 unfold okRd at h
 generalize hR : roundOf PP rid = R at h
 have hr := hR
 unfold roundOf at hr
 generalize (rid - RL) / 1000 = f0 at h hr
 generalize (rid - RL) % 1000 = j0 at h hr
 cases R with
 | none => cases h
 | some x =>
  simp only [Option.elim_some, okRd1, Bool.and_eq_true, beq_iff_eq] at h
  obtain ⟨⟨⟨⟨h1, h2⟩, h3⟩, h4⟩, h5⟩ := h
  have hI : InF f0 F.nt (rounds x.2.2.1 ++ rounds x.2.2.2) (j0 + 1) := by
   obtain ⟨fn, q1, q2⟩ := Option.bind_eq_some_iff.1 hr
   obtain ⟨c, q3, q4⟩ := Option.bind_eq_some_iff.1 q2
   obtain ⟨p, q5, q6⟩ := Option.map_eq_some_iff.1 q4
   subst q6
   exact ⟨fn, c, q1, h1, q3, fun i y hi => rounds_sub c _ _ q5 i y hi⟩
  exact ⟨x.2.1, x.2.2.1, x.2.2.2, by rw [hR, <- h1], h2, fun p hp => Nat.le_of_ble_eq_true (List.all_eq_true.1 h3 p hp), okC_ok P h4 hI.left, okC_ok P h5 hI.right⟩
noncomputable def okT (P : Program) (k : Nat) (F : Fn) : Bool := match F.rnd with
 | none => Nat.blt k RL && (match P.funcs[k]? with | some fn => okF P k fn F | none => false)
 | some (ps, asg) => Nat.ble RL k && okRd P k F ps asg
def tab : List (Nat × Fn) -> Nat -> Option Fn
 | [], _ => none
 | (k, F) :: r, f => if f = k then some F else tab r f
theorem tab_ok {l : List (Nat × Fn)} (h : ∀ p ∈ l, okT PP p.1 p.2 = true ∨ (p.2.rnd = none ∧ p.1 < RL ∧ ∃ fn, PP.funcs[p.1]? = some fn ∧ PrimF PP p.1 fn p.2)) : MProg PP (tab l) := by
 intro f F hf
 induction l with
 | nil => cases hf
 | cons p r ih =>
  obtain ⟨k, F'⟩ := p
  simp only [tab] at hf
  split at hf
  ·rename_i e
   injection hf with hf
   subst hf e
   rcases h _ (List.mem_cons_self ..) with h1 | ⟨h1, h2, fn, h3, h4⟩
   rotate_left
   ·rw [h1]; exact ⟨h2, fn, h3, .inr h4⟩
   unfold okT at h1
   split at h1
   ·rename_i hrn
    rw [hrn]
    simp only [Bool.and_eq_true, Nat.blt_eq] at h1
    obtain ⟨h2, h3⟩ := h1
    split at h3
    ·rename_i fn hfn
     exact ⟨h2, fn, hfn, .inl (okF_ok PP hfn h3)⟩
    ·cases h3
   ·rename_i ps asg hrn
    rw [hrn]
    simp only [Bool.and_eq_true, Nat.ble_eq] at h1
    exact ⟨h1.1, okRd_ok PP h1.2⟩
  ·exact ih (fun p hp => h p (List.mem_cons_of_mem _ hp)) hf
end Go.Proofs.Ytlhjdikklmkihaa.Ev
