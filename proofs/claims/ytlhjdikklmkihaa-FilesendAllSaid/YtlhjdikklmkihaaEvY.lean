/- Steps that change places. Conditions: none. -/
import Derived.Test.YtlhjdikklmkihaaEvX
import Derived.Test.YtlhjdikklmkihaaEvU
set_option linter.all false
namespace Go.Proofs.Ytlhjdikklmkihaa.Ev
open Go

theorem Ba.co_ne {k : Nat} {a b : Ba} (h : a.co k b = true) (hw : a.w = true ∨ b.w = true) {x y : Nat × Nat} (hx : a.loc k = some x) (hy : b.loc k = some y) : x ≠ y := by
  intro e
  subst e
  unfold Ba.co at h
  rw [hx, hy] at h
  rcases hw with hw | hw <;> simp [hw] at h

theorem lk_ins_ne {t b : Nat} {ds : List D} {l : Bx} (h : b ≠ t) : lk b (ins t ds l) = lk b l := by
  induction l with
  | nil => simp [ins, lk, h]
  | cons p r ih =>
    obtain ⟨c, es⟩ := p
    unfold ins
    split
    · simp only [lk, if_neg h]
    · simp only [lk, ih]
theorem lk_ins_self {t : Nat} {ds : List D} {l : Bx} : (lk t (ins t ds l)).isSome := by
  induction l with
  | nil => simp [ins, lk]
  | cons p r ih =>
    obtain ⟨c, es⟩ := p
    unfold ins
    split
    · simp [lk]
    · simp only [lk]; split
      · rfl
      · exact ih
theorem sb_comm {b b' : Nat} {x y : List D} (h : b ≠ b') (l : Bx) : sb b x (sb b' y l) = sb b' y (sb b x l) := by
  induction l with
  | nil => rfl
  | cons p r ih =>
    obtain ⟨c, es⟩ := p
    by_cases h1 : b = c
    · subst h1
      have h2 : ¬ b' = b := fun e => h e.symm
      simp [sb, h2]
    · by_cases h2 : b' = c
      · subst h2; simp [sb, h1]
      · simp [sb, h1, h2, ih]
theorem sb_ins {b t : Nat} {x ds : List D} (h : b ≠ t) (l : Bx) : sb b x (ins t ds l) = ins t ds (sb b x l) := by
  induction l with
  | nil => simp [ins, sb, h]
  | cons p r ih =>
    obtain ⟨c, es⟩ := p
    unfold ins
    by_cases h1 : b = c
    · subst h1
      by_cases h2 : t ≤ b
      · simp [h2, sb, h]
      · simp [h2, sb]
    · by_cases h2 : t ≤ c
      · simp [h2, sb, h, h1]
      · simp [h2, sb, h1, ih]
theorem ins_comm {t t' : Nat} {x y : List D} (h : t ≠ t') (l : Bx) : ins t x (ins t' y l) = ins t' y (ins t x l) := by
  induction l with
  | nil =>
    simp only [ins]
    by_cases h1 : t ≤ t'
    · have : ¬ t' ≤ t := by omega
      simp [h1, this]
    · have : t' ≤ t := by omega
      simp [h1, this]
  | cons p r ih =>
    obtain ⟨c, es⟩ := p
    by_cases h1 : t ≤ c <;> by_cases h2 : t' ≤ c
    · by_cases h3 : t ≤ t'
      · have : ¬ t' ≤ t := by omega
        simp [ins, h1, h2, h3, this]
      · have : t' ≤ t := by omega
        simp [ins, h1, h2, h3, this]
    · have h3 : t ≤ t' := by omega
      have h4 : ¬ t' ≤ t := by omega
      simp [ins, h1, h2, h4]
    · have h3 : ¬ t ≤ t' := by omega
      simp [ins, h1, h2, h3]
    · simp [ins, h1, h2, ih]
section
variable {c : Caller} {s s' : S} {k : Nat}
theorem sbx_ol (f b : Nat) (ds : List D) (s : S) : (sbx f b ds s).o.length = s.o.length := by unfold sbx; split <;> simp [S.wl, S.wo]
theorem Ba.ap_ol (a : Ba) (s : S) : (a.ap s).o.length = s.o.length := by cases a <;> first | rfl | exact sbx_ol ..
theorem Ba.ap_e (a : Ba) (s : S) : (a.ap s).e = s.e := by
  cases a with
  | wr f b off cs => exact sbx_e ..
  | _ => rfl
theorem bx_sbx_ne {f b f' b' : Nat} {ds : List D} (h : (f', b') ≠ (f, b)) : bx f b (sbx f' b' ds s) = bx f b s := by
  unfold bx
  rw [sbx_ol]
  unfold sbx
  by_cases h1 : f' = s.o.length
  · rw [if_pos h1]
    by_cases h2 : f = s.o.length
    · rw [if_pos h2, if_pos h2]
      have : b ≠ b' := fun e => h (by rw [h1, h2, e])
      simp only [S.wl]
      rw [lk_sb, if_neg this]
    · rw [if_neg h2, if_neg h2]; rfl
  · rw [if_neg h1]
    by_cases h2 : f = s.o.length
    · rw [if_pos h2, if_pos h2]; rfl
    · rw [if_neg h2, if_neg h2]
      simp only [S.wo, List.getElem?_modify]
      by_cases h3 : f' = f
      · subst h3
        have : b ≠ b' := fun e => h (by rw [e])
        cases hq : s.o[f']? with
        | none => rfl
        | some L => simp [lk_sb, this]
      · simp [h3]
theorem Ba.bx_ap {a : Ba} {f b : Nat} (h : a.w = true → a.loc s.o.length ≠ some (f, b)) : bx f b (a.ap s) = bx f b s := by
  cases a with
  | no => rfl
  | rd f' b' => rfl
  | wr f' b' off cs => exact bx_sbx_ne fun e => h rfl (by rw [← e]; rfl)
  | al t ds =>
    have h' := h rfl
    show bx f b (s.wl (ins t ds s.l)) = _
    unfold bx
    by_cases e : f = s.o.length
    · rw [if_pos e, if_pos (show f = (s.wl (ins t ds s.l)).o.length from e)]
      exact lk_ins_ne fun e' => h' (by rw [e, e']; rfl)
    · rw [if_neg e, if_neg (show ¬ f = (s.wl (ins t ds s.l)).o.length from e)]; rfl
theorem Ba.lk_up {a : Ba} {t : Nat} (h : lk t (a.ap s).l = none) : lk t s.l = none := by
  cases a with
  | no => exact h
  | rd f' b' => exact h
  | wr f' b' off cs =>
    simp only [Ba.ap, sbx] at h
    split at h
    · simp only [S.wl, lk_sb] at h
      split at h
      · rename_i e; subst e; simpa using h
      · exact h
    · exact h
  | al t' ds =>
    simp only [Ba.ap, S.wl] at h
    by_cases e : t = t'
    · subst e; have := lk_ins_self (t := t) (ds := ds) (l := s.l); rw [h] at this; cases this
    · rwa [lk_ins_ne e] at h
theorem Ba.lk_ap {a : Ba} {t : Nat} (h : lk t s.l = none) (hl : a.w = true → a.loc s.o.length ≠ some (s.o.length, t)) : lk t (a.ap s).l = none := by
  cases a with
  | no => exact h
  | rd f' b' => exact h
  | wr f' b' off cs =>
    simp only [Ba.ap, sbx]
    split
    · simp only [S.wl, lk_sb]
      split
      · rename_i e; subst e; rw [h]; rfl
      · exact h
    · exact h
  | al t' ds =>
    simp only [Ba.ap, S.wl]
    rw [lk_ins_ne fun e => hl rfl (by rw [e]; rfl)]
    exact h
theorem sbx_l {f b : Nat} {x : List D} (h : f = s.o.length) : sbx f b x s = s.wl (sb b x s.l) := if_pos h
theorem sbx_o {f b : Nat} {x : List D} (h : ¬ f = s.o.length) : sbx f b x s = s.wo (s.o.modify f (sb b x)) := if_neg h
theorem sbx_comm {f b f' b' : Nat} {x y : List D} (h : (f, b) ≠ (f', b')) (s : S) : sbx f b x (sbx f' b' y s) = sbx f' b' y (sbx f b x s) := by
  have e1 := sbx_ol f' b' y s
  have e2 := sbx_ol f b x s
  by_cases h1 : f = s.o.length <;> by_cases h2 : f' = s.o.length
  · have hb : b ≠ b' := fun e => h (by rw [h1, h2, e])
    rw [sbx_l (s := sbx f' b' y s) (by rw [e1]; exact h1), sbx_l (s := sbx f b x s) (by rw [e2]; exact h2), sbx_l h1, sbx_l h2]
    simp only [S.wl, sb_comm hb]
  · rw [sbx_l (s := sbx f' b' y s) (by rw [e1]; exact h1), sbx_o (s := sbx f b x s) (by rw [e2]; exact h2), sbx_l h1, sbx_o h2]
    rfl
  · rw [sbx_o (s := sbx f' b' y s) (by rw [e1]; exact h1), sbx_l (s := sbx f b x s) (by rw [e2]; exact h2), sbx_o h1, sbx_l h2]
    rfl
  · rw [sbx_o (s := sbx f' b' y s) (by rw [e1]; exact h1), sbx_o (s := sbx f b x s) (by rw [e2]; exact h2), sbx_o h1, sbx_o h2]
    simp only [S.wo]
    congr 1
    refine List.ext_getElem? fun i => ?_
    simp only [List.getElem?_modify]
    by_cases h3 : f = i <;> by_cases h4 : f' = i
    · have hb : b ≠ b' := fun e => h (by rw [h3, h4, e])
      cases hq : s.o[i]? with
      | none => simp [h3, h4]
      | some L => simp [h3, h4, sb_comm hb]
    · simp [h3, h4]
    · simp [h3, h4]
    · simp [h3, h4]
theorem sbx_wl {f b t : Nat} {x ds : List D} (h : (f, b) ≠ (s.o.length, t)) : sbx f b x (s.wl (ins t ds s.l)) = (sbx f b x s).wl (ins t ds (sbx f b x s).l) := by
  by_cases h1 : f = s.o.length
  · have hb : b ≠ t := fun e => h (by rw [h1, e])
    rw [sbx_l h1, sbx_l (s := s.wl (ins t ds s.l)) h1]
    simp only [S.wl, sb_ins hb]
  · rw [sbx_o h1, sbx_o (s := s.wl (ins t ds s.l)) h1]
    rfl
theorem Ba.comm {a b : Ba} (h : a.co s.o.length b = true) : b.ap (a.ap s) = a.ap (b.ap s) := by
  cases a with
  | no => rfl
  | rd f1 b1 => rfl
  | wr f1 b1 o1 c1 =>
    cases b with
    | no => rfl
    | rd f2 b2 => rfl
    | wr f2 b2 o2 c2 =>
      have hne := Ba.co_ne h (.inl rfl) rfl rfl
      have e1 : bx f2 b2 ((Ba.wr f1 b1 o1 c1).ap s) = bx f2 b2 s := Ba.bx_ap fun _ e => hne (by injection e)
      have e2 : bx f1 b1 ((Ba.wr f2 b2 o2 c2).ap s) = bx f1 b1 s := Ba.bx_ap fun _ e => hne (by injection e with e; exact e.symm)
      show sbx f2 b2 (over ((bx f2 b2 ((Ba.wr f1 b1 o1 c1).ap s)).getD []) o2 c2) ((Ba.wr f1 b1 o1 c1).ap s) = sbx f1 b1 (over ((bx f1 b1 ((Ba.wr f2 b2 o2 c2).ap s)).getD []) o1 c1) ((Ba.wr f2 b2 o2 c2).ap s)
      rw [e1, e2]
      exact sbx_comm (fun e => hne e.symm) s
    | al t ds =>
      have hne := Ba.co_ne h (.inl rfl) rfl rfl
      have e2 : bx f1 b1 ((Ba.al t ds).ap s) = bx f1 b1 s := Ba.bx_ap fun _ e => hne (by injection e with e; exact e.symm)
      show _ = sbx f1 b1 (over ((bx f1 b1 ((Ba.al t ds).ap s)).getD []) o1 c1) ((Ba.al t ds).ap s)
      rw [e2]
      exact (sbx_wl hne).symm
  | al t ds =>
    cases b with
    | no => rfl
    | rd f2 b2 => rfl
    | wr f2 b2 o2 c2 =>
      have hne := Ba.co_ne h (.inl rfl) rfl rfl
      have e1 : bx f2 b2 ((Ba.al t ds).ap s) = bx f2 b2 s := Ba.bx_ap fun _ e => hne (by injection e)
      show sbx f2 b2 (over ((bx f2 b2 ((Ba.al t ds).ap s)).getD []) o2 c2) ((Ba.al t ds).ap s) = _
      rw [e1]
      exact sbx_wl fun e => hne e.symm
    | al t2 ds2 =>
      have hne := Ba.co_ne h (.inl rfl) rfl rfl
      show s.wl (ins t2 ds2 (ins t ds s.l)) = s.wl (ins t ds (ins t2 ds2 s.l))
      rw [ins_comm fun e => hne (by rw [e])]

theorem Ba.ap_lo (a : Ba) (h1 : s.l = s'.l) (h2 : s.o = s'.o) : (a.ap s).l = (a.ap s').l ∧ (a.ap s).o = (a.ap s').o := by
  have hb : ∀ f b, bx f b s = bx f b s' := fun f b => by unfold bx; rw [h1, h2]
  cases a with
  | no => exact ⟨h1, h2⟩
  | rd f b => exact ⟨h1, h2⟩
  | wr f b off cs =>
    simp only [Ba.ap, hb]
    unfold sbx
    rw [h2]
    split
    · exact ⟨by simp only [S.wl, h1], by simp only [S.wl, h2]⟩
    · exact ⟨by simp only [S.wo, h1], by simp only [S.wo, h2]⟩
  | al t ds => exact ⟨by simp only [Ba.ap, S.wl, h1], by simp only [Ba.ap, S.wl, h2]⟩
theorem Ins.ap_l (i : Ins) (t : Option Nat) (s : S) : (i.ap t s).l = (i.a.ap s).l ∧ (i.ap t s).o = (i.a.ap s).o := by
  unfold Ins.ap
  cases t <;> cases i.mv <;> exact ⟨rfl, rfl⟩
theorem Ins.ap_ol (i : Ins) (t : Option Nat) (s : S) : (i.ap t s).o.length = s.o.length := by rw [(i.ap_l t s).2, Ba.ap_ol]
theorem moved_get (m : Option Nat) (n : Nat) (s : S) : get n (moved m s).e = if m = some n then (get n s.e).strip else get n s.e := by
  cases m with
  | none => simp [moved]
  | some q =>
    simp only [moved, put, get, Option.some.injEq]
    by_cases e : n = q
    · subst e; simp
    · have : ¬ q = n := fun e' => e e'.symm
      simp [e, this]
theorem putO_get (t : Option Nat) (d : D) (n : Nat) (s : S) : get n (putO t d s).e = if t = some n then d else get n s.e := by
  cases t with
  | none => simp [putO]
  | some q =>
    simp only [putO, put, get, Option.some.injEq]
    by_cases e : n = q
    · subst e; simp
    · have : ¬ q = n := fun e' => e e'.symm
      simp [e, this]
theorem Ins.ap_get (i : Ins) (t : Option Nat) (n : Nat) (s : S) : get n (i.ap t s).e = if t = some n then i.d else if i.mv = some n then (get n s.e).strip else get n s.e := by
  unfold Ins.ap
  rw [putO_get, moved_get, Ba.ap_e]
theorem Ins.ap_get_same (i : Ins) (t : Option Nat) {n : Nat} (h : get n s.e = get n s'.e) : get n (i.ap t s).e = get n (i.ap t s').e := by rw [Ins.ap_get, Ins.ap_get, h]

def Stp.ws (p : Stp) : List Nat := p.t.toList ++ p.op.ms.toList
theorem inst_mv {t : Option Nat} {p : Op} {i : Ins} (h : inst c t p s = some i) : i.mv = none ∨ i.mv = p.ms := by
  unfold inst at h
  split at h
  · split at h
    · split at h
      · obtain ⟨d, q1, q2⟩ := Option.map_eq_some_iff.1 h; subst q2; exact .inl rfl
      · cases h
    · obtain ⟨d, q1, q2⟩ := Option.map_eq_some_iff.1 h; subst q2; exact .inl rfl
    · cases h
  · split at h
    · split at h
      · obtain ⟨d, q1, q2⟩ := Option.map_eq_some_iff.1 h; subst q2; exact .inl rfl
      · cases h
    · cases h
  · split at h
    · split at h
      · split at h
        · injection h with h; subst h; exact .inr rfl
        · cases h
      · cases h
    · cases h
  · split at h
    · split at h
      · injection h with h; subst h; exact .inl rfl
      · cases h
    · cases h
  · split at h
    · obtain ⟨d, q1, q2⟩ := Option.map_eq_some_iff.1 h; subst q2; exact .inl rfl
    · cases h
  · split at h
    · obtain ⟨d, q1, q2⟩ := Option.map_eq_some_iff.1 h; subst q2; exact .inl rfl
    · cases h
  · split at h
    · obtain ⟨d, q1, q2⟩ := Option.map_eq_some_iff.1 h; subst q2; exact .inr rfl
    · cases h
theorem inst_al {t : Option Nat} {p : Op} {i : Ins} (h : inst c t p s = some i) {t' : Nat} {ds : List D} (ha : i.a = .al t' ds) : lk t' s.l = none := by
  unfold inst at h
  split at h
  · split at h
    · split at h
      · obtain ⟨d, q1, q2⟩ := Option.map_eq_some_iff.1 h; subst q2; cases ha
      · cases h
    · obtain ⟨d, q1, q2⟩ := Option.map_eq_some_iff.1 h; subst q2; cases ha
    · cases h
  · split at h
    · split at h
      · obtain ⟨d, q1, q2⟩ := Option.map_eq_some_iff.1 h; subst q2; cases ha
      · cases h
    · cases h
  · split at h
    · split at h
      · split at h
        · injection h with h; subst h; cases ha
        · cases h
      · cases h
    · cases h
  · split at h
    · split at h
      · rename_i hl; injection h with h; subst h; injection ha with ha; rw [← ha]; exact hl
      · cases h
    · cases h
  · split at h
    · obtain ⟨d, q1, q2⟩ := Option.map_eq_some_iff.1 h; subst q2; cases ha
    · cases h
  · split at h
    · obtain ⟨d, q1, q2⟩ := Option.map_eq_some_iff.1 h; subst q2; cases ha
    · cases h
  · split at h
    · obtain ⟨d, q1, q2⟩ := Option.map_eq_some_iff.1 h; subst q2; cases ha
    · cases h
theorem instS_cases {p : Stp} {i : Ins} (h : instS c p s = some i) : inst c p.t p.op s = some i ∨ i = ⟨.v undef, none, .no⟩ := by
  unfold instS at h
  split at h
  · exact .inl h
  · split at h
    · split at h
      · exact .inl h
      · injection h with h; exact .inr h.symm
    · injection h with h; exact .inr h.symm
    · cases h
theorem instS_get {p : Stp} {i : Ins} (h : instS c p s = some i) {n : Nat} (hn : ¬ n ∈ p.ws) (s' : S) : get n (i.ap p.t s').e = get n s'.e := by
  simp only [Stp.ws, List.mem_append, Option.mem_toList, not_or] at hn
  rw [Ins.ap_get, if_neg (fun e => hn.1 (by rw [e]))]
  rcases instS_cases h with h | h
  · rcases inst_mv h with h | h
    · simp [h]
    · rw [h, if_neg fun e => hn.2 (by rw [e])]
  · rw [h]; simp
theorem instS_al {p : Stp} {i : Ins} (h : instS c p s = some i) {t' : Nat} {ds : List D} (ha : i.a = .al t' ds) : lk t' s.l = none := by
  rcases instS_cases h with h | h
  · exact inst_al h ha
  · rw [h] at ha; cases ha

/-- Neither writes what the other looks at or writes. -/
def apart (p q : Stp) : Bool := p.ws.all (fun n => !(q.rs.contains n) && !(q.ws.contains n)) && q.ws.all (fun n => !(p.rs.contains n) && !(p.ws.contains n))
theorem apart_l {p q : Stp} (h : apart p q = true) {n : Nat} (hn : n ∈ p.ws) : ¬ n ∈ q.rs ∧ ¬ n ∈ q.ws := by
  have := List.all_eq_true.1 (Bool.and_eq_true _ _ ▸ h : _ ∧ _).1 n hn
  simpa using this
theorem apart_r {p q : Stp} (h : apart p q = true) {n : Nat} (hn : n ∈ q.ws) : ¬ n ∈ p.rs ∧ ¬ n ∈ p.ws := by
  have := List.all_eq_true.1 (Bool.and_eq_true _ _ ▸ h : _ ∧ _).2 n hn
  simpa using this

theorem swap {p q : Stp} {i j : Ins} (hi : instS c p s = some i) (hj : instS c q (i.ap p.t s) = some j) (ha : apart p q = true) (hco : i.a.co s.o.length j.a = true) :
    instS c q s = some j ∧ instS c p (j.ap q.t s) = some i ∧ SEq (j.ap q.t (i.ap p.t s)) (i.ap p.t (j.ap q.t s)) := by
  have hbx : ∀ (i : Ins) (t : Option Nat) f b, bx f b (i.ap t s) = bx f b (i.a.ap s) := fun i t f b => by unfold bx; rw [(i.ap_l t s).1, (i.ap_l t s).2]
  have h1 : instS c q s = some j := by
    refine instS_loc hj (fun n hn => instS_get hi (fun hw => (apart_l ha hw).1 hn) s) (i.ap_ol p.t s) ?_
    cases hja : j.a with
    | no => trivial
    | rd f b => show bx f b (i.ap p.t s) = bx f b s; rw [hbx]; exact Ba.bx_ap fun hw e => Ba.co_ne hco (.inl hw) e (by rw [hja]; rfl) rfl
    | wr f b off cs => show bx f b (i.ap p.t s) = bx f b s; rw [hbx]; exact Ba.bx_ap fun hw e => Ba.co_ne hco (.inl hw) e (by rw [hja]; rfl) rfl
    | al t ds =>
      have := instS_al hj hja
      rw [(i.ap_l p.t s).1] at this
      exact Ba.lk_up this
  have h2 : instS c p (j.ap q.t s) = some i := by
    refine instS_loc hi (fun n hn => (instS_get h1 (fun hw => (apart_r ha hw).1 hn) s).symm) (j.ap_ol q.t s).symm ?_
    cases hia : i.a with
    | no => trivial
    | rd f b => show bx f b s = bx f b (j.ap q.t s); rw [hbx]; exact (Ba.bx_ap fun hw e => Ba.co_ne hco (.inr hw) (by rw [hia]; rfl) e rfl).symm
    | wr f b off cs => show bx f b s = bx f b (j.ap q.t s); rw [hbx]; exact (Ba.bx_ap fun hw e => Ba.co_ne hco (.inr hw) (by rw [hia]; rfl) e rfl).symm
    | al t ds =>
      show lk t (j.ap q.t s).l = none
      rw [(j.ap_l q.t s).1]
      exact Ba.lk_ap (instS_al hi hia) fun hw e => Ba.co_ne hco (.inr hw) (by rw [hia]; rfl) e rfl
  refine ⟨h1, h2, ?_, ?_, fun n => ?_⟩
  · rw [(j.ap_l q.t _).1, (i.ap_l p.t _).1, (Ba.ap_lo j.a (i.ap_l p.t s).1 (i.ap_l p.t s).2).1, (Ba.ap_lo i.a (j.ap_l q.t s).1 (j.ap_l q.t s).2).1, Ba.comm hco]
  · rw [(j.ap_l q.t _).2, (i.ap_l p.t _).2, (Ba.ap_lo j.a (i.ap_l p.t s).1 (i.ap_l p.t s).2).2, (Ba.ap_lo i.a (j.ap_l q.t s).1 (j.ap_l q.t s).2).2, Ba.comm hco]
  · by_cases hp : n ∈ p.ws
    · have hq := (apart_l ha hp).2
      rw [instS_get h1 hq]
      exact (Ins.ap_get_same i p.t (instS_get h1 hq s)).symm
    · rw [instS_get hi hp]
      exact Ins.ap_get_same j q.t (instS_get hi hp s)
theorem instS_seq {p : Stp} {i : Ins} (h : instS c p s = some i) (e : SEq s s') : instS c p s' = some i ∧ SEq (i.ap p.t s) (i.ap p.t s') := by
  obtain ⟨e1, e2, e3⟩ := e
  have hbx : ∀ f b, bx f b s = bx f b s' := fun f b => by unfold bx; rw [e1, e2]
  refine ⟨instS_loc h (fun n _ => e3 n) (by rw [e2]) ?_, ?_, ?_, fun n => Ins.ap_get_same i p.t (e3 n)⟩
  · cases hia : i.a with
    | no => trivial
    | rd f b => exact hbx f b
    | wr f b off cs => exact hbx f b
    | al t ds => show lk t s'.l = none; rw [← e1]; exact instS_al h hia
  · rw [(i.ap_l p.t s).1, (i.ap_l p.t s').1]; exact (Ba.ap_lo i.a e1 e2).1
  · rw [(i.ap_l p.t s).2, (i.ap_l p.t s').2]; exact (Ba.ap_lo i.a e1 e2).2

/-! ### Rows of steps -/
abbrev X3 := Nat × Stp × Ins
def Run (c : Caller) : List X3 → S → S → Prop
  | [], s, s' => SEq s s'
  | x :: L, s, s' => instS c x.2.1 s = some x.2.2 ∧ Run c L (x.2.2.ap x.2.1.t s) s'
theorem Run.seq {L : List X3} : ∀ {s t s' : S}, Run c L s s' → SEq s t → Run c L t s' := by
  induction L with
  | nil => intro s t s' h e; exact e.symm.trans h
  | cons x L ih =>
    intro s t s' h e
    obtain ⟨h1, h2⟩ := h
    obtain ⟨q1, q2⟩ := instS_seq h1 e
    exact ⟨q1, ih h2 q2⟩
theorem Run.front {L1 L2 : List X3} {x : X3} : ∀ {s s' : S}, Run c (L1 ++ x :: L2) s s' → (∀ y ∈ L1, apart y.2.1 x.2.1 = true ∧ y.2.2.a.co s.o.length x.2.2.a = true) → Run c (x :: (L1 ++ L2)) s s' := by
  induction L1 with
  | nil => intro s s' h _; exact h
  | cons y L1 ih =>
    intro s s' h hy
    obtain ⟨h1, h2⟩ := h
    obtain ⟨h3, h4⟩ := ih h2 fun z hz => by rw [Ins.ap_ol]; exact hy z (by simp [hz])
    obtain ⟨q1, q2⟩ := hy y (by simp)
    obtain ⟨r1, r2, r3⟩ := swap h1 h3 q1 q2
    exact ⟨r1, r2, h4.seq r3⟩
end
end Go.Proofs.Ytlhjdikklmkihaa.Ev
