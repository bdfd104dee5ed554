/- Regions that draw their order. Conditions: none. -/
import Derived.Test.YtlhjdikklmkihaaEvY
import Derived.OrdersIn
set_option linter.all false
namespace Go.Proofs.Ytlhjdikklmkihaa.Ev
open Go
variable {P : Program}

/-- What a step does to variables: nothing; it looks; it writes. -/
def Op.bk : Op → Nat
  | .ld _ _ => 1
  | .ldm _ _ => 2
  | .st _ _ _ => 2
  | .al _ => 2
  | .bx _ => 2
  | _ => 0
theorem inst_bk {c : Caller} {t : Option Nat} {p : Op} {s : S} {i : Ins} (h : inst c t p s = some i) : (p.bk = 0 → i.a = .no) ∧ (p.bk = 1 → i.a.w = false) := by
  unfold inst at h
  split at h
  · split at h
    · split at h
      · obtain ⟨d, q1, q2⟩ := Option.map_eq_some_iff.1 h; subst q2; exact ⟨fun e => (by cases e), fun _ => rfl⟩
      · cases h
    · obtain ⟨d, q1, q2⟩ := Option.map_eq_some_iff.1 h; subst q2; exact ⟨fun _ => rfl, fun _ => rfl⟩
    · cases h
  · exact ⟨fun e => (by cases e), fun e => (by cases e)⟩
  · exact ⟨fun e => (by cases e), fun e => (by cases e)⟩
  · exact ⟨fun e => (by cases e), fun e => (by cases e)⟩
  · split at h
    · obtain ⟨d, q1, q2⟩ := Option.map_eq_some_iff.1 h; subst q2; exact ⟨fun _ => rfl, fun _ => rfl⟩
    · cases h
  · split at h
    · obtain ⟨d, q1, q2⟩ := Option.map_eq_some_iff.1 h; subst q2; exact ⟨fun _ => rfl, fun _ => rfl⟩
    · cases h
  · split at h
    · obtain ⟨d, q1, q2⟩ := Option.map_eq_some_iff.1 h; subst q2; exact ⟨fun _ => rfl, fun _ => rfl⟩
    · cases h
theorem instS_bk {c : Caller} {p : Stp} {s : S} {i : Ins} (h : instS c p s = some i) : (p.op.bk = 0 → i.a = .no) ∧ (p.op.bk = 1 → i.a.w = false) := by
  rcases instS_cases h with h | h
  · exact inst_bk h
  · rw [h]; exact ⟨fun _ => rfl, fun _ => rfl⟩
def still (p q : Op) : Bool := p.bk == 0 || q.bk == 0 || (p.bk == 1 && q.bk == 1)
theorem still_co {c : Caller} {p q : Stp} {s t : S} {i j : Ins} {k : Nat} (h : still p.op q.op = true) (hi : instS c p s = some i) (hj : instS c q t = some j) : i.a.co k j.a = true := by
  obtain ⟨a1, a2⟩ := instS_bk hi
  obtain ⟨b1, b2⟩ := instS_bk hj
  simp only [still, Bool.or_eq_true, beq_iff_eq, Bool.and_eq_true] at h
  rcases h with (h | h) | h
  · rw [a1 h]; rfl
  · rw [b1 h]; unfold Ba.co; cases i.a.loc k <;> rfl
  · unfold Ba.co
    split
    · rw [a2 h.1, b2 h.2]; rfl
    · rfl

/-- What the edges of a region say. -/
structure Deps (ops : Array Oper) (l : List (Stp × List Nat)) (cl : Nat → Nat → Prop) : Prop where
  lt : ∀ j o e, ops[j]? = some o → e ∈ o.after → Region.binds .any e = true → e.on < j
  up : ∀ i j, cl j i → ∃ o e, ops[j]? = some o ∧ e ∈ o.after ∧ Region.binds .any e = true ∧ (e.on = i ∨ cl e.on i)
  ap : ∀ i j x y, i < j → l[i]? = some x → l[j]? = some y → cl j i ∨ (apart x.1 y.1 = true ∧ (i ∈ y.2 ∨ still x.1.op y.1.op = true))

def mkL : Nat → List (Stp × List Nat) → List Ins → List X3
  | k, x :: l, i :: is => (k, x.1, i) :: mkL (k + 1) l is
  | _, _, _ => []
theorem mkL_mem {l : List (Stp × List Nat)} : ∀ {k : Nat} {is : List Ins} {x : X3}, x ∈ mkL k l is → k ≤ x.1 ∧ ∃ un, l[x.1 - k]? = some (x.2.1, un) ∧ is[x.1 - k]? = some x.2.2 := by
  induction l with
  | nil => intro k is x h; simp [mkL] at h
  | cons p l ih =>
    intro k is x h
    cases is with
    | nil => simp [mkL] at h
    | cons i is =>
      simp only [mkL, List.mem_cons] at h
      rcases h with rfl | h
      · exact ⟨Nat.le_refl _, p.2, by simp, by simp⟩
      · obtain ⟨h1, un, h2, h3⟩ := ih h
        have e : x.1 - k = (x.1 - (k + 1)) + 1 := by omega
        exact ⟨by omega, un, by rw [e]; simpa using h2, by rw [e]; simpa using h3⟩
theorem mkL_get {l : List (Stp × List Nat)} : ∀ {k : Nat} {is : List Ins}, is.length = l.length → ∀ j, j < l.length → ∃ x ∈ mkL k l is, x.1 = k + j := by
  induction l with
  | nil => intro k is h j hj; simp at hj
  | cons p l ih =>
    intro k is h j hj
    cases is with
    | nil => simp at h
    | cons i is =>
      cases j with
      | zero => exact ⟨(k, p.1, i), by simp [mkL], rfl⟩
      | succ j =>
        obtain ⟨x, h1, h2⟩ := ih (k := k + 1) (is := is) (by simpa using h) j (by simpa using hj)
        exact ⟨x, by simp [mkL, h1], by omega⟩
theorem mkL_pw {l : List (Stp × List Nat)} : ∀ {k : Nat} {is : List Ins}, (mkL k l is).Pairwise (fun x y => x.1 < y.1) := by
  induction l with
  | nil => intro k is; simp [mkL]
  | cons p l ih =>
    intro k is
    cases is with
    | nil => simp [mkL]
    | cons i is =>
      simp only [mkL, List.pairwise_cons]
      exact ⟨fun x hx => by have := (mkL_mem hx).1; omega, ih⟩
theorem mkL_length {l : List (Stp × List Nat)} : ∀ {k : Nat} {is : List Ins}, (mkL k l is).length ≤ l.length := by
  induction l with
  | nil => intro k is; simp [mkL]
  | cons p l ih =>
    intro k is
    cases is with
    | nil => simp [mkL]
    | cons i is => simp only [mkL, List.length_cons]; have := ih (k := k + 1) (is := is); omega

theorem evDr_run {c : Caller} {l : List (Stp × List Nat)} : ∀ {acts : List Ba} {s s' : S}, evDr c l acts s = some s' → ∃ is : List Ins, is.length = l.length ∧ Run c (mkL acts.length l is) s s' ∧
    (∀ (j : Nat) y i, l[j]? = some y → is[j]? = some i → (∃ t, instS c y.1 t = some i) ∧ ∀ m ∈ y.2, ((acts ++ is.map (·.a)).getD m .no).co s.o.length i.a = true ∨ acts.length + j ≤ m) := by
  induction l with
  | nil => intro acts s s' h; simp only [evDr] at h; injection h with h; subst h; exact ⟨[], rfl, SEq.refl _, fun j y i hy => by simp at hy⟩
  | cons p l ih =>
    intro acts s s' h
    obtain ⟨p, un⟩ := p
    simp only [evDr] at h
    split at h
    · rename_i i hi
      split at h
      · rename_i hu
        obtain ⟨is, h1, h2, h3⟩ := ih h
        refine ⟨i :: is, by simp [h1], ⟨hi, by simpa using h2⟩, fun j y i' hy hi' => ?_⟩
        cases j with
        | zero =>
          simp at hy hi'
          subst hy hi'
          refine ⟨⟨s, hi⟩, fun m hm => ?_⟩
          have := List.all_eq_true.1 hu m hm
          rcases Nat.lt_or_ge m acts.length with hlt | hge
          · left
            simp only [List.getD, List.getElem?_append_left hlt] at this ⊢
            exact this
          · exact .inr (by omega)
        | succ j =>
          obtain ⟨q1, q2⟩ := h3 j y i' (by simpa using hy) (by simpa using hi')
          refine ⟨q1, fun m hm => ?_⟩
          rcases q2 m hm with q | q
          · left
            rw [Ins.ap_ol] at q
            simpa using q
          · right
            simp at q
            omega
      · cases h
    · cases h

section
variable {g : G} {w : World} {n : Nat} {a : Act} {s s' : S} {call : Caller}
theorem SN.seq {tmps : Array Value} (h : SN g w n tmps s) (e : SEq s s') : SN g w n tmps s' := by
  have hB : s'.B = s.B := by unfold S.B; rw [e.1, e.2.1]
  have hk : s'.k = s.k := by unfold S.k; rw [e.2.1]
  exact ⟨⟨h.st.inv, by rw [hB]; exact h.st.sb, fun t => by rw [hk, ← e.2.2 t]; exact h.st.e t⟩, h.size⟩
theorem getD_setB {l : Array Bool} {i j : Nat} {d : Bool} (hi : i < l.size) : (l.setIfInBounds i true).getD j d = if j = i then true else l.getD j d := by
  simp only [Array.getD_eq_getD_getElem?, Array.getElem?_setIfInBounds]
  by_cases h : j = i
  · subst h; simp [hi]
  · have : i ≠ j := fun e => h e.symm
    simp [h, this]

theorem any_ok {ro : Option Nat} (hg : Good P call) {ops : Array Oper} {l : List (Stp × List Nat)} {cl : Nat → Nat → Prop} (hD : Deps ops l cl) {Q : Exit → Act → World → Prop} {g0 : G} {w0 : World} {df : List Deferred} {K : Nat} (m : Nat) (hT : ∀ i j, m ≤ j → j < ops.size → i < j → cl j i)
    (hfin : ∀ (fuel : Nat) (listed : Array Bool) (a : Act) (w : World) (g : G) (s : S), SN g w n a.tmps s → Ext K g0 w0 g w → s.k = K → a.defers = df → SEq s s' → listed.size = ops.size → (∀ i, i < ops.size → (listed.getD i true = false ↔ m ≤ i)) → (∀ j i, listed.getD j false = true → cl j i → listed.getD i false = true) → ops.size - m ≤ fuel → wpAnyIn (W ro) 0 P .any ops Q fuel listed a w) :
    ∀ (fuel : Nat) (listed : Array Bool) (a : Act) (w : World) (g : G) (s : S) (L : List X3), SN g w n a.tmps s → Ext K g0 w0 g w → s.k = K → a.defers = df → Run call L s s' → L.Pairwise (fun x y => x.1 < y.1) → listed.size = ops.size →
      (∀ i, (i < ops.size ∧ listed.getD i true = false) ↔ ((∃ x ∈ L, x.1 = i) ∨ (m ≤ i ∧ i < ops.size))) → (∀ x ∈ L, x.1 < m) → (∀ x ∈ L, ∃ o, ops[x.1]? = some o ∧ MStp P n ops o x.2.1) →
      (∀ x ∈ L, ∀ y ∈ L, x.1 < y.1 → cl y.1 x.1 ∨ (apart x.2.1 y.2.1 = true ∧ x.2.2.a.co K y.2.2.a = true)) → (∀ j i, listed.getD j false = true → cl j i → listed.getD i false = true) → L.length + (ops.size - m) ≤ fuel →
      wpAnyIn (W ro) 0 P .any ops Q fuel listed a w := by
  have head : ∀ (listed : Array Bool) (L : List X3) (x : X3), listed.size = ops.size → (x :: L).Pairwise (fun x y => x.1 < y.1) →
      (∀ i, (i < ops.size ∧ listed.getD i true = false) ↔ ((∃ y ∈ x :: L, y.1 = i) ∨ (m ≤ i ∧ i < ops.size))) → x.1 < m → (∃ o, ops[x.1]? = some o) → x.1 ∈ Region.ready .any ops listed := by
    intro listed L x hsz hpw hL hxm ho
    obtain ⟨o, ho⟩ := ho
    obtain ⟨h1, h2⟩ := (hL x.1).2 (.inl ⟨x, by simp, rfl⟩)
    unfold Region.ready
    rw [List.mem_filter]
    refine ⟨List.mem_range.2 h1, ?_⟩
    rw [h2, ho]
    simp only [Bool.not_false, Bool.true_and, Option.map_some, Option.getD_some]
    rw [Array.all_eq_true']
    intro e he
    cases hb : Region.binds .any e with
    | false => rfl
    | true =>
      have hlt := hD.lt x.1 o e ho he hb
      cases hq : listed.getD e.on false with
      | true => rfl
      | false =>
        exfalso
        have hq' : listed.getD e.on true = false := by
          have : e.on < listed.size := by omega
          simp only [Array.getD, this, dif_pos] at hq ⊢
          exact hq
        rcases (hL e.on).1 ⟨by omega, hq'⟩ with ⟨y, hy, hy1⟩ | ⟨hm1, _⟩
        rotate_left
        · omega
        rcases List.mem_cons.1 hy with rfl | hy
        · omega
        · have := (List.pairwise_cons.1 hpw).1 y hy
          omega
  intro fuel
  induction fuel with
  | zero =>
    intro listed a w g s L hs hE hk hd hR hpw hsz hL hlm hM hC hcl hlen
    obtain rfl : L = [] := List.eq_nil_of_length_eq_zero (by omega)
    have hU : ∀ i, i < ops.size → (listed.getD i true = false ↔ m ≤ i) := by
      intro i hi
      constructor
      · intro q
        rcases (hL i).1 ⟨hi, q⟩ with ⟨x, hx, _⟩ | h
        · simp at hx
        · exact h.1
      · intro q
        exact ((hL i).2 (.inr ⟨q, hi⟩)).2
    exact hfin 0 listed a w g s hs hE hk hd hR hsz hU hcl (by simpa using hlen)
  | succ fuel ih =>
    intro listed a w g s L hs hE hk hd hR hpw hsz hL hlm hM hC hcl hlen
    cases hL0 : L with
    | nil =>
      subst hL0
      have hU : ∀ i, i < ops.size → (listed.getD i true = false ↔ m ≤ i) := by
        intro i hi
        constructor
        · intro q
          rcases (hL i).1 ⟨hi, q⟩ with ⟨x, hx, _⟩ | h
          · simp at hx
          · exact h.1
        · intro q
          exact ((hL i).2 (.inr ⟨q, hi⟩)).2
      exact hfin _ listed a w g s hs hE hk hd hR hsz hU hcl (by simpa using hlen)
    | cons x0 L0 =>
    refine ⟨fun hnil => ?_, fun i hi => ?_⟩
    · exfalso
      subst hL0
      obtain ⟨o, ho, _⟩ := hM x0 (by simp)
      have := head listed L0 x0 hsz hpw hL (hlm x0 (by simp)) ⟨o, ho⟩
      rw [hnil] at this
      simp at this
    · unfold Region.ready at hi
      rw [List.mem_filter] at hi
      obtain ⟨hi1, hi2⟩ := hi
      have hi1 := List.mem_range.1 hi1
      rw [Bool.and_eq_true] at hi2
      obtain ⟨hi2, hi3⟩ := hi2
      have hi2 : listed.getD i true = false := by simpa using hi2
      obtain ⟨o, ho⟩ : ∃ o, ops[i]? = some o := ⟨_, Array.getElem?_eq_getElem hi1⟩
      rw [ho] at hi3
      simp only [Option.map_some, Option.getD_some] at hi3
      rw [Array.all_eq_true'] at hi3
      have hdep : ∀ m, cl i m → listed.getD m false = true := by
        intro m hm
        obtain ⟨o', e, q1, q2, q3, q4⟩ := hD.up m i hm
        rw [ho] at q1
        injection q1 with q1
        subst q1
        have := hi3 e q2
        rw [q3] at this
        simp only [Bool.not_true, Bool.false_or] at this
        rcases q4 with q4 | q4
        · rw [← q4]; exact this
        · exact hcl _ _ this q4
      have hun : ∀ y ∈ L, listed.getD y.1 true = false ∧ y.1 < ops.size := fun y hy => by
        obtain ⟨q1, q2⟩ := (hL y.1).2 (.inl ⟨y, hy, rfl⟩)
        exact ⟨q2, q1⟩
      have hff : ∀ m, listed.getD m true = false → m < ops.size → ¬ listed.getD m false = true := fun m h1 h2 h3 => by
        have : m < listed.size := by omega
        simp only [Array.getD, this, dif_pos] at h1 h3
        rw [h1] at h3
        cases h3
      have him : i < m := by
        rcases Nat.lt_or_ge i m with h | h
        · exact h
        · exfalso
          have hx0 : x0 ∈ L := by rw [hL0]; simp
          have := hlm x0 hx0
          obtain ⟨q1, q2⟩ := hun x0 hx0
          exact hff _ q1 q2 (hdep _ (hT x0.1 i h hi1 (by omega)))
      obtain ⟨x, hx, hx1⟩ : ∃ x ∈ L, x.1 = i := by
        rcases (hL i).1 ⟨hi1, hi2⟩ with h | h
        · exact h
        · omega
      obtain ⟨o', ho', hst⟩ := hM x hx
      rw [hx1, ho] at ho'
      injection ho' with ho'
      subst ho'
      clear hL0
      obtain ⟨L1, L2, rfl⟩ := List.append_of_mem hx
      have hpw1 := List.pairwise_append.1 hpw
      have hsw : ∀ y ∈ L1, apart y.2.1 x.2.1 = true ∧ y.2.2.a.co s.o.length x.2.2.a = true := by
        intro y hy
        have hy1 : y.1 < x.1 := hpw1.2.2 y hy x (by simp)
        rcases hC y (by simp [hy]) x (by simp) hy1 with h | h
        · exfalso
          rw [hx1] at h
          obtain ⟨q1, q2⟩ := hun y (by simp [hy])
          exact hff _ q1 q2 (hdep _ h)
        · have hk' : s.o.length = K := hk
          rw [hk']; exact h
      obtain ⟨r1, r2⟩ := Run.front hR hsw
      have hev := instS_ok r1
      unfold wpOpIn
      simp only [ho]
      have hneq : ∀ y ∈ L1 ++ L2, y.1 ≠ i := fun y hy e => by
        rcases List.mem_append.1 hy with hy | hy
        · have := hpw1.2.2 y hy x (by simp); omega
        · have := (List.pairwise_cons.1 hpw1.2.1).1 y hy; omega
      have hsub : ∀ y, y ∈ L1 ++ L2 → y ∈ L1 ++ x :: L2 := fun y hy => by
        rcases List.mem_append.1 hy with hy | hy <;> simp [hy]
      refine stp_ok hg hst hs hev fun a' w' g' t1 t2 t3 t4 => ?_
      refine ih _ a' w' g' _ (L1 ++ L2) t1 (hE.trans (by rw [hk] at t2; exact t2)) (t3.trans hk) (t4.trans hd) r2 ?_ (by simp [hsz]) (fun j => ?_) (fun y hy => hlm y (hsub y hy)) (fun y hy => hM y (hsub y hy)) (fun y hy z hz => hC y (hsub y hy) z (hsub z hz)) (fun j m hj hm => ?_) (by simp at hlen ⊢; omega)
      · exact hpw.sublist (by simp)
      · rw [getD_setB (by omega)]
        constructor
        · rintro ⟨q1, q2⟩
          split at q2
          · cases q2
          · rename_i hne
            rcases (hL j).1 ⟨q1, q2⟩ with ⟨y, hy, hy1⟩ | h
            rotate_left
            · exact .inr h
            refine .inl ⟨y, ?_, hy1⟩
            rcases List.mem_append.1 hy with hy | hy
            · simp [hy]
            · rcases List.mem_cons.1 hy with rfl | hy
              · exact absurd (hy1.symm.trans hx1) hne
              · simp [hy]
        · rintro (⟨y, hy, hy1⟩ | h)
          · have := hneq y hy
            rw [if_neg (by rw [← hy1]; exact this), ← hy1]
            exact (hL y.1).2 (.inl ⟨y, hsub y hy, rfl⟩)
          · rw [if_neg (by omega)]
            exact (hL j).2 (.inr h)
      · rw [getD_setB (by omega)] at hj ⊢
        split
        · rfl
        · split at hj
          · rename_i e; subst e; exact hdep m hm
          · exact hcl j m hj hm

/-- The steps at the end, of which each waits for all ahead of it. -/
theorem tail_ok {ro : Option Nat} (hg : Good P call) {ops : Array Oper} {l : List (Stp × List Nat)} {cl : Nat → Nat → Prop} (hD : Deps ops l cl) {Q : Exit → Act → World → Prop} {g0 : G} {w0 : World} {df : List Deferred} {K : Nat} (m : Nat) (hT : ∀ i j, m ≤ j → j < ops.size → i < j → cl j i) {tl : List Stp} {s1 : S}
    (hM : ∀ (j : Nat) p, tl[j]? = some p → ∃ o, ops[m + j]? = some o ∧ MStp P n ops o p) (hsz0 : m + tl.length = ops.size) (he : evOps call tl s1 = some s') (hq : ∀ a' w' g', SN g' w' n a'.tmps s' → Ext K g0 w0 g' w' → s'.k = K → a'.defers = df → Q .normal a' w') :
    ∀ (fuel : Nat) (listed : Array Bool) (a : Act) (w : World) (g : G) (s : S), SN g w n a.tmps s → Ext K g0 w0 g w → s.k = K → a.defers = df → SEq s s1 → listed.size = ops.size → (∀ i, i < ops.size → (listed.getD i true = false ↔ m ≤ i)) → (∀ j i, listed.getD j false = true → cl j i → listed.getD i false = true) → ops.size - m ≤ fuel → wpAnyIn (W ro) 0 P .any ops Q fuel listed a w := by
  intro fuel
  induction tl generalizing m s1 fuel with
  | nil =>
    intro listed a w g s hs hE hk hd hR hsz hL hcl hlen
    injection he with he
    subst he
    have hk1 : s1.k = K := by rw [← hk]; unfold S.k; rw [hR.2.1]
    have hnil : Region.ready .any ops listed = [] := by
      unfold Region.ready
      rw [List.filter_eq_nil_iff]
      intro i hi
      have hi' := List.mem_range.1 hi
      cases hb : listed.getD i true with
      | true => simp
      | false => have := (hL i hi').1 hb; simp at hsz0; omega
    cases fuel with
    | zero => exact ⟨hnil, hq a w g (hs.seq hR) hE hk1 hd⟩
    | succ fuel => exact ⟨fun _ => hq a w g (hs.seq hR) hE hk1 hd, fun i hi => by rw [hnil] at hi; simp at hi⟩
  | cons p tl ih =>
    intro listed a w g s hs hE hk hd hR hsz hL hcl hlen
    rw [List.length_cons] at hsz0
    have hm : m < ops.size := by omega
    obtain ⟨o, ho, hst⟩ := hM 0 p rfl
    rw [Nat.add_zero] at ho
    have hlm : listed.getD m true = false := (hL m hm).2 (Nat.le_refl m)
    have hlow : ∀ i, i < m → listed.getD i false = true := fun i hi => by
      have h1 : ¬ listed.getD i true = false := fun q => by have := (hL i (by omega)).1 q; omega
      have : i < listed.size := by omega
      simp only [Array.getD, this, dif_pos] at h1 ⊢
      simpa using h1
    have hready : m ∈ Region.ready .any ops listed := by
      unfold Region.ready
      rw [List.mem_filter]
      refine ⟨List.mem_range.2 hm, ?_⟩
      rw [hlm, ho]
      simp only [Bool.not_false, Bool.true_and, Option.map_some, Option.getD_some]
      rw [Array.all_eq_true']
      intro e he'
      cases hb : Region.binds .any e with
      | false => rfl
      | true => rw [hlow _ (hD.lt m o e ho he' hb)]; rfl
    cases fuel with
    | zero => omega
    | succ fuel =>
    refine ⟨fun hnil => by rw [hnil] at hready; simp at hready, fun i hi => ?_⟩
    have him : i = m := by
      unfold Region.ready at hi
      rw [List.mem_filter] at hi
      obtain ⟨hi1, hi2⟩ := hi
      have hi1 := List.mem_range.1 hi1
      rw [Bool.and_eq_true] at hi2
      obtain ⟨hi2, hi3⟩ := hi2
      have hi2 : listed.getD i true = false := by simpa using hi2
      have hge := (hL i hi1).1 hi2
      rcases Nat.lt_or_ge m i with h | h
      · exfalso
        obtain ⟨o', e, q1, q2, q3, q4⟩ := hD.up m i (hT m i hge hi1 h)
        rw [q1] at hi3
        simp only [Option.map_some, Option.getD_some] at hi3
        rw [Array.all_eq_true'] at hi3
        have := hi3 e q2
        rw [q3] at this
        simp only [Bool.not_true, Bool.false_or] at this
        have hmt : listed.getD m false = true := by
          rcases q4 with q4 | q4
          · rw [← q4]; exact this
          · exact hcl _ _ this q4
        have : m < listed.size := by omega
        simp only [Array.getD, this, dif_pos] at hmt hlm
        rw [hlm] at hmt
        cases hmt
      · omega
    subst him
    unfold wpOpIn
    simp only [ho]
    simp only [evOps] at he
    obtain ⟨s2, he1, he2⟩ := Option.bind_eq_some_iff.1 he
    have hk1 : s1.k = K := by rw [← hk]; unfold S.k; rw [hR.2.1]
    refine stp_ok hg hst (hs.seq hR) he1 fun a' w' g' t1 t2 t3 t4 => ?_
    refine ih (i + 1) (fun x j h1 h2 h3 => hT x j (by omega) h2 h3) (fun j p hp => ?_) (by omega) he2 fuel _ a' w' g' s2 t1 (hE.trans (by rw [hk1] at t2; exact t2)) (t3.trans hk1) (t4.trans hd) (SEq.refl _) (by simp [hsz]) (fun j hj => ?_) (fun j x hj hx => ?_) (by omega)
    · have := hM (j + 1) p (by simpa using hp)
      rwa [show i + (j + 1) = i + 1 + j by omega] at this
    · rw [getD_setB (by omega)]
      split
      · rename_i e; subst e; constructor
        · intro q; cases q
        · intro q; omega
      · rename_i e
        rw [hL j hj]
        constructor <;> intro q <;> omega
    · rw [getD_setB (by omega)] at hj ⊢
      split
      · rfl
      · rename_i e
        split at hj
        · rename_i e'; subst e'
          obtain ⟨o', e1, q1, q2, q3, q4⟩ := hD.up x j hx
          rw [ho] at q1
          injection q1 with q1
          subst q1
          have hlt := hD.lt j o e1 ho q2 q3
          rcases q4 with q4 | q4
          · rw [← q4]; exact hlow _ hlt
          · exact hcl _ _ (hlow _ hlt) q4
        · exact hcl j x hj hx

/-- The world in which an order has been drawn. -/
theorem drawn_ok {tmps : Array Value} (h : SN g w n tmps s) : SN g { w with drawn := w.drawn + 1 } n tmps s ∧ Ext s.k g w g { w with drawn := w.drawn + 1 } := by
  have hK : ∀ ℓ, Keep g w ℓ g { w with drawn := w.drawn + 1 } ℓ := fun ℓ => ⟨fun _ _ _ => rfl, fun _ => Nat.le_refl _, fun _ _ _ h => h, fun _ h => ⟨h, rfl, rfl⟩⟩
  have hi := h.st.inv
  exact ⟨⟨⟨⟨hi.base, hi.fresh, hi.box, hi.inj, hi.tk, hi.cells, hi.dm, hi.dt⟩, ⟨fun f b ds hds => (h.st.sb.rel f b ds hds).keep (fun c => hK _) fun _ _ => rfl, h.st.sb.dom, h.st.sb.bnd⟩, fun t => (h.st.e t).keep fun i c => hK _⟩, h.size⟩,
    ⟨rfl, rfl, rfl, rfl, Nat.le_refl _, fun _ _ => rfl, fun _ => Nat.le_refl _, fun _ _ _ => rfl, fun _ _ _ => rfl, fun b ℓ hb _ _ => ⟨hb, rfl, rfl⟩, fun _ h => h⟩⟩

theorem mops_get {ops : Array Oper} : ∀ {is : List Nat} {ps : List Stp}, MOps P n ops is ps → is.length = ps.length ∧ ∀ (j i : Nat) p, is[j]? = some i → ps[j]? = some p → ∃ o, ops[i]? = some o ∧ MStp P n ops o p := by
  intro is ps h
  induction h with
  | nil => exact ⟨rfl, fun j i p hi => by simp at hi⟩
  | cons hi hst hr ih =>
    refine ⟨by simp [ih.1], fun j i p hj hp => ?_⟩
    cases j with
    | zero => simp at hj hp; subst hj hp; exact ⟨_, hi, hst⟩
    | succ j => exact ih.2 j i p (by simpa using hj) (by simpa using hp)

theorem drt_ok {ro : Option Nat} (hg : Good P call) {id : Nat} {ops : Array Oper} {l : List (Stp × List Nat)} {tl : List Stp} {s1 : S} {cl : Nat → Nat → Prop} (hmx : P.follows .mixedOrders = true) (hops : MOps P n ops (List.range ops.size) (l.map (·.1) ++ tl)) (hD : Deps ops l cl) (hT : ∀ i j, l.length ≤ j → j < ops.size → i < j → cl j i) {Q : Exit → Act → World → Prop}
    (h : SN g w n a.tmps s) (he : evDr call l [] s = some s1) (he1 : evOps call tl s1 = some s') (hq : ∀ a' w' g', SN g' w' n a'.tmps s' → Ext s.k g w g' w' → s'.k = s.k → a'.defers = a.defers → Q .normal a' w') : (Code.region id ops true).wpIn (W ro) 0 P Q a w := by
  obtain ⟨is, h1, h2, h3⟩ := evDr_run he
  obtain ⟨d1, d2⟩ := drawn_ok h
  obtain ⟨m1, m2⟩ := mops_get hops
  have hsz : l.length + tl.length = ops.size := by simpa using m1.symm
  have hrep : ∀ i d, (Array.replicate ops.size false).getD i d = if i < ops.size then false else d := fun i d => by
    by_cases hlt : i < ops.size
    · simp [Array.getD_eq_getD_getElem?, Array.getElem?_replicate, hlt]
    · simp [Array.getD_eq_getD_getElem?, Array.getElem?_replicate, hlt]
  refine wpIn_region_any hmx (any_ok hg hD (df := a.defers) (K := s.k) (s' := s1) l.length hT (tail_ok hg hD l.length hT (fun j p hp => ?_) (by omega) he1 hq) ops.size _ a _ g s (mkL 0 l is) d1 d2 rfl rfl h2 mkL_pw (by simp) (fun i => ?_) (fun x hx => ?_) (fun x hx => ?_) (fun x hx y hy hlt => ?_) (fun j i hj _ => ?_) (by have := mkL_length (l := l) (k := 0) (is := is); omega))
  · have := getq_lt hp
    exact m2 (l.length + j) (l.length + j) p (by rw [List.getElem?_range (by omega)]) (by rw [List.getElem?_append_right (by simp)]; simpa using hp)
  · rw [hrep]
    constructor
    · rintro ⟨q1, _⟩
      rcases Nat.lt_or_ge i l.length with hlt | hge
      · obtain ⟨x, hx, hx1⟩ := mkL_get (k := 0) h1 i hlt
        exact .inl ⟨x, hx, by omega⟩
      · exact .inr ⟨hge, q1⟩
    · rintro (⟨x, hx, rfl⟩ | ⟨q1, q2⟩)
      · obtain ⟨_, un, q1, _⟩ := mkL_mem hx
        have := getq_lt q1
        have hlt : x.1 < ops.size := by omega
        exact ⟨hlt, by rw [if_pos hlt]⟩
      · exact ⟨q2, by rw [if_pos q2]⟩
  · obtain ⟨_, un, q1, _⟩ := mkL_mem hx
    have := getq_lt q1
    omega
  · obtain ⟨_, un, q1, q2⟩ := mkL_mem hx
    simp only [Nat.sub_zero] at q1
    have := getq_lt q1
    exact m2 x.1 x.1 x.2.1 (by rw [List.getElem?_range (by omega)]) (by rw [List.getElem?_append_left (by simpa using this)]; simp [q1])
  · obtain ⟨_, un, q1, q2⟩ := mkL_mem hx
    obtain ⟨_, un', q3, q4⟩ := mkL_mem hy
    simp only [Nat.sub_zero] at q1 q2 q3 q4
    obtain ⟨u1, u2⟩ := h3 _ _ _ q1 q2
    obtain ⟨u3, u4⟩ := h3 _ _ _ q3 q4
    rcases hD.ap x.1 y.1 _ _ hlt q1 q3 with hh | ⟨hh, hh'⟩
    · exact .inl hh
    · refine .inr ⟨hh, ?_⟩
      rcases hh' with hh' | hh'
      · rcases u4 _ hh' with q | q
        · have hm : (([] : List Ba) ++ is.map (·.a)).getD x.1 .no = x.2.2.a := by simp [List.getD, q2]
          rw [hm] at q
          exact q
        · simp at q; omega
      · obtain ⟨t, ht⟩ := u1
        obtain ⟨t', ht'⟩ := u3
        exact still_co hh' ht ht'
  · rw [hrep] at hj
    split at hj <;> cases hj
theorem dr_ok {ro : Option Nat} (hg : Good P call) {id : Nat} {ops : Array Oper} {l : List (Stp × List Nat)} {cl : Nat → Nat → Prop} (hmx : P.follows .mixedOrders = true) (hops : MOps P n ops (List.range ops.size) (l.map (·.1))) (hD : Deps ops l cl) {Q : Exit → Act → World → Prop}
    (h : SN g w n a.tmps s) (he : evDr call l [] s = some s') (hq : ∀ a' w' g', SN g' w' n a'.tmps s' → Ext s.k g w g' w' → s'.k = s.k → a'.defers = a.defers → Q .normal a' w') : (Code.region id ops true).wpIn (W ro) 0 P Q a w := by
  have hsz : l.length = ops.size := by have := (mops_get hops).1; simpa using this.symm
  exact drt_ok (tl := []) hg hmx (by rw [List.append_nil]; exact hops) hD (fun i j h1 h2 h3 => by omega) h he rfl hq
end
end Go.Proofs.Ytlhjdikklmkihaa.Ev
