/- The steps of a region. Conditions: none. -/
import Derived.Test.YtlhjdikklmkihaaEvH
import Derived.Test.YtlhjdikklmkihaaEvP
import Derived.Test.YtlhjdikklmkihaaEv6
import Derived.Test.YtlhjdikklmkihaaEv1
set_option linter.all false
namespace Go.Proofs.Ytlhjdikklmkihaa.Ev
open Go
variable {P : Program}
section
variable {o : Oper} {g : G} {w : World} {n : Nat} {a : Act} {s s' : S} {d : D} {call : Caller} {t : Option Nat}
/-! ### Steps -/
theorem does_op {ro : Option Nat} (hg : Good P call) {p : Op} (hm : MOp P o.op p) (hRL : ∀ t', t = some t' → t' < RL) (h : SN g w n a.tmps s) (he : evOp call t p s = some (d, s')) : Does P ro o g w n a s d s' := by
  generalize ho : o.op = q at hm
  have nd : ∀ q', o.op = q' → (∀ c, q' ≠ .defer c) → ∀ c, o.op ≠ .defer c := fun q' e hq c => by rw [e]; exact hq c
  cases hm with
  | mv hx => exact (gives_mv (.inl ho) hx h he).does (nd _ ho fun c e => by cases e)
  | asg hx => exact (gives_mv (.inr ho) hx h he).does (nd _ ho fun c e => by cases e)
  | pk hc ha hb => exact (gives_pk ho hc ha hb h he).does (nd _ ho fun c e => by cases e)
  | al hi hz hc h1 => exact (gives_al ho hi hz hc h1 hRL h he).does (nd _ ho fun c e => by cases e)
  | bx hx => exact (gives_bx ho hx hRL h he).does (nd _ ho fun c e => by cases e)
  | ld hp hs => exact (gives_ld ho hp hs h he).does (nd _ ho fun c e => by cases e)
  | ldm hp hs => exact (gives_ldm ho hp hs h he).does (nd _ ho fun c e => by cases e)
  | st hp hx hi hn => exact does_store ho hp hx hi hn h he
  | bin hop hx hy => exact (gives_bin ho hop hx hy h he).does (nd _ ho fun c e => by cases e)
  | no hx => exact (gives_no ho hx h he).does (nd _ ho fun c e => by cases e)
  | xr hx => exact (gives_un (xr := true) ho hx h he).does (nd _ ho fun c e => by cases e)
  | ng hx => exact (gives_un (xr := false) ho hx h he).does (nd _ ho fun c e => by cases e)
  | fa hx hu hf hoff hi h0 => exact (gives_fa ho hx hu hf hoff hi h0 h he).does (nd _ ho fun c e => by cases e)
  | ia hx hy hu hi hz => exact (gives_ia ho hx hy hu hi hz h he).does (nd _ ho fun c e => by cases e)
  | ext hx => exact (gives_ext ho hx h he).does (nd _ ho fun c e => by cases e)
  | call hlt hargs => exact does_call hg hlt ho hargs h he
  | calf hlt hargs => exact does_calf hg hlt ho hargs h he
  | cv hf hargs => exact does_cv hg ho hf hargs h he
  | lenS hx hu => exact (gives_len ho hu hx h he).does (nd _ ho fun c e => by cases e)
  | ap hx hy hu hu' hi hz hs hb hzs h0 h1 => exact (gives_ap ho hx hy hu hu' hi hz hs hb hzs h0 h1 h he).does (nd _ ho fun c e => by cases e)
  | bs hl hm hu hi hz hs hzs h0 hlen => exact (gives_bs ho hl hm hu hi hz hs hzs h0 hlen h he).does (nd _ ho fun c e => by cases e)
  | mk hx hy hu hi hz hs hb hzs h0 h1 hze hze1 => exact (gives_mk ho hx hy hu hi hz hs hb hzs h0 h1 hze hze1 h he).does (nd _ ho fun c e => by cases e)
  | bd hu hi hz hzc hl hm hall => exact (gives_bd ho hu hi hz hzc hl hm hall h he).does (nd _ ho fun c e => by cases e)
  | slc hx hu hi hs hlo hhi => exact (gives_slc ho hx hu hi hs hlo hhi h he).does (nd _ ho fun c e => by cases e)
  | eqn hx hu => exact (gives_eqn (ne := false) ho hx hu h he).does (nd _ ho fun c e => by cases e)
  | nen hx hu => exact (gives_eqn (ne := true) ho hx hu h he).does (nd _ ho fun c e => by cases e)
  | eqs hx hy => exact (gives_eqs (ne := false) ho hx hy h he).does (nd _ ho fun c e => by cases e)
  | nes hx hy => exact (gives_eqs (ne := true) ho hx hy h he).does (nd _ ho fun c e => by cases e)
  | eqb hx hy hu => exact (gives_eqb (ne := false) ho hx hy hu h he).does (nd _ ho fun c e => by cases e)
  | neb hx hy hu => exact (gives_eqb (ne := true) ho hx hy hu h he).does (nd _ ho fun c e => by cases e)
  | eqa hx hy hu hp hq hf => exact (gives_eqa (ne := false) ho hx hy hu hp hq hf h he).does (nd _ ho fun c e => by cases e)
  | nea hx hy hu hp hq hf => exact (gives_eqa (ne := true) ho hx hy hu hp hq hf h he).does (nd _ ho fun c e => by cases e)
  | sh hop hx hy => exact (gives_sh ho hop hx hy h he).does (nd _ ho fun c e => by cases e)
  | ci hx hs hu => exact (gives_ci ho hx hs hu h he).does (nd _ ho fun c e => by cases e)
  | mf hlt hm => exact (gives_mf ho hlt hm h he).does (nd _ ho fun c e => by cases e)
  | nck hx => exact (gives_nck ho hx h he).does (nd _ ho fun c e => by cases e)
  | mn hx hl hm => exact (gives_mm (mx := false) ho hx hl hm h he).does (nd _ ho fun c e => by cases e)
  | mx hx hl hm => exact (gives_mm (mx := true) ho hx hl hm h he).does (nd _ ho fun c e => by cases e)
  | lenT hx hu => exact (gives_lns ho hu hx h he).does (nd _ ho fun c e => by cases e)

structure MStp (P : Program) (n : Nat) (ops : Array Oper) (o : Oper) (p : Stp) : Prop where
  op : MOp P o.op p.op
  t : p.t = o.dst
  lt : ∀ t, p.t = some t → t < n
  rl : ∀ t, p.t = some t → t < RL
  g : match o.guard, p.g with
    | none, none => True
    | some (j, want), some (q, want') => want = want' ∧ (ops[j]?).bind (·.dst) = some q
    | _, _ => False

theorem putO_k (t : Option Nat) (d : D) (s : S) : (Ev.putO t d s).k = s.k := by cases t <;> rfl

theorem stp_ok {ro : Option Nat} (hg : Good P call) {ops : Array Oper} {p : Stp} (hm : MStp P n ops o p) (h : SN g w n a.tmps s) (he : evStp call p s = some s') {rest : Act → World → Prop} {Q : Exit → Act → World → Prop}
    (hn : ∀ a' w' g', SN g' w' n a'.tmps s' → Ext s.k g w g' w' → s'.k = s.k → a'.defers = a.defers → rest a' w') :
    if Region.wanted o (yielded ops a.tmps) then o.wpIn (W ro) 0 P a w rest Q else (∀ f, o.about P w a.eval = some f → (W ro).fn f) ∧ rest (a.put o.dst undef) w := by
  have put_def : ∀ (x : Value), (a.put o.dst x).defers = a.defers := fun x => by unfold Act.put; split <;> rfl
  have run : ∀ r, evOp call p.t p.op s = some r → s' = Ev.putO p.t r.1 r.2 → o.wpIn (W ro) 0 P a w rest Q := by
    intro r hr hs
    refine does_op (d := r.1) (s' := r.2) hg hm.op hm.rl h hr _ _ fun x w' g' r1 r2 r3 r4 => ?_
    obtain ⟨g2, r5, r6⟩ := r1.putO (a := a) (t := p.t) hm.lt r2
    rw [← hm.t]
    rw [r4] at r6
    exact hn _ w' g2 (hs ▸ r5) (r3.trans r6) (by rw [hs, putO_k, r4]) (by rw [hm.t]; exact put_def x)
  have skip : s' = Ev.putO p.t (.v undef) s → (∀ f, o.about P w a.eval = some f → (W ro).fn f) ∧ rest (a.put o.dst undef) w := by
    intro hs
    obtain ⟨g2, r5, r6⟩ := h.putO (a := a) (t := p.t) hm.lt (x := undef) (d := .v undef) (j := 0) rfl
    rw [← hm.t]
    exact ⟨fun _ _ => trivial, hn _ w g2 (hs ▸ r5) r6 (by rw [hs, putO_k]) (by rw [hm.t]; exact put_def undef)⟩
  have hgd := hm.g
  unfold evStp at he
  cases hpg : p.g with
  | none =>
    rw [hpg] at he hgd
    cases hog : o.guard with
    | some q => rw [hog] at hgd; exact hgd.elim
    | none =>
      simp only at he
      obtain ⟨r, h1, h2⟩ := Option.map_eq_some_iff.1 he
      simp only [Region.wanted, hog, if_true]
      exact run r h1 h2.symm
  | some qw =>
    obtain ⟨q, want⟩ := qw
    rw [hpg] at he hgd
    cases hog : o.guard with
    | none => rw [hog] at hgd; exact hgd.elim
    | some jw =>
      obtain ⟨j, want'⟩ := jw
      rw [hog] at hgd
      obtain ⟨rfl, hdst⟩ := hgd
      simp only at he
      have hq := h.st.e q
      split at he
      · rename_i b hb
        rw [hb] at hq
        have hv : a.tmps.getD q undef = .bool b := hq
        have hy : yielded ops a.tmps j = some b := by
          unfold yielded
          rw [hdst]
          simp only [Option.bind_some]
          have : a.tmps[q]? = some (.bool b) := by
            rw [Array.getD_eq_getD_getElem?] at hv
            cases h9 : a.tmps[q]? with
            | none => rw [h9] at hv; simp [undef] at hv
            | some v => rw [h9] at hv; simp at hv; rw [hv]
          rw [this]
        simp only [Region.wanted, hog, hy]
        by_cases e : b = want'
        · subst e
          rw [if_pos rfl] at he
          obtain ⟨r, h1, h2⟩ := Option.map_eq_some_iff.1 he
          simp only [beq_self_eq_true, if_true]
          exact run r h1 h2.symm
        · rw [if_neg e] at he
          injection he with he
          have : (some b == some want') = false := by simp [e]
          simp only [this, Bool.false_eq_true, if_false]
          exact skip he.symm
      · rename_i x hnb hx
        rw [hx] at hq
        have hv : a.tmps.getD q undef = x := hq
        have hy : yielded ops a.tmps j = none := by
          unfold yielded
          rw [hdst]
          simp only [Option.bind_some]
          split
          · rename_i b hb
            rw [Array.getD_eq_getD_getElem?, hb] at hv
            simp at hv
            exact absurd hv.symm (hnb b)
          · rfl
        injection he with he
        simp only [Region.wanted, hog, hy]
        simp only [show ((none : Option Bool) == some want') = false from rfl, Bool.false_eq_true, if_false]
        exact skip he.symm
      · cases he

/-- The operations of a region, in the order of the text. -/
inductive MOps (P : Program) (n : Nat) (ops : Array Oper) : List Nat → List Stp → Prop
  | nil : MOps P n ops [] []
  | cons {i r o p ps} (hi : ops[i]? = some o) (h : MStp P n ops o p) (hr : MOps P n ops r ps) : MOps P n ops (i :: r) (p :: ps)
theorem ops_ok {ro : Option Nat} (hg : Good P call) {ops : Array Oper} {l : List Nat} {ps : List Stp} (hm : MOps P n ops l ps) {Q : Exit → Act → World → Prop} : ∀ {g : G} {w : World} {a : Act} {s : S}, SN g w n a.tmps s → evOps call ps s = some s' →
    (∀ a' w' g', SN g' w' n a'.tmps s' → Ext s.k g w g' w' → s'.k = s.k → a'.defers = a.defers → Q .normal a' w') → wpOpsIn (W ro) 0 P ops Q l a w := by
  induction hm with
  | nil => intro g w a s h he hq; simp only [evOps] at he; injection he with he; subst he; exact hq a w g h (Ext.refl _ _ _) rfl rfl
  | cons hi hst hr ih =>
    intro g w a s h he hq
    simp only [evOps] at he
    obtain ⟨s1, h1, h2⟩ := Option.bind_eq_some_iff.1 he
    simp only [wpOpsIn, hi]
    exact stp_ok hg hst h h1 fun a' w' g' r1 r2 r3 r4 => ih r1 h2 fun a2 w2 g2 q1 q2 q3 q4 => hq a2 w2 g2 q1 (r2.trans (by rw [r3] at q2; exact q2)) (q3.trans r3) (q4.trans r4)
end
end Go.Proofs.Ytlhjdikklmkihaa.Ev
