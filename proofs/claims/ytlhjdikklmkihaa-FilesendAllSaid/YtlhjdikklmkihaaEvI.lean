/- Blocks, loops, functions, and the limit. Conditions: none. -/
import Derived.Test.YtlhjdikklmkihaaEvU
import Derived.Test.YtlhjdikklmkihaaEvW
import Derived.Test.YtlhjdikklmkihaaEv2
import Derived.ControlIn
import Derived.Attr
import Derived.IntWalk
set_option linter.all false
namespace Go.Proofs.Ytlhjdikklmkihaa.Ev
open Go
variable {P : Program}

def Ex.to : Ex → Exit
  | .nm => .normal
  | .ex id => .exit id
  | .rt => .ret

inductive MCd (P : Program) (n : Nat) : Code → Cd → Prop
  | sk : MCd P n .skip .sk
  | rg {id ops ps} (h : MOps P n ops (List.range ops.size) ps) : MCd P n (.region id ops false) (.rg ps)
  | sq {a b a' b'} (ha : MCd P n a a') (hb : MCd P n b b') : MCd P n (.seq a b) (.sq a' b')
  | ff {c a b c' a' b'} (hc : MOpd c c') (ha : MCd P n a a') (hb : MCd P n b b') : MCd P n (.cond c a b) (.ff c' a' b')
  | bl {id a a'} (ha : MCd P n a a') : MCd P n (.block id a) (.bl id a')
  | lp {a a' ks bs} (ha : MCd P n a a') : MCd P n (.loop a) (.lp ks bs a')
  | rf {x x' ps asg body b rid ks} (hx : MOpd x x') (hb : RL ≤ b) (hr : RL ≤ rid) (hro : roundOf PP rid = some (n, ps, asg, body)) : MCd P n (.rangeFunc x ps asg body) (.rf x' b rid ks)
  | dr {id ops l cl} (hmx : P.follows .mixedOrders = true) (h : MOps P n ops (List.range ops.size) (l.map (·.1))) (hD : Deps ops l cl) : MCd P n (.region id ops true) (.dr l)
  | drt {id ops l tl cl} (hmx : P.follows .mixedOrders = true) (h : MOps P n ops (List.range ops.size) (l.map (·.1) ++ tl)) (hD : Deps ops l cl) (hT : ∀ i j, l.length ≤ j → j < ops.size → i < j → cl j i) : MCd P n (.region id ops true) (.drt l tl)
  | gs {c c' l} (hl : l.all Gc.ok = true) (hc : MCd P n c c') : MCd P n c (.gs l c')
  | ex {id} : MCd P n (.exit id) (.ex id)
  | rt : MCd P n .ret .rt

theorem least {p : Nat → Prop} (h : ∃ m, p m) : ∃ m, p m ∧ ∀ k, p k → m ≤ k := by
  obtain ⟨m, hm⟩ := h
  induction m using Nat.strongRecOn with
  | _ m ih =>
    by_cases hx : ∃ k, k < m ∧ p k
    · obtain ⟨k, h1, h2⟩ := hx; exact ih k h1 h2
    · exact ⟨m, hm, fun k hk => Nat.le_of_not_lt fun hlt => hx ⟨k, hlt, hk⟩⟩

theorem lim_some {α : Type} {f : Nat → Option α} {r : α} (h : lim f = some r) : ∃ n, f n = some r := by
  unfold lim at h
  split at h
  · rename_i hx
    injection h with h
    exact ⟨hx.choose, by rw [hx.choose_spec.choose_spec, h]⟩
  · cases h

section
variable {g : G} {w : World} {n : Nat} {s s' : S}

/-! ### What a round leaves -/
def G.cut (g : G) (k : Nat) (bs : List Nat) : G := { g with bx := fun f b => if f = k ∧ ¬ b ∈ bs then none else g.bx f b }
theorem RP.cut {k : Nat} {bs : List Nat} {x : Value} {d : D} (h : RP g w x d) (hi : d.in1 k bs = true) : RP (g.cut k bs) w x d := by
  cases d with
  | v y => exact h
  | ptr f s off =>
    obtain ⟨h0, b, h1, h2⟩ := h
    refine ⟨h0, b, ?_, h2⟩
    show (if _ then _ else _) = _
    rw [if_neg fun e => ?_]
    · exact h1
    · simp [D.in1] at hi
      rcases hi with hi | hi
      · omega
      · exact e.2 hi.2
  | fptr cs off => exact h
  | _ => exact h.elim
theorem RC.cut {k : Nat} {bs : List Nat} {ℓ : Loc} {x : Value} {d : D} (h : RC g w ℓ x d) (hi : d.in1 k bs = true) : RC (g.cut k bs) w ℓ x d := by
  cases d with
  | u => trivial
  | v y => exact h
  | sl m z xs => cases m <;> exact h
  | ptr f s off => exact RP.cut (show RP g w x (.ptr f s off) from h) hi
  | fptr cs off => exact h
  | clo fn caps =>
    obtain ⟨h0, vs, h1, h2, h3⟩ := h
    refine ⟨h0, vs, h1, h2, fun j d hj => ?_⟩
    obtain ⟨y, h4, h5⟩ := h3 j d hj
    refine ⟨y, h4, h5.cut ?_⟩
    have := List.all_eq_true.1 (show caps.all _ = true from hi) d (List.mem_of_getElem? hj)
    cases d with
    | ptr f s off => exact this
    | v y => rfl
    | fptr cs off => rfl
    | _ => cases this
  | yld f s =>
    obtain ⟨h0, l, h1, h2⟩ := h
    refine ⟨h0, l, ?_, h2⟩
    have hf : f < k := by simpa [D.in1] using hi
    show (if _ then _ else _) = _
    rw [if_neg fun e => by omega]
    exact h1
  | ref f s off n z =>
    obtain ⟨h0, b, cap, off', h1, h2⟩ := h
    refine ⟨h0, b, cap, off', ?_, h2⟩
    show (if _ then _ else _) = _
    rw [if_neg fun e => ?_]
    · exact h1
    · simp [D.in1] at hi
      rcases hi with hi | hi
      · omega
      · exact e.2 hi.2
  | _ => exact h.elim
theorem RV.cut {k : Nat} {bs : List Nat} {L : Nat → Loc} {x : Value} {d : D} (h : RV g w L x d) (hi : d.in2 k bs = true) : RV (g.cut k bs) w L x d := by
  rcases agg_or d with ⟨ds, rfl⟩ | hd
  · obtain ⟨cs, h1, h2, h3⟩ := h
    refine ⟨cs, h1, h2, fun c d hc => ?_⟩
    obtain ⟨y, h4, h5⟩ := h3 c d hc
    exact ⟨y, h4, h5.cut (List.all_eq_true.1 (show ds.all _ = true from hi) d (List.mem_of_getElem? hc))⟩
  · rw [RV_ne hd] at h ⊢
    exact h.cut (by cases d <;> first | exact hi | cases hd)
theorem RT.cut {k : Nat} {bs : List Nat} {L : Nat → Nat → Loc} {x : Value} {d : D} (h : RT g w L x d) (hi : d.inn k bs = true) : RT (g.cut k bs) w L x d := by
  rcases tup_or d with ⟨ds, rfl⟩ | hd
  · obtain ⟨cs, h1, h2, h3⟩ := h
    refine ⟨cs, h1, h2, fun c d hc => ?_⟩
    obtain ⟨y, h4, h5⟩ := h3 c d hc
    exact ⟨y, h4, h5.cut (List.all_eq_true.1 (show ds.all _ = true from hi) d (List.mem_of_getElem? hc))⟩
  · rw [RT_ne hd] at h ⊢
    exact h.cut (by cases d <;> first | exact hi | cases hd)

theorem carE_get {k : Nat} {bs : List Nat} {e e' : Env} {ks : List Nat} (h : carE k bs e ks = some e') (t : Nat) : get t e' = .u ∨ (get t e' = get t e ∧ (get t e).inn k bs = true) := by
  induction ks generalizing e' with
  | nil => simp only [carE] at h; injection h with h; subst h; exact .inl rfl
  | cons q r ih =>
    simp only [carE] at h
    split at h
    · rename_i hq
      obtain ⟨e1, h1, rfl⟩ := Option.map_eq_some_iff.1 h
      by_cases ht : t = q
      · subst ht; right; simp only [get, if_true]; exact ⟨trivial, hq⟩
      · simp only [get, if_neg ht]; exact ih h1
    · cases h
theorem carL_lk {k : Nat} {bs : List Nat} {l l' : Bx} {rs : List Nat} (h : carL k bs l rs = some l') (b : Nat) : (b ∈ rs → (lk b l').isSome) ∧ ∀ ds, lk b l' = some ds → b ∈ rs ∧ lk b l = some ds ∧ ds.all (D.in1 k bs) = true := by
  induction rs generalizing l' with
  | nil => simp only [carL] at h; injection h with h; subst h; exact ⟨fun h => by simp at h, fun ds hd => by simp [lk] at hd⟩
  | cons q r ih =>
    simp only [carL] at h
    split at h
    · rename_i ds0 hq
      split at h
      · rename_i hall
        obtain ⟨l1, h1, rfl⟩ := Option.map_eq_some_iff.1 h
        by_cases hb : b = q
        · subst hb
          simp only [lk, if_true]
          exact ⟨fun _ => rfl, fun ds hd => by injection hd with hd; subst hd; exact ⟨by simp, hq, hall⟩⟩
        · simp only [lk, List.mem_cons, hb, false_or, if_false]
          exact ih h1
      · cases h
    · cases h

theorem bnd_in {k f : Nat} {bs : List Nat} {d : D} (h : d.bnd1 (f + 1) = true) (hf : f < k) (hu : d.sto1 = true ∨ d = .u ∨ ∃ x, d = .v x) : d.in1 k bs = true := by
  cases d with
  | v x => rfl
  | sl m z xs => rfl
  | u => rfl
  | ptr f' s off => simp [D.bnd1] at h; simp [D.in1]; omega
  | fptr cs off => rfl
  | yld f' s => simp [D.bnd1] at h; simp [D.in1]; omega
  | ref f' s off n z => simp [D.bnd1] at h; simp [D.in1]; omega
  | clo fn caps =>
    refine List.all_eq_true.2 fun c hc => ?_
    have := List.all_eq_true.1 (show caps.all _ = true from h) c hc
    cases c with
    | ptr f' s off => simp at this ⊢; left; omega
    | v y => rfl
    | fptr cs off => rfl
    | _ => cases this
  | _ => rcases hu with hu | hu | ⟨x, hu⟩ <;> cases hu
theorem RC.kinds {ℓ : Loc} {x : Value} {d : D} (h : RC g w ℓ x d) : d.sto1 = true ∨ d = .u ∨ ∃ x, d = .v x := by
  cases d with
  | v y => exact .inr (.inr ⟨y, rfl⟩)
  | u => exact .inr (.inl rfl)
  | sl m z xs => exact .inl rfl
  | ptr f s off => exact .inl rfl
  | fptr cs off => exact .inl rfl
  | clo fn caps => exact .inl rfl
  | yld f s => exact .inl rfl
  | ref f s off n z => exact .inl rfl
  | _ => exact h.elim

theorem SB.cut {k : Nat} {bs : List Nat} {B : List Bx} (h : SB g w B) (B' : List Bx) (hlow : ∀ f b, f ≠ k → bxl B' f b = bxl B f b) (hup : ∀ f b, (g.bx f b).isSome → f ≤ k)
    (hk : ∀ b, (b ∈ bs → (bxl B' k b).isSome) ∧ ∀ ds, bxl B' k b = some ds → b ∈ bs ∧ bxl B k b = some ds ∧ ds.all (D.in1 k bs) = true) : SB (g.cut k bs) w B' := by
  have rb : ∀ f b ds, bxl B f b = some ds → (∀ d ∈ ds, d.in1 k bs = true ∨ ∃ st j rid ks, d = .rcd st j rid ks) → (f = k → b ∈ bs) → RB (g.cut k bs) w f b ds := by
    intro f b ds hds hin hb
    have hbx : ∀ blk, g.bx f b = some blk → (g.cut k bs).bx f b = some blk := fun blk h1 => by
      show (if _ then _ else _) = _
      rw [if_neg fun e => e.2 (hb e.1)]; exact h1
    have hc1 : ∀ {ℓ : Loc} {y : Value} {d : D}, d ∈ ds → RC g w ℓ y d → RC (g.cut k bs) w ℓ y d := fun {ℓ y d} hd h6 => by
      rcases hin d hd with hi | ⟨st, j, rid, ks, rfl⟩
      · exact h6.cut hi
      · exact h6.elim
    rcases h.rel f b ds hds with ⟨h0, blk, cs, et, h1, h2, h3, h4⟩ | ⟨h0, l, r, st, j, rid, ks, caps, h1, h2, h3, h4, h4', h5, h6, h7, h8⟩
    · refine .inl ⟨h0, blk, cs, et, hbx _ h1, h2, h3, fun c d hc => ?_⟩
      obtain ⟨y, h5, h6⟩ := h4 c d hc
      exact ⟨y, h5, hc1 (List.mem_of_getElem? hc) h6⟩
    · exact .inr ⟨h0, l, r, st, j, rid, ks, caps, hbx _ h1, h2, h3, h4, h4', h5, h6, h7, fun c d t hc ht => hc1 (by rw [h3]; exact List.mem_cons_of_mem _ (List.mem_of_getElem? hc)) (h8 c d t hc ht)⟩
  refine ⟨fun f b ds hds => ?_, fun f b hd => ?_, fun f b ds d hds hd => ?_⟩
  · by_cases e : f = k
    · subst e
      obtain ⟨h1, h2, h3⟩ := (hk b).2 ds hds
      exact rb _ _ _ h2 (fun d hd => .inl (List.all_eq_true.1 h3 d hd)) fun _ => h1
    · rw [hlow f b e] at hds
      refine rb _ _ _ hds (fun d hd => ?_) fun e' => absurd e' e
      have := hup f b (h.rel f b ds hds).bx
      rcases h.rel f b ds hds with ⟨h0, blk, cs, et, h1, h2, h3, h4⟩ | ⟨h0, l, r, st, j, rid, ks, caps, h1, h2, h3, h4, h4', h5, h6, h7, h8⟩
      · obtain ⟨c, hc⟩ := List.mem_iff_getElem?.1 hd
        obtain ⟨y, h5, h6⟩ := h4 c d hc
        exact .inl (bnd_in (h.bnd _ _ _ _ hds hd) (by omega) h6.kinds)
      · have hd0 := hd
        rw [h3] at hd
        rcases List.mem_cons.1 hd with rfl | hd
        · exact .inr ⟨_, _, _, _, rfl⟩
        · obtain ⟨c, hc⟩ := List.mem_iff_getElem?.1 hd
          have hlt : c < ks.length := by rw [h7]; exact getq_lt hc
          exact .inl (bnd_in (h.bnd _ _ _ _ hds hd0) (by omega) (h8 c d _ hc (List.getElem?_eq_getElem hlt)).kinds)
  · have hd' : (if f = k ∧ ¬ b ∈ bs then none else g.bx f b).isSome := hd
    by_cases e : f = k
    · subst e
      by_cases hb : b ∈ bs
      · exact (hk b).1 hb
      · simp [hb] at hd'
    · rw [if_neg fun e' => e e'.1] at hd'
      rw [hlow f b e]
      exact h.dom f b hd'
  · by_cases e : f = k
    · subst e
      obtain ⟨h1, h2, h3⟩ := (hk b).2 ds hds
      exact h.bnd _ _ _ _ h2 hd
    · rw [hlow f b e] at hds
      exact h.bnd _ _ _ _ hds hd
theorem Inv.cut {k : Nat} {bs : List Nat} (h : Inv g w) : Inv (g.cut k bs) w where
  base := h.base
  fresh := h.fresh
  box := fun f s b hb => by
    have hb' : (if f = k ∧ ¬ s ∈ bs then none else g.bx f s) = some b := hb
    split at hb'
    · cases hb'
    · exact h.box f s b hb'
  inj := fun f s f' s' b h1 h2 => by
    have h1' : (if f = k ∧ ¬ s ∈ bs then none else g.bx f s) = some b := h1
    have h2' : (if f' = k ∧ ¬ s' ∈ bs then none else g.bx f' s') = some b := h2
    split at h1' <;> split at h2' <;> first | cases h1' | cases h2' | exact h.inj _ _ _ _ _ h1' h2'
  tk := h.tk
  cells := h.cells
  dm := h.dm
  dt := h.dt
theorem G.cut_ext {k : Nat} {bs : List Nat} : Ext k g w (g.cut k bs) w :=
  ⟨rfl, rfl, rfl, rfl, Nat.le_refl _, fun _ _ => rfl, fun _ => Nat.le_refl _, fun _ _ _ => rfl, fun f s hf => by show (if _ then _ else _) = _; rw [if_neg fun e => by omega], fun b ℓ hb _ _ => ⟨hb, rfl, rfl⟩, fun _ h => h⟩

theorem carry_ok {tmps : Array Value} {ks bs : List Nat} (h : SN g w n tmps s) (hc : carry ks bs s = some s') : ∃ g', SN g' w n tmps s' ∧ Ext s.k g w g' w ∧ s'.k = s.k := by
  unfold carry at hc
  split at hc
  · rename_i e l he hl
    injection hc with hc
    subst hc
    refine ⟨g.cut s.k bs, ⟨⟨h.st.inv.cut, h.st.sb.cut _ (fun f b hf => ?_) (fun f b hb => ?_) (fun b => ?_), fun t => ?_⟩, h.size⟩, G.cut_ext, rfl⟩
    · simp only [bxl, S.B]
      have hf' : f ≠ s.o.length := hf
      rcases Nat.lt_or_ge f s.o.length with hlt | hge
      · rw [List.getElem?_append_left hlt, List.getElem?_append_left hlt]
      · rw [List.getElem?_append_right hge, List.getElem?_append_right hge]
        have : f - s.o.length = (f - s.o.length - 1) + 1 := by omega
        rw [this]; simp
    · obtain ⟨blk, hblk⟩ := Option.isSome_iff_exists.1 hb
      have := h.boxlt (a := ⟨tmps, []⟩) hblk
      omega
    · have hk := carL_lk hl b
      have e1 : bxl (⟨e, l, s.o⟩ : S).B s.k b = lk b l := by simp [bxl, S.B, S.k]
      have e2 : bxl s.B s.k b = lk b s.l := by simp [bxl, S.B, S.k]
      rw [e1, e2]
      exact hk
    · show RT _ _ (slotL s.k t) _ (get t e)
      rcases carE_get he t with h1 | ⟨h1, h2⟩
      · rw [h1]; trivial
      · rw [h1]; exact (h.st.e t).cut h2
  · cases hc
end

section
variable {g : G} {w : World} {n : Nat} {a : Act} {s s' : S} {call : Caller}

/-- The record of the round that a frame is of. -/
def Rnd (g : G) (ro : Option Nat) (k : Nat) : Prop := ∀ l, ro = some l → ∃ f b, f < k ∧ RL ≤ b ∧ g.bx f b = some l
theorem Rnd.ext {g g' : G} {w w' : World} {ro : Option Nat} {k : Nat} (h : Rnd g ro k) (e : Ext k g w g' w') : Rnd g' ro k := fun l hl => by
  obtain ⟨f, b, h1, h2, h3⟩ := h l hl
  exact ⟨f, b, h1, h2, (e.bx f b h1).trans h3⟩
theorem ex_code (x : Ex) : exOf x.code = x := by cases x <;> rfl

theorem enter_ok {ro : Option Nat} (h : SN g w n a.tmps s) (hro : Rnd g ro s.k) (fn : FuncId) (ps : Array Tmp) (asg body : Code) : ∃ g1 w1 mark dv, SN g1 w1 n a.tmps s ∧ Ext s.k g w g1 w1 ∧ Marks g g1 a.defers (mark ++ a.defers) ∧
    (Instr.enterLoop fn a.tmps ps asg body ro).run P w = .ok (w1.heap.size, mark) (w1.alloc (.loop { state := .ready, pending := none, fn, tmps := a.tmps, params := ps, assign := asg, body, defers := dv })) := by
  cases ro with
  | none =>
    obtain ⟨h1, h2, h3⟩ := newmark_ok h
    refine ⟨_, _, [mkD w.heap.size], w.heap.size, h1, h2, ⟨[w.heap.size], rfl, by simp, fun b hb => ?_⟩, ?_⟩
    · simp at hb
      subst hb
      exact ⟨h3, by show (if _ then _ else _) = _; rw [if_pos rfl]⟩
    · rw [run_enterLoop_outer, alloc_size]; rfl
  | some l =>
    obtain ⟨f, b, q1, q2, q3⟩ := hro l rfl
    have hd := h.st.sb.dom f b (by rw [q3]; rfl)
    obtain ⟨ds, hds⟩ := Option.isSome_iff_exists.1 hd
    obtain ⟨l', r', st', j', rid', ks', caps', e1, e2, _⟩ := (h.st.sb.rel f b ds hds).r q2
    rw [q3] at e1
    injection e1 with e1
    subst e1
    refine ⟨g, w, [], r'.defers, h, Ext.refl _ _ _, Marks.same rfl, ?_⟩
    unfold Instr.enterLoop
    simp only [Sem.run_bind, run_getLoop e2, run_newObj_alloc, Result.andThen, Sem.run_pure]

theorem rf_ok {ro : Option Nat} (hg : Good P call) {x : Operand} {x' : Opd} {ps : Array Tmp} {asg body : Code} {b rid : Nat} {ks : List Nat} (hx : MOpd x x') (hb : RL ≤ b) (hr : RL ≤ rid) (hrnd : roundOf PP rid = some (n, ps, asg, body)) {e : Ex}
    {Q : Exit → Act → World → Prop} (h : SN g w n a.tmps s) (hro : Rnd g ro s.k) (he : evR call x' b rid ks s = some (e, s'))
    (hq : ∀ a' w' g', SN g' w' n a'.tmps s' → Ext s.k g w g' w' → s'.k = s.k → Marks g g' a.defers a'.defers → Q e.to a' w') : (Code.rangeFunc x ps asg body).wpIn (W ro) 0 P Q a w := by
  unfold evR at he
  split at he
  · rename_i fn caps0 hfn
    split at he
    · rename_i hc
      split at he
      · rename_i r1 s2 hcall
        split at he
        · rename_i st jm rid2 ks2 caps2 hrec
          split at he
          · cases he
          · rename_i hst
            injection he with he
            injection he with e1 e2
            subst e1
            refine wpIn_rangeFunc fun fid _ => ?_
            obtain ⟨g1, w1, mark, dv, k1, k2, k3, k4⟩ := enter_ok (P := P) h hro fid ps asg body
            generalize hrc : ({ state := .ready, pending := none, fn := fid, tmps := a.tmps, params := ps, assign := asg, body, defers := dv } : Loop) = rc at k4
            obtain ⟨g2, q1, q2, q3, hkeep⟩ := newrec_ok (r := rc) k1 hb (Option.isNone_iff_eq_none.1 hc.1) hr (by rw [← hrc]; show roundOf PP rid = some (a.tmps.size, ps, asg, body); rw [h.size]; exact hrnd) (by rw [← hrc]) (by rw [← hrc]) (by rw [← hrc]) hc.2
            generalize hs1 : s.wl (ins b (D.rcd 0 0 rid ks :: ks.map fun t => (get t s.e).strip) s.l) = s1 at q1 hcall
            have hk1 : s1.k = s.k := by rw [← hs1]; rfl
            obtain ⟨L, hL⟩ := rd_at k1 hx
            rw [hfn] at hL
            obtain ⟨z0, vs, z1, z2, z3⟩ := (show RC g1 w1 (L 0 0) (a.eval x) (.clo fn caps0) from hL)
            have hyl : RC g2 (w1.alloc (.loop rc)) (flyL 0 0 0) (.func (.yield w1.heap.size) #[] #[]) (.yld s.k b) := ⟨hb, _, q2, rfl⟩
            obtain ⟨c1, c2⟩ := call_ok (a := a) (vs := #[.func (.yield w1.heap.size) #[] #[]] ++ vs) hg z0 q1 hcall (by simp [z2]; omega) (fun i d hi => by
              cases i with
              | zero => simp at hi; subst hi; exact ⟨.func (.yield w1.heap.size) #[] #[], by rw [Array.getElem?_append_left (by simp)]; rfl, hyl⟩
              | succ i =>
                obtain ⟨y, r1, r2⟩ := z3 i d (by simpa using hi)
                refine ⟨y, by rw [Array.getElem?_append_right (by simp)]; simpa using r1, RP.toRV (r2.keep q3.cell q3.fr hkeep)⟩)
            obtain ⟨fnn, v1, v2, v3⟩ := c1
            refine ⟨w1.heap.size, mark, w1.alloc (.loop rc), { target := .fn (.func fn) vs, args := #[.func (.yield w1.heap.size) #[] #[]] }, w1.alloc (.loop rc), fn, #[.func (.yield w1.heap.size) #[] #[]] ++ vs, w1.alloc (.loop rc), k4, ?_, fun _ _ => trivial, ?_, fun hs => by simp [W, Fence.wide] at hs, ?_⟩
            · simp only [resolve, z1]
              simp [go_sem]
            · have hrr : (callFunc fn (#[.func (.yield w1.heap.size) #[] #[]] ++ vs)).run P (w1.alloc (.loop rc)) = .ok (.enter fn (#[.func (.yield w1.heap.size) #[] #[]] ++ vs)) (w1.alloc (.loop rc)) := by
                unfold callFunc
                rw [Sem.run_bind, show (program).run P (w1.alloc (.loop rc)) = .ok P (w1.alloc (.loop rc)) from rfl]
                simp only [Result.andThen_ok, v1, v2, v3, Bool.false_eq_true, if_false]
                rfl
              rw [← hrr]
              simp [invoke]
            · have c3 : CallsIn (W ro) 0 P fn (#[.func (.yield w1.heap.size) #[] #[]] ++ vs) (w1.alloc (.loop rc)) _ := c2
              refine c3.mono ?_
              rintro e' w3 ⟨y, g3, rfl, r1, r2, r3, r4⟩
              have hk2 : s2.k = s.k := r4.trans hk1
              have hrec' : Ev.bx s.k b s2 = some (.rcd st jm rid2 ks2 :: caps2) := by
                unfold Ev.bx
                rw [if_pos (show s.k = s2.o.length from hk2.symm)]
                exact hrec
              have hbx3 : g3.bx s.k b = some w1.heap.size := by rw [r3.bx s.k b (by rw [hk1]; omega)]; exact q2
              obtain ⟨l0, r0, st0, j0, rid0, ks0, caps0', y1, y2, y3, y4, y5, y6, y7, y8, y9⟩ := (r1.st.sb.rel s.k b _ (bx_bxl hrec')).r hb
              rw [hbx3] at y1
              injection y1 with y1
              subst y1
              injection y3 with y3 y3'
              injection y3 with x1 x2 x3 x4
              subst x1 x2 x3 x4 y3'
              have hnb : r0.state ≠ .busy := by
                rw [y6]
                match st, hst with
                | 0, _ => exact fun e => by cases e
                | 1, hs => exact absurd rfl hs
                | 2, _ => exact fun e => by cases e
                | q + 3, _ => exact fun e => by cases e
              obtain ⟨m1, m2⟩ := wrec_ok (st' := 3) (j' := jm) r1 hb hrec' hbx3 y2 { r0 with state := .exhausted } ⟨rfl, rfl, rfl, rfl⟩ rfl y7
              have hs' : sbx s.k b (.rcd 3 jm rid2 ks2 :: caps2) s2 = s' := by
                rw [← e2]
                unfold sbx
                rw [if_pos (show s.k = s2.o.length from hk2.symm)]
              rw [hs'] at m1
              have hE : Ext s.k g w g3 (w3.putObj w1.heap.size (.loop { r0 with state := .exhausted })) := ((k2.trans q3).trans (r3.less (by rw [hk1]; omega))).trans (m2 _)
              have hE2 : Ext s.k g1 w1 g3 (w3.putObj w1.heap.size (.loop { r0 with state := .exhausted })) := (q3.trans (r3.less (by rw [hk1]; omega))).trans (m2 _)
              have hM : Marks g g3 a.defers (mark ++ a.defers) := k3.trans (Marks.same rfl) k2 hE2
              have hk' : s'.k = s.k := by rw [← hs', sbx_k]; exact hk2
              have hel := run_endLoop (P := P) y2 hnb
              generalize w3.putObj w1.heap.size (.loop { r0 with state := .exhausted }) = W4 at m1 hE hE2 hel
              refine ⟨r0.pending, W4, hel, ?_⟩
              rw [y7]
              match jm with
              | 0 => exact hq { a with defers := mark ++ a.defers } _ g3 m1 hE hk' hM
              | 1 => exact wpIn_ret (hq { a with defers := mark ++ a.defers } _ g3 m1 hE hk' hM)
              | q + 2 => exact wpIn_exit (hq { a with defers := mark ++ a.defers } _ g3 m1 hE hk' hM)
        · cases he
      · cases he
    · cases he
  · cases he

theorem code_ok {ro : Option Nat} (hg : Good P call) {c : Code} {c' : Cd} (hm : MCd P n c c') : ∀ {g : G} {w : World} {a : Act} {s s' : S} {x : Ex} {Q : Exit → Act → World → Prop}, SN g w n a.tmps s → Rnd g ro s.k → evC call c' s = some (x, s') →
    (∀ a' w' g', SN g' w' n a'.tmps s' → Ext s.k g w g' w' → s'.k = s.k → Marks g g' a.defers a'.defers → Q x.to a' w') → c.wpIn (W ro) 0 P Q a w := by
  induction hm with
  | sk => intro g w a s s' x Q h hrn he hq; simp only [evC] at he; injection he with he; injection he with e1 e2; subst e1 e2; exact wpIn_skip (hq a w g h (Ext.refl _ _ _) rfl (Marks.same rfl))
  | ex => intro g w a s s' x Q h hrn he hq; simp only [evC] at he; injection he with he; injection he with e1 e2; subst e1 e2; exact wpIn_exit (hq a w g h (Ext.refl _ _ _) rfl (Marks.same rfl))
  | rt => intro g w a s s' x Q h hrn he hq; simp only [evC] at he; injection he with he; injection he with e1 e2; subst e1 e2; exact wpIn_ret (hq a w g h (Ext.refl _ _ _) rfl (Marks.same rfl))
  | rg hops =>
    intro g w a s s' x Q h hrn he hq
    simp only [evC] at he
    obtain ⟨s1, h1, h2⟩ := Option.map_eq_some_iff.1 he
    injection h2 with e1 e2
    subst e1 e2
    exact wpIn_region (ops_ok hg hops h h1 fun a' w' g' q1 q2 q3 q4 => hq a' w' g' q1 q2 q3 (Marks.same q4))
  | rf hx hb hr hro => intro g w a s s' x Q h hrn he hq; simp only [evC] at he; exact rf_ok hg hx hb hr hro h hrn he hq
  | dr hmx hops hD =>
    intro g w a s s' x Q h hrn he hq
    simp only [evC] at he
    obtain ⟨s1, h1, h2⟩ := Option.map_eq_some_iff.1 he
    injection h2 with e1 e2
    subst e1 e2
    exact dr_ok hg hmx hops hD h h1 fun a' w' g' q1 q2 q3 q4 => hq a' w' g' q1 q2 q3 (Marks.same q4)
  | drt hmx hops hD hT =>
    intro g w a s s' x Q h hrn he hq
    simp only [evC] at he
    obtain ⟨s1, h1, h2⟩ := Option.map_eq_some_iff.1 he
    injection h2 with e1 e2
    subst e1 e2
    obtain ⟨s2, h3, h4⟩ := Option.bind_eq_some_iff.1 h1
    exact drt_ok hg hmx hops hD hT h h3 h4 fun a' w' g' q1 q2 q3 q4 => hq a' w' g' q1 q2 q3 (Marks.same q4)
  | gs hl hc ih =>
    intro g w a s s' x Q h hrn he hq
    simp only [evC] at he
    split at he
    · rename_i s1 h1
      obtain ⟨g1, k1, k2, k3⟩ := gs_ok h hl h1
      exact ih k1 (by rw [k3]; exact hrn.ext k2) he fun a2 w2 g2 r1 r2 r3 r4 => hq a2 w2 g2 r1 (k2.trans (by rw [k3] at r2; exact r2)) (r3.trans k3) ((Marks.same rfl).trans r4 k2 (by rw [k3] at r2; exact r2))
    · cases he
  | sq ha hb iha ihb =>
    intro g w a s s' x Q h hrn he hq
    simp only [evC] at he
    split at he
    · rename_i s1 h1
      refine wpIn_seq (iha h hrn h1 fun a1 w1 g1 q1 q2 q3 q4 => ?_)
      exact ihb q1 (by rw [q3]; exact hrn.ext q2) he fun a2 w2 g2 r1 r2 r3 r4 => hq a2 w2 g2 r1 (q2.trans (by rw [q3] at r2; exact r2)) (r3.trans q3) (q4.trans r4 q2 r2)
    · rename_i hne
      refine wpIn_seq (iha h hrn he fun a1 w1 g1 q1 q2 q3 q4 => ?_)
      have := hq a1 w1 g1 q1 q2 q3 q4
      cases x with
      | nm => exact absurd he (hne s')
      | ex id => exact this
      | rt => exact this
  | ff hc ha hb iha ihb =>
    intro g w a s s' x Q h hrn he hq
    simp only [evC] at he
    split at he
    · rename_i q hv
      have hv' := rd_v h hc hv
      cases q with
      | true => exact wpIn_cond_true hv' (iha h hrn he hq)
      | false => exact wpIn_cond_false hv' (ihb h hrn he hq)
    · cases he
  | @bl id c c' ha iha =>
    intro g w a s s' x Q h hrn he hq
    simp only [evC] at he
    split at he
    · rename_i i s1 h1
      by_cases e : i = id
      · rw [if_pos e] at he
        injection he with he
        injection he with e1 e2
        subst e1 e2 e
        exact wpIn_block (iha h hrn h1 fun a1 w1 g1 q1 q2 q3 q4 => by simp only [Ex.to, Exit.inBlock, if_true]; exact hq a1 w1 g1 q1 q2 q3 q4)
      · rw [if_neg e] at he
        injection he with he
        injection he with e1 e2
        subst e1 e2
        exact wpIn_block (iha h hrn h1 fun a1 w1 g1 q1 q2 q3 q4 => by simp only [Ex.to, Exit.inBlock, if_neg e]; exact hq a1 w1 g1 q1 q2 q3 q4)
    · rename_i hne
      refine wpIn_block (iha h hrn he fun a1 w1 g1 q1 q2 q3 q4 => ?_)
      have := hq a1 w1 g1 q1 q2 q3 q4
      cases x with
      | nm => exact this
      | ex i => exact absurd he (hne i s')
      | rt => exact this
  | @lp c c' ks bs ha iha =>
    intro g w a s s' x Q h hrn he hq
    simp only [evC] at he
    obtain ⟨m, hm⟩ := lim_some he
    -- what holds at the head of a round: so many rounds are left
    let I0 : Nat → Act → World → Prop := fun m a1 w1 => ∃ s1 g1, iter (evC call c') (carry ks bs) m s1 = some (x, s') ∧ SN g1 w1 n a1.tmps s1 ∧ Ext s.k g w g1 w1 ∧ s1.k = s.k ∧ Marks g g1 a.defers a1.defers
    open Classical in
    refine wpIn_loop (fun a1 w1 => ∃ m, I0 m a1 w1) (fun a1 w1 => if hx : ∃ m, I0 m a1 w1 then (least hx).choose else 0) ⟨m, s, g, hm, h, Ext.refl _ _ _, rfl, Marks.same rfl⟩ ?_
    intro a1 w1 hI
    have hfind := (least hI).choose_spec.1
    have hmu : (if hx : ∃ m, I0 m a1 w1 then (least hx).choose else 0) = (least hI).choose := dif_pos hI
    rw [hmu]
    generalize (least hI).choose = m0 at hfind
    obtain ⟨s1, g1, h1, h2, h3, h4, h5⟩ := hfind
    cases m0 with
    | zero => simp [iter] at h1
    | succ m0 =>
      simp only [iter] at h1
      split at h1
      · cases h1
      · rename_i s2 hcar
        obtain ⟨g2, k1, k2, k3⟩ := carry_ok h2 hcar
        split at h1
        · cases h1
        · rename_i s3 hbody
          have hrn2 : Rnd g2 ro s2.k := by rw [k3, h4]; exact hrn.ext (h3.trans (by rw [h4] at k2; exact k2))
          refine iha k1 hrn2 hbody fun a2 w2 g3 q1 q2 q3 q4 => ?_
          have hM : Marks g g3 a.defers a2.defers := h5.trans ((Marks.same rfl).trans q4 k2 q2) h3 (k2.trans (by rw [k3] at q2; exact q2))
          have hnext : I0 m0 a2 w2 := ⟨s3, g3, h1, q1, (h3.trans (by rw [h4] at k2; exact k2)).trans (by rw [k3, h4] at q2; exact q2), q3.trans (k3.trans h4), hM⟩
          refine ⟨⟨m0, hnext⟩, ?_⟩
          rw [dif_pos ⟨m0, hnext⟩]
          exact Nat.lt_succ_of_le ((least (p := fun m => I0 m a2 w2) ⟨m0, hnext⟩).choose_spec.2 _ hnext)
        · rename_i y s3 hne hbody
          injection h1 with h1
          injection h1 with e1 e2
          subst e1 e2
          have hrn2 : Rnd g2 ro s2.k := by rw [k3, h4]; exact hrn.ext (h3.trans (by rw [h4] at k2; exact k2))
          refine iha k1 hrn2 hbody fun a2 w2 g3 q1 q2 q3 q4 => ?_
          have hM : Marks g g3 a.defers a2.defers := h5.trans ((Marks.same rfl).trans q4 k2 q2) h3 (k2.trans (by rw [k3] at q2; exact q2))
          have := hq a2 w2 g3 q1 ((h3.trans (by rw [h4] at k2; exact k2)).trans (by rw [k3, h4] at q2; exact q2)) (q3.trans (k3.trans h4)) hM
          cases y with
          | nm => exact absurd rfl hne
          | ex id => exact this
          | rt => exact this
end
end Go.Proofs.Ytlhjdikklmkihaa.Ev
