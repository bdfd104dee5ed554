/- Records of loops over functions, and marks. Conditions: none. -/
import Derived.Test.YtlhjdikklmkihaaEvQ
set_option linter.all false
namespace Go.Proofs.Ytlhjdikklmkihaa.Ev
open Go
variable {P : Program}

def mkD (r : Nat) : Deferred := { target := .collected r, args := #[] }
/-- Which blocks for deferred calls have been laid. -/
def Marks (g g' : G) (ds ds' : List Deferred) : Prop := ∃ m : List Nat, ds' = m.map mkD ++ ds ∧ m.Nodup ∧ ∀ b ∈ m, g.dm b = false ∧ g'.dm b = true
theorem Marks.same {g g' : G} {ds ds' : List Deferred} (h : ds' = ds) : Marks g g' ds ds' := ⟨[], by simp [h], List.nodup_nil, fun b hb => by simp at hb⟩
theorem Marks.trans {k k' : Nat} {g g1 g2 : G} {w w1 w2 : World} {d d1 d2 : List Deferred} (h : Marks g g1 d d1) (h' : Marks g1 g2 d1 d2) (e : Ext k g w g1 w1) (e' : Ext k' g1 w1 g2 w2) : Marks g g2 d d2 := by
  obtain ⟨m, rfl, h2, h3⟩ := h
  obtain ⟨m', rfl, h5, h6⟩ := h'
  refine ⟨m' ++ m, by simp, List.nodup_append.2 ⟨h5, h2, fun a ha b hb hab => ?_⟩, fun b hb => ?_⟩
  · subst hab
    have := (h6 a ha).1
    rw [(h3 a hb).2] at this
    cases this
  · rcases List.mem_append.1 hb with hb | hb
    · obtain ⟨q1, q2⟩ := h6 b hb
      refine ⟨?_, q2⟩
      cases hq : g.dm b with
      | false => rfl
      | true => rw [e.dm b hq] at q1; cases q1
    · exact ⟨(h3 b hb).1, e'.dm b (h3 b hb).2⟩

section
variable {g : G} {w : World} {n : Nat} {tmps : Array Value} {s : S}

theorem wr_putObj {g : G} {w : World} {b : Nat} (ob : Obj) (hb : g.base ≤ b) (hf : g.fr b = 0) (ht : g.tk b = none) (hd : g.dm b = false) : Wr g w b (w.putObj b ob) :=
  ⟨rfl, rfl, rfl, World.putObj_size, fun b' hb' => World.putObj_heap_other hb', hb, hf, ht, hd⟩

/-- A record's state is written. -/
theorem wrec_ok (h : SN g w n tmps s) {f b l st j rid st' j' : Nat} {ks : List Nat} {caps : List D} {r : Loop} (hRL : RL ≤ b) (hbx : Ev.bx f b s = some (.rcd st j rid ks :: caps)) (hl : g.bx f b = some l) (hr : w.heap[l]? = some (.loop r)) (r' : Loop)
    (h1 : r'.params = r.params ∧ r'.assign = r.assign ∧ r'.body = r.body ∧ r'.tmps = r.tmps) (h2 : r'.state = stOf st') (h3 : r'.pending = jumpOf j') :
    SN g (w.putObj l (.loop r')) n tmps (sbx f b (.rcd st' j' rid ks :: caps) s) ∧ ∀ k, Ext k g w g (w.putObj l (.loop r')) := by
  obtain ⟨i1, i2, i3, i4⟩ := h.st.inv.box f b l hl
  have hW := wr_putObj (w := w) (.loop r') i1 i3 i4 (h.st.inv.mkl hr)
  refine ⟨⟨⟨hW.inv h.st.inv, ⟨fun f' b' ds' hds' => ?_, fun f' b' hd => ?_, fun f' b' ds' d' hds' hd' => ?_⟩, fun t' => ?_⟩, h.size⟩, fun k => hW.ext k⟩
  · rw [B_sbx hbx] at hds'
    split at hds'
    · rename_i e'
      obtain ⟨rfl, rfl⟩ := e'
      injection hds' with hds'
      subst hds'
      obtain ⟨l0, r0, st0, j0, rid0, ks0, caps0, e1, e2, e3, e4, e5, e6, e7, e8, e9⟩ := (h.st.sb.rel f' b' _ (bx_bxl hbx)).r hRL
      rw [hl] at e1
      injection e1 with e1
      subst e1
      rw [hr] at e2
      injection e2 with e2
      injection e2 with e2
      subst e2
      injection e3 with e3 e3'
      injection e3 with x1 x2 x3 x4
      subst x1 x2 x3 x4 e3'
      refine .inr ⟨hRL, l, r', st', j', rid, ks, caps, hl, World.putObj_heap_same i2, rfl, e4, by rw [h1.1, h1.2.1, h1.2.2.1, h1.2.2.2]; exact e5, h2, h3, e8, fun c d t hc ht => ?_⟩
      rw [h1.2.2.2]
      exact (e9 c d t hc ht).keep (hW.keep _)
    · rename_i hne
      refine (h.st.sb.rel f' b' ds' hds').keep (fun c => hW.keep _) fun b1 hb1 => hW.same b1 fun e' => ?_
      subst e'
      exact hne (h.st.inv.inj _ _ _ _ _ hb1 hl)
  · rw [B_sbx hbx]
    split
    · rfl
    · exact h.st.sb.dom f' b' hd
  · rw [B_sbx hbx] at hds'
    split at hds'
    · rename_i e'
      obtain ⟨rfl, rfl⟩ := e'
      injection hds' with hds'
      subst hds'
      rcases List.mem_cons.1 hd' with rfl | hd'
      · rfl
      · exact h.st.sb.bnd _ _ _ _ (bx_bxl hbx) (List.mem_cons_of_mem _ hd')
    · exact h.st.sb.bnd _ _ _ _ hds' hd'
  · rw [sbx_k, sbx_e]
    exact (h.st.e t').keep fun i c => hW.keep _

/-- A block for deferred calls. -/
def G.mark (g : G) (r : Nat) : G := { g with dm := fun b => if b = r then true else g.dm b }
theorem newmark_ok (h : SN g w n tmps s) : SN (g.mark w.heap.size) (w.alloc (.deferred (some []))) n tmps s ∧ Ext s.k g w (g.mark w.heap.size) (w.alloc (.deferred (some []))) ∧ g.dm w.heap.size = false := by
  have hi := h.st.inv
  have hdm : g.dm w.heap.size = false := by
    cases hq : g.dm w.heap.size with
    | false => rfl
    | true => have := getq_lt' (hi.dm _ hq).2; omega
  have hK : ∀ ℓ, Keep g w ℓ (g.mark w.heap.size) (w.alloc (.deferred (some []))) ℓ := fun ℓ =>
    ⟨fun b o ho => cell_of_block (alloc_same _ _ _ (hi.frlt ho)), fun b => Nat.le_refl _, fun f s' b hb => hb, fun b hb => ⟨hb, rfl, alloc_same _ _ _ (hi.lt hb)⟩⟩
  refine ⟨⟨⟨⟨?_, ?_, ?_, hi.inj, hi.tk, ?_, ?_, fun b hb => ?_⟩, ⟨fun f b ds hds => ?_, h.st.sb.dom, h.st.sb.bnd⟩, fun t => ?_⟩, h.size⟩, ?_, hdm⟩
  · exact Nat.le_trans hi.base (by rw [alloc_size]; omega)
  · intro b hb
    exact hi.fresh b (by rw [alloc_size] at hb; omega)
  · intro f b b' hb
    obtain ⟨a1, a2, a3, a4⟩ := hi.box f b b' hb
    exact ⟨a1, by rw [alloc_size]; omega, a3, a4⟩
  · intro b o ho
    rw [cell_of_block (alloc_same _ _ _ (hi.frlt ho))]
    exact hi.cells b o ho
  · intro b hb
    have hb' : (if b = w.heap.size then true else g.dm b) = true := hb
    split at hb'
    · rename_i e; subst e; exact ⟨hi.base, alloc_new _ _⟩
    · exact ⟨(hi.dm b hb').1, (alloc_same _ _ _ (getq_lt' (hi.dm b hb').2)).trans (hi.dm b hb').2⟩
  · have hb' : (if b = w.heap.size then true else g.dm b) = true := hb
    split at hb'
    · rename_i e; subst e; exact (hi.fresh _ (Nat.le_refl _)).2
    · exact hi.dt b hb'
  · exact (h.st.sb.rel f b ds hds).keep (fun c => hK _) fun b' hb' => alloc_same _ _ _ (hi.box _ _ _ hb').2.1
  · exact (h.st.e t).keep fun i c => hK _
  · exact ⟨rfl, rfl, rfl, rfl, by rw [alloc_size]; omega, fun b hb => alloc_same _ _ _ (Nat.lt_of_lt_of_le hb hi.base), fun _ => Nat.le_refl _, (hK (boxL 0 0 0)).cell, fun _ _ _ => rfl, fun b ℓ hb h0 hk => (hK ℓ).tk b hb, fun b hb => by
      show (if _ then _ else _) = _
      split
      · rfl
      · exact hb⟩

/-- A record. -/
theorem newrec_ok {b : Nat} (h : SN g w n tmps s) (hRL : RL ≤ b) (hl : lk b s.l = none) {r : Loop} {rid : Nat} {ks : List Nat} (hrid : RL ≤ rid) (hro : roundOf PP rid = some (r.tmps.size, r.params, r.assign, r.body)) (hst : r.state = .ready) (hpd : r.pending = none) (ht : r.tmps = tmps)
    (hb : ((ks.map fun t => (get t s.e).strip).all (D.cap (s.k + 1))) = true) :
    ∃ g', SN g' (w.alloc (.loop r)) n tmps (s.wl (ins b (.rcd 0 0 rid ks :: ks.map fun t => (get t s.e).strip) s.l)) ∧ g'.bx s.k b = some w.heap.size ∧ Ext s.k g w g' (w.alloc (.loop r)) ∧ (∀ f s' b', g.bx f s' = some b' → g'.bx f s' = some b') := by
  have hnone : g.bx s.k b = none := by
    cases hq : g.bx s.k b with
    | none => rfl
    | some x =>
      have := h.st.sb.dom s.k b (by rw [hq]; rfl)
      rw [← bx_eq _ _ _ (Nat.le_refl _)] at this
      unfold Ev.bx at this
      rw [if_pos (show s.k = s.o.length from rfl), hl] at this
      cases this
  have hi := h.st.inv
  have hK : ∀ ℓ, Keep g w ℓ (g.nbx s.k b w.heap.size) (w.alloc (.loop r)) ℓ := fun ℓ =>
    ⟨fun b o ho => cell_of_block (alloc_same _ _ _ (hi.frlt ho)), fun b => Nat.le_refl _, fun f s' b' hb => by
      show (if f = s.k ∧ s' = b then _ else _) = _
      rw [if_neg fun e => by rw [e.1, e.2, hnone] at hb; cases hb]
      exact hb, fun b hb => ⟨hb, rfl, alloc_same _ _ _ (hi.lt hb)⟩⟩
  refine ⟨g.nbx s.k b w.heap.size, ⟨⟨⟨?_, ?_, ?_, ?_, hi.tk, ?_, fun b hb => ⟨(hi.dm b hb).1, (alloc_same _ _ _ (getq_lt' (hi.dm b hb).2)).trans (hi.dm b hb).2⟩, hi.dt⟩, ⟨fun f' b' ds' hds' => ?_, fun f' b' hd => ?_, fun f' b' ds' d' hds' hd' => ?_⟩, fun t' => ?_⟩, h.size⟩, ?_, ?_, (hK (boxL 0 0 0)).bx⟩
  · exact Nat.le_trans hi.base (by rw [alloc_size]; omega)
  · intro b hb
    exact hi.fresh b (by rw [alloc_size] at hb; omega)
  · intro f' s' b' hb'
    have hb'' : (if f' = s.k ∧ s' = b then some w.heap.size else g.bx f' s') = some b' := hb'
    split at hb''
    · injection hb'' with hb''
      subst hb''
      exact ⟨hi.base, by rw [alloc_size]; omega, (hi.fresh _ (Nat.le_refl _)).1, (hi.fresh _ (Nat.le_refl _)).2⟩
    · obtain ⟨a1, a2, a3, a4⟩ := hi.box _ _ _ hb''
      exact ⟨a1, by rw [alloc_size]; omega, a3, a4⟩
  · intro f1 s1 f2 s2 b' h1 h2
    have h1' : (if f1 = s.k ∧ s1 = b then some w.heap.size else g.bx f1 s1) = some b' := h1
    have h2' : (if f2 = s.k ∧ s2 = b then some w.heap.size else g.bx f2 s2) = some b' := h2
    split at h1' <;> split at h2'
    · rename_i e1 e2; exact ⟨e1.1.trans e2.1.symm, e1.2.trans e2.2.symm⟩
    · injection h1' with h1'; have := (hi.box _ _ _ h2').2.1; omega
    · injection h2' with h2'; have := (hi.box _ _ _ h1').2.1; omega
    · exact hi.inj _ _ _ _ _ h1' h2'
  · intro b o ho
    rw [cell_of_block (alloc_same _ _ _ (hi.frlt ho))]
    exact hi.cells b o ho
  · rw [B_new _ hl] at hds'
    split at hds'
    · rename_i e'
      obtain ⟨rfl, rfl⟩ := e'
      injection hds' with hds'
      subst hds'
      refine .inr ⟨hRL, w.heap.size, r, 0, 0, rid, ks, _, by show (if _ then _ else _) = _; rw [if_pos ⟨rfl, rfl⟩], alloc_new _ _, rfl, hrid, hro, hst, hpd, by simp, fun c d t hc hk => ?_⟩
      rw [List.getElem?_map, hk] at hc
      simp only [Option.map_some] at hc
      injection hc with hc
      subst hc
      have hcap : D.cap (s.k + 1) (get t s.e).strip = true := List.all_eq_true.1 hb _ (List.mem_map.2 ⟨t, List.mem_of_getElem? hk, rfl⟩)
      simp only [D.cap, Bool.and_eq_true, Bool.not_eq_true'] at hcap
      have hx := ((h.st.e t).strip (fun _ c' => boxL s.k b' c)).keep fun i c' => hK (boxL s.k b' c)
      rw [RT_ne hcap.1.2, RV_ne hcap.1.1] at hx
      rw [ht]
      exact hx
    · exact (h.st.sb.rel f' b' ds' hds').keep (fun c => hK _) fun b hb => alloc_same _ _ _ (hi.box _ _ _ hb).2.1
  · rw [B_new _ hl]
    split
    · rfl
    · rename_i hne
      refine h.st.sb.dom f' b' ?_
      have : (if f' = s.k ∧ b' = b then some w.heap.size else g.bx f' b').isSome = true := hd
      rwa [if_neg hne] at this
  · rw [B_new _ hl] at hds'
    split at hds'
    · rename_i e'
      obtain ⟨rfl, rfl⟩ := e'
      injection hds' with hds'
      subst hds'
      rcases List.mem_cons.1 hd' with rfl | hd'
      · rfl
      · have hcap := List.all_eq_true.1 hb _ hd'
        simp only [D.cap, Bool.and_eq_true, Bool.not_eq_true'] at hcap
        exact hcap.2
    · exact h.st.sb.bnd _ _ _ _ hds' hd'
  · exact (h.st.e t').keep fun i c => hK _
  · show (if _ then _ else _) = _
    rw [if_pos ⟨rfl, rfl⟩]
  · exact ⟨rfl, rfl, rfl, rfl, by rw [alloc_size]; omega, fun b hb => alloc_same _ _ _ (Nat.lt_of_lt_of_le hb hi.base), fun _ => Nat.le_refl _, (hK (boxL 0 0 0)).cell, fun f' s' hf => by show (if _ then _ else _) = _; rw [if_neg fun e => by omega], fun b ℓ hb h0 hk => (hK ℓ).tk b hb, fun _ h => h⟩

/-- A block for deferred calls is shut. -/
def G.shut (g : G) (r : Nat) : G := { g with dm := fun b => if b = r then false else g.dm b }
theorem shut_ok (h : SN g w n tmps s) {r : Nat} (hr : g.dm r = true) : SN (g.shut r) (w.putObj r (.deferred none)) n tmps s ∧ ∀ k g0 w0, Ext k g0 w0 g w → g0.dm r = false → Ext k g0 w0 (g.shut r) (w.putObj r (.deferred none)) := by
  have hi := h.st.inv
  obtain ⟨h1, h2⟩ := hi.dm r hr
  have hfr : g.fr r = 0 := by
    cases hq : g.fr r with
    | zero => rfl
    | succ q =>
      have := hi.cells r 0 (by omega)
      simp [World.cell?, h2] at this
  have htk := hi.dt r hr
  have hi' : Inv (g.shut r) w := ⟨hi.base, hi.fresh, hi.box, hi.inj, hi.tk, hi.cells, fun b hb => by
    have hb' : (if b = r then false else g.dm b) = true := hb
    split at hb'
    · cases hb'
    · exact hi.dm b hb', fun b hb => by
    have hb' : (if b = r then false else g.dm b) = true := hb
    split at hb'
    · cases hb'
    · exact hi.dt b hb'⟩
  have hW : Wr (g.shut r) w r (w.putObj r (.deferred none)) := wr_putObj _ h1 hfr htk (by show (if _ then _ else _) = _; rw [if_pos rfl])
  have hK : ∀ ℓ, Keep g w ℓ (g.shut r) (w.putObj r (.deferred none)) ℓ := fun ℓ => by have := hW.keep ℓ; exact ⟨this.cell, this.fr, this.bx, this.tk⟩
  have hne : ∀ f b blk, g.bx f b = some blk → blk ≠ r := fun f b blk hb e => by
    subst e
    obtain ⟨ds, hds⟩ := Option.isSome_iff_exists.1 (h.st.sb.dom f b (by rw [hb]; rfl))
    rcases h.st.sb.rel f b ds hds with ⟨_, b', cs, et, q1, q2, _⟩ | ⟨_, l, r', st, j, rid, ks, caps, q1, q2, _⟩
    · rw [hb] at q1; injection q1 with q1; subst q1; rw [h2] at q2; cases q2
    · rw [hb] at q1; injection q1 with q1; subst q1; rw [h2] at q2; cases q2
  refine ⟨⟨⟨hW.inv hi', ⟨fun f b ds hds => (h.st.sb.rel f b ds hds).keep (fun c => hK _) fun b' hb' => hW.same b' (hne _ _ _ hb'), h.st.sb.dom, h.st.sb.bnd⟩, fun t => (h.st.e t).keep fun i c => hK _⟩, h.size⟩, fun k g0 w0 e hd => ?_⟩
  have e2 := hW.ext k
  refine ⟨e.base, e.os, e.tape, e.output, by rw [World.putObj_size]; exact e.size, fun b hb => (hW.same b fun x => ?_).trans (e.old b hb), e.fr, fun b o ho => (hW.cell b o (Nat.lt_of_lt_of_le ho (e.fr b))).trans (e.cell b o ho), e.bx, fun b ℓ hb h0 hk => ?_, fun b hb => ?_⟩
  · rw [x] at hb
    have := e.base
    omega
  · obtain ⟨a1, a2, a3⟩ := e.tk b ℓ hb h0 hk
    exact ⟨a1, a2, (hW.same b fun x => by rw [x, htk] at a1; cases a1).trans a3⟩
  · show (if _ then _ else _) = _
    rw [if_neg fun x => by rw [x, hd] at hb; cases hb]
    exact e.dm b hb

theorem leaves_ok {fn : Func} {R : Ending → World → Prop} {k : Nat} {g0 : G} {w0 : World} : ∀ (m : List Nat) {g : G} {w : World}, SN g w n tmps s → m.Nodup → (∀ b ∈ m, g0.dm b = false ∧ g.dm b = true) → Ext k g0 w0 g w →
    (∀ g' w', SN g' w' n tmps s → Ext k g0 w0 g' w' → ∃ v, (results fn tmps).run P w' = .ok v w' ∧ R (.returned v) w') → LeavesInM (W none) 0 P fn tmps R (m.map mkD) .returning w
  | [], g, w, h, _, _, e, hq => by rw [List.map_nil, LeavesInM]; exact hq g w h e
  | r :: m, g, w, h, hnd, hm, e, hq => by
    obtain ⟨h1, h2⟩ := hm r (by simp)
    obtain ⟨q1, q2⟩ := shut_ok h h2
    rw [List.map_cons, LeavesInM]
    refine ⟨fun x => (by cases x), .inl ⟨r, _, rfl, run_takeDeferred (h.st.inv.dm r h2).2, leaves_ok m q1 (List.nodup_cons.1 hnd).2 (fun b hb => ?_) (q2 _ _ _ e h1) hq⟩⟩
    obtain ⟨h3, h4⟩ := hm b (by simp [hb])
    refine ⟨h3, ?_⟩
    show (if _ then _ else _) = _
    rw [if_neg fun (x : b = r) => (List.nodup_cons.1 hnd).1 (by rw [← x]; exact hb)]
    exact h4
end
end Go.Proofs.Ytlhjdikklmkihaa.Ev
