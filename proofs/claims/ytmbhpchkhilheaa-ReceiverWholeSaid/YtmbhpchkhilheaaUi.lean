/- Tables of typed functions; loops' equations. Conditions: none. -/
import Derived.Test.YtmbhpchkhilheaaUf
import Derived.Test.YtmbhpchkhilheaaEvI
set_option linter.all false
namespace Go.Proofs.Ytmbhpchkhilheaa.Ev.U
open Go
section
variable {c : Cx} {e : Env} {l : Bx} {Y : List (List D)} {s : SU}

theorem kl0_w {id : Nat} {w : W} {d : D} (h : Rep2 c w d) : Rep2 c (w.kl0 id) d := by
  cases w with
  | pt b off => cases b with
    | own b =>
      show Rep2 c (bif Nat.beq b id then .un else .pt (.own b) off) d
      cases Nat.beq b id
      · exact h
      · trivial
    | ext i => exact h
  | clo f ws =>
    show Rep2 c (bif ws.any (W.toId id) then .un else .clo f ws) d
    cases ws.any (W.toId id)
    · exact h
    · trivial
  | rs b τ lo n =>
    show Rep2 c (bif Nat.beq b id then .un else .rs b τ lo n) d
    cases Nat.beq b id
    · exact h
    · trivial
  | ep b τ i o =>
    show Rep2 c (bif Nat.beq b id then .un else .ep b τ i o) d
    cases Nat.beq b id
    · exact h
    · trivial
  | _ => exact h
theorem kl_ne_ag {id : Nat} {w : W} (h : ∀ ws, w ≠ .ag ws) : w.kl1 id = w.kl0 id := by
  cases w with
  | ag ws => exact absurd rfl (h ws)
  | _ => rfl
theorem kl1_w {id : Nat} {w : W} {d : D} (h : Rep3 c w d) : Rep3 c (w.kl1 id) d := by
  by_cases hw : ∃ ws, w = .ag ws
  · obtain ⟨ws, rfl⟩ := hw
    obtain ⟨cs, rfl, h2⟩ := h
    refine ⟨cs, rfl, ?_⟩
    have := h2.map (f := W.kl0 id) (g := fun d => d) (R' := Rep2 c) fun w d _ q => kl0_w q
    simpa using this
  · have hn : ∀ ws, w ≠ .ag ws := fun ws e => hw ⟨ws, e⟩
    rw [kl_ne_ag hn]
    exact to3 (kl0_w (of3 h hn))
theorem kl2_w {id : Nat} {w : W} {d : D} (h : Rep4 c w d) : Rep4 c (w.kl2 id) d := by
  by_cases hw : ∃ ws, w = .tp ws
  · obtain ⟨ws, rfl⟩ := hw
    obtain ⟨ds, rfl, h2⟩ := h
    refine ⟨ds, rfl, ?_⟩
    have := h2.map (f := W.kl1 id) (g := fun d => d) (R' := Rep3 c) fun w d _ q => kl1_w q
    simpa using this
  · have hn : ∀ ws, w ≠ .tp ws := fun ws e => hw ⟨ws, e⟩
    have : w.kl2 id = w.kl1 id := by
      cases w with
      | tp ws => exact absurd rfl (hn ws)
      | _ => rfl
    rw [this]
    exact to4 (kl1_w (of4 h hn))
theorem of5 {w : W} {d : D} (h : Rep5 c e w d) (hn : ∀ p b v, w ≠ .gd p b v) : Rep4 c w d := by
  cases w with
  | gd p b v => exact absurd rfl (hn p b v)
  | _ => exact h
theorem kl3_ne {id : Nat} {w : W} (hn : ∀ p b v, w ≠ .gd p b v) : w.kl3 id = w.kl2 id := by
  cases w with
  | gd p b v => exact absurd rfl (hn p b v)
  | _ => rfl
theorem kl2_gd {id : Nat} {w : W} {d : D} (h : Rep4 c w d) : Rep5 c e w d := Rep5_of h
theorem kl3_w {id : Nat} {w : W} {d : D} (h : Rep5 c e w d) : Rep5 c e (w.kl3 id) d := by
  by_cases hw : ∃ p b v, w = .gd p b v
  · obtain ⟨p, b, v, rfl⟩ := hw
    obtain ⟨h1, h2, h3⟩ := h
    exact ⟨h1, fun q => kl2_w (h2 q), h3⟩
  · have hn : ∀ p b v, w ≠ .gd p b v := fun p b v e => hw ⟨p, b, v, e⟩
    rw [kl3_ne hn]
    exact Rep5_of (kl2_w (of5 h hn))
/-! What a variable that is none any more leaves -/
theorem u_kl (hc : c.ok) {τ : Ty} {x : τ.T} {id : Nat} {d : D} (h1 : τ.one = true) (h : RepL c.P τ c.F x [d]) : d.kl1 c.n id = d := by
  cases τ with
  | i k => obtain ⟨rfl, h2⟩ := i_d h; rfl
  | b => obtain rfl := b_d h; rfl
  | s => obtain ⟨rfl, h2⟩ := s_d h; rfl
  | l m t => obtain ⟨hl, es, h3, rfl | ⟨_, z, rfl⟩⟩ := l_d h <;> rfl
  | fn a r =>
    obtain ⟨f, caps, rfl, h3, _⟩ := fn_d h
    show (if _ then _ else _) = _
    rw [if_neg]
    intro hv
    obtain ⟨q, hq, hv⟩ := List.any_eq_true.1 hv
    cases q with
    | ptr f' b' o' =>
      obtain ⟨y, h4, h5⟩ := h3 _ hq
      have := (hc.fd y h4).1
      simp [D.toV] at hv
      omega
    | _ => cases hv
  | _ => cases h1
theorem kl0_s (hc : c.ok) {id : Nat} {w : W} {d : D} (h : Rep2 c w d) : Rep2 c (w.kl0 id) (d.kl1 c.n id) := by
  cases w with
  | u τ x => rw [u_kl hc h.1 h.2]; exact h
  | nil => obtain ⟨z, rfl⟩ := h; exact ⟨z, rfl⟩
  | np => rw [show d = .v (.pointer none) from h]; exact rfl
  | un => trivial
  | pt b off => cases b with
    | own b =>
      show Rep2 c (bif Nat.beq b id then .un else .pt (.own b) off) _
      by_cases e : b = id
      · rw [e, Nat.beq_refl]; trivial
      · rw [nbeq_f e, show d = .ptr c.n b off from h]
        show (if _ then _ else _) = _
        rw [if_neg fun q => e q.2]
    | ext i =>
      obtain ⟨r, h1, h2⟩ := h
      have := hc.lt r (List.mem_of_getElem? h1)
      rw [h2]
      refine ⟨r, h1, ?_⟩
      show (if _ then _ else _) = _
      rw [if_neg fun q => by omega]
  | fp ws off => obtain ⟨q, rfl, h2⟩ := h; exact ⟨q, rfl, h2⟩
  | clo f ws =>
    obtain ⟨q, rfl, h2, h3⟩ := h
    show Rep2 c (bif ws.any (W.toId id) then .un else .clo f ws) (if q.any (D.toV c.n id) = true then .u else .clo f q)
    cases ha : ws.any (W.toId id) with
    | true => trivial
    | false =>
      rw [if_neg]
      · exact ⟨q, rfl, h2, h3⟩
      · intro hv
        obtain ⟨d, hd, hv⟩ := List.any_eq_true.1 hv
        obtain ⟨j, hj⟩ := List.getElem?_of_mem hd
        have hl := h2.length
        have hlt := getq_lt hj
        obtain ⟨d', e1, e2⟩ := h2.get (List.getElem?_eq_getElem (show j < ws.length by omega))
        rw [hj] at e1
        injection e1 with e1
        subst e1
        have hna : (ws[j]'(by omega)).toId id = false := by
          cases hx : (ws[j]'(by omega)).toId id with
          | false => rfl
          | true => rw [List.any_eq_true.2 ⟨_, List.getElem_mem _, hx⟩] at ha; cases ha
        have hcw : capW (ws[j]'(by omega)) = true := List.all_eq_true.1 h3 _ (List.getElem_mem _)
        generalize ws[j]'(by omega) = w at e2 hna hcw
        cases d with
        | ptr f' b' o' =>
          simp [D.toV] at hv
          obtain ⟨rfl, rfl⟩ := hv
          cases w with
          | pt b off => cases b with
            | own b =>
              injection (show D.ptr c.n b' o' = .ptr c.n b off from e2) with _ q1 _
              subst q1
              simp [W.toId] at hna
            | ext i =>
              obtain ⟨r, r1, r2⟩ := e2
              have := hc.lt r (List.mem_of_getElem? r1)
              injection r2 with r3
              omega
          | u τ x => cases τ with
            | i k => obtain ⟨hz, _⟩ := i_d e2.2; cases hz
            | b => have hz := b_d e2.2; cases hz
            | s => obtain ⟨hz, _⟩ := s_d e2.2; cases hz
            | _ => cases hcw
          | un => cases hcw
          | nil => obtain ⟨z, hz⟩ := e2; cases hz
          | np => cases e2
          | fp ws off => obtain ⟨q, hz, _⟩ := e2; cases hz
          | rs b τ lo n => obtain ⟨_, hz | ⟨_, z, hz⟩⟩ := e2 <;> cases hz
          | ep b τ i o => cases hcw
          | _ => exact False.elim (by simpa [Rep1, Rep0] using e2)
        | _ => cases hv
  | rs b τ lo n =>
    show Rep2 c (bif Nat.beq b id then .un else .rs b τ lo n) _
    by_cases e : b = id
    · rw [e, Nat.beq_refl]; trivial
    · rw [nbeq_f e]
      obtain ⟨h0, rfl | ⟨h1, z, rfl⟩⟩ := h
      · refine ⟨h0, .inl ?_⟩
        show (if _ then _ else _) = _
        rw [if_neg fun q => e q.2]
      · exact ⟨h0, .inr ⟨h1, z, rfl⟩⟩
  | ep b τ i o =>
    show Rep2 c (bif Nat.beq b id then .un else .ep b τ i o) _
    by_cases e : b = id
    · rw [e, Nat.beq_refl]; trivial
    · rw [nbeq_f e]
      obtain ⟨h0, rfl⟩ := h
      refine ⟨h0, ?_⟩
      show (if _ then _ else _) = _
      rw [if_neg fun q => e q.2]
  | _ => exact False.elim (by simpa [Rep2, Rep1, Rep0] using h)
theorem kl1_s (hc : c.ok) {id : Nat} {w : W} {d : D} (h : Rep3 c w d) : Rep3 c (w.kl1 id) (d.kl2 c.n id) := by
  by_cases hw : ∃ ws, w = .ag ws
  · obtain ⟨ws, rfl⟩ := hw
    obtain ⟨cs, rfl, h2⟩ := h
    exact ⟨_, rfl, h2.map fun w d _ q => kl0_s hc q⟩
  · have hn : ∀ ws, w ≠ .ag ws := fun ws e => hw ⟨ws, e⟩
    rw [kl_ne_ag hn]
    have h2 := of3 h hn
    rcases ag_d h2 hn with q | q | q
    · subst q; exact trivial
    · subst q; exact False.elim (by simpa [Rep2, Rep1, Rep0] using h2)
    · rw [Ev.kl2_ne q]; exact to3 (kl0_s hc h2)
theorem kl2_s (hc : c.ok) {id : Nat} {w : W} {d : D} (h : Rep4 c w d) : Rep4 c (w.kl2 id) (d.kl3 c.n id) := by
  by_cases hw : ∃ ws, w = .tp ws
  · obtain ⟨ws, rfl⟩ := hw
    obtain ⟨ds, rfl, h2⟩ := h
    exact ⟨_, rfl, h2.map fun w d _ q => kl1_s hc q⟩
  · have hn : ∀ ws, w ≠ .tp ws := fun ws e => hw ⟨ws, e⟩
    have e1 : w.kl2 id = w.kl1 id := by
      cases w with
      | tp ws => exact absurd rfl (hn ws)
      | _ => rfl
    rw [e1]
    have h3 := of4 h hn
    rcases tup_d h3 with q | q
    · subst q; exact trivial
    · rw [Ev.kl3_ne q]; exact to4 (kl1_s hc h3)
theorem kl3_v {k id : Nat} {d : D} {x : Value} : d.kl3 k id = .v x ↔ d = .v x := by
  constructor
  · intro h
    cases d with
    | v y => exact h
    | ptr f b o => simp only [D.kl3, D.kl2, D.kl1, D.klP] at h; split at h <;> cases h
    | ref f b o n z => simp only [D.kl3, D.kl2, D.kl1, D.klP] at h; split at h <;> cases h
    | clo f cs => simp only [D.kl3, D.kl2, D.kl1] at h; split at h <;> cases h
    | _ => cases h
  · intro h; subst h; rfl
theorem act_kl {k id : Nat} {p : Path} : act p (klE k id e) ↔ act p e :=
  ⟨fun h x hx => by have := h x hx; rw [get_kl, kl3_v] at this; exact this, fun h x hx => by rw [get_kl, kl3_v]; exact h x hx⟩
theorem kl3_s (hc : c.ok) {id : Nat} {w : W} {d : D} (h : Rep5 c e w d) : Rep5 c (klE c.n id e) (w.kl3 id) (d.kl3 c.n id) := by
  by_cases hw : ∃ p b v, w = .gd p b v
  · obtain ⟨p, b, v, rfl⟩ := hw
    obtain ⟨h1, h2, h3⟩ := h
    exact ⟨h1.trans act_kl.symm, fun q => kl2_s hc (h2 (act_kl.1 q)), fun q => by rw [h3 fun r => q (act_kl.2 r)]; rfl⟩
  · have hn : ∀ p b v, w ≠ .gd p b v := fun p b v e => hw ⟨p, b, v, e⟩
    rw [kl3_ne hn]
    exact Rep5_of (kl2_s hc (of5 h hn))
theorem getW_kl {id t : Nat} : ∀ {es : List (Nat × W)}, getW t (klEW id es) = (getW t es).kl3 id
  | [] => rfl
  | (n, w) :: r => by
    have ih := getW_kl (id := id) (t := t) (es := r)
    simp only [klEW, List.map_cons, getW] at ih ⊢
    cases Nat.beq t n
    · simpa using ih
    · rfl
theorem lkW_rm {id b : Nat} : ∀ {L : List (Nat × List W)} {ws : List W}, lkW b (rmW id L) = some ws → b ≠ id ∧ ∃ ws0, lkW b L = some ws0 ∧ ws = ws0.map (W.kl0 id)
  | [], ws, h => by cases h
  | (n, q) :: r, ws, h => by
    simp only [rmW] at h
    by_cases e : n = id
    · rw [e, Nat.beq_refl, cond_true] at h
      obtain ⟨h1, ws0, h2, h3⟩ := lkW_rm h
      refine ⟨h1, ws0, ?_, h3⟩
      simp only [lkW, nbeq_f (show b ≠ n from fun x => h1 (x.trans e)), cond_false]; exact h2
    · rw [nbeq_f e, cond_false] at h
      simp only [lkW] at h
      by_cases e' : b = n
      · rw [e', Nat.beq_refl, cond_true] at h
        refine ⟨by rw [e']; exact e, q, by simp only [lkW, e', Nat.beq_refl, cond_true], (Option.some.inj h).symm⟩
      · rw [nbeq_f e', cond_false] at h
        obtain ⟨h1, ws0, h2, h3⟩ := lkW_rm h
        exact ⟨h1, ws0, by simp only [lkW, nbeq_f e', cond_false]; exact h2, h3⟩
/-- Variables' cells, when a variable is none any more. -/
theorem brep_w {id : Nat} {ws : List W} {o : Option (List D)} (h : BRep c ws o) : BRep c (ws.map (W.kl0 id)) o := by
  by_cases hl : ∃ τ m xs, ws = [.lb τ m xs]
  · obtain ⟨τ, m, xs, rfl⟩ := hl; exact h
  · have hn : notLb ws = some ws := by
      unfold notLb
      split
      · exact absurd ⟨_, _, _, rfl⟩ hl
      · rfl
    obtain ⟨-, ds, h1, h2⟩ := h.all hn
    rw [h1]
    have := h2.map (f := W.kl0 id) (g := fun d => d) (R' := Rep2 c) fun w d _ q => kl0_w q
    exact BRep.of (by simpa using this)
theorem rf1_kl {k id : Nat} {d : D} (h : d.rf1 = true) : d.kl1 k id = d := by
  cases d with
  | v y => rfl
  | sl m z xs => rfl
  | _ => cases h
theorem brep_s (hc : c.ok) {id : Nat} {ws : List W} {o : Option (List D)} (h : BRep c ws o) : BRep c (ws.map (W.kl0 id)) (o.map fun ds => ds.map (D.kl1 c.n id)) := by
  by_cases hl : ∃ τ m xs, ws = [.lb τ m xs]
  · obtain ⟨τ, m, xs, rfl⟩ := hl
    obtain ⟨h1, h2, h3, h4, es, h5, h6⟩ := (show BRep c [.lb τ m xs] o from h)
    refine (show BRep c [.lb τ m xs] _ from ⟨h1, h2, h3, h4, es, h5, ?_⟩)
    rcases h6 with rfl | ⟨h6, rfl⟩
    · left
      have : (es.flatMap D.cells).map (D.kl1 c.n id) = es.flatMap D.cells := by
        conv => rhs; rw [← List.map_id (es.flatMap D.cells)]
        refine List.map_congr_left fun d hd => ?_
        obtain ⟨e, he, hd⟩ := List.mem_flatMap.1 hd
        exact rf1_kl (List.all_eq_true.1 (List.all_eq_true.1 (els_rf h1.2 h1.1 h5) e he) d hd)
      rw [Option.map_some, this]
    · exact .inr ⟨h6, rfl⟩
  · have hn : notLb ws = some ws := by
      unfold notLb
      split
      · exact absurd ⟨_, _, _, rfl⟩ hl
      · rfl
    obtain ⟨-, ds, h1, h2⟩ := h.all hn
    rw [h1]
    exact BRep.of (h2.map fun w d _ q => kl0_s hc q)
theorem act_id {t : Nat} {p : Path} : act p ((t, get t e) :: e) ↔ act p e := by
  have : ∀ n, get n ((t, get t e) :: e) = get n e := fun n => by
    simp only [get]
    split
    · rename_i h; rw [h]
    · rfl
  exact ⟨fun h x hx => by rw [← this]; exact h x hx, fun h x hx => by rw [this]; exact h x hx⟩
theorem rep5_id {t : Nat} {w : W} {d : D} (h : Rep5 c ((t, get t e) :: e) w d) : Rep5 c e w d := by
  cases w with
  | gd p b v => exact ⟨h.1.trans act_id, fun q => h.2.1 (act_id.2 q), fun q => h.2.2 fun r => q (act_id.1 r)⟩
  | _ => exact h
/-- A slot told otherwise. -/
theorem env_same {E : List (Nat × W)} (h : ∀ t, Rep5 c e (getW t E) (get t e)) {t : Nat} {w : W} (hw : Rep4 c w (get t e)) : ∀ n, Rep5 c e (getW n ((t, w) :: clr t E)) (get n e) := fun n => by
  have := env_put h (t := t) (w := w) (d := get t e) (Rep5_of hw) n
  rw [show get n ((t, get t e) :: e) = get n e from by
    simp only [get]
    split
    · rename_i h; rw [h]
    · rfl] at this
  exact rep5_id this
theorem ths_u (hS : RepS c s e l Y) {t id : Nat} {s' : SU} (h : (ghW (.ths t id) s).out s') : ∃ e' l', RepS c s' e' l' Y ∧ ∀ o : List Bx, o.length = c.n → evG1 (.ths t id) ⟨e, l, o⟩ = some ⟨e', l', o⟩ := by
  simp only [ghW] at h
  split at h
  · rename_i τ xs hq
    cases hb : (hasN id s.m || !(eleOk τ && τ.val && mkOk τ)) with
    | true => rw [hb] at h; exact h.elim
    | false =>
      rw [hb, cond_false] at h
      have h := out_r h
      subst h
      simp only [Bool.or_eq_false_iff, Bool.not_eq_false', Bool.and_eq_true] at hb
      obtain ⟨hn, ⟨hk, hv⟩, hm⟩ := hb
      have hnone : lk id l = none := by
        cases hq : lk id l with
        | none => rfl
        | some q => rw [hS.nm id (by rw [hq]; simp)] at hn; cases hn
      have ht := hS.env t
      rw [hq] at ht
      obtain ⟨hl, es, ha, hd⟩ := flat_cells_l (show Rep4 c (.u (.l .mu τ) xs) (get t e) from ht)
      have hinv : (0 : Int) ≤ ((xs.length : Nat) : Int) ∧ ((xs.length : Nat) : Int) ≤ (maxLn : Int) ∧ (0 : Int) ≤ (none : Option Int).getD 0 := ⟨by omega, by omega, Int.le_refl _⟩
      have hnm : ∀ {L : Bx}, (∀ b, b ≠ id → lk b L = lk b l) → ∀ b, lk b L ≠ none → hasN b (id :: s.m) = true := fun hL b hb => by
        rw [hasN_c]
        by_cases e' : b = id
        · rw [e', Nat.beq_refl]; rfl
        · rw [nbeq_f e', cond_false]
          exact hS.nm b (by rw [← hL b e']; exact hb)
      have hbox : ∀ {L : Bx}, (∀ b, b ≠ id → lk b L = lk b l) → BRep c [.lb τ ((xs.length : Nat) : Int) xs] (lk id L) → ∀ b ws, lkW b ((id, [.lb τ ((xs.length : Nat) : Int) xs]) :: s.l) = some ws → BRep c ws (lk b L) := fun hL h0 b ws hb => by
        simp only [lkW] at hb
        by_cases e' : b = id
        · rw [e', Nat.beq_refl, cond_true] at hb
          have := Option.some.inj hb
          subst this
          rw [e']; exact h0
        · rw [nbeq_f e', cond_false] at hb
          rw [hL b e']; exact hS.box b ws hb
      rcases hd with hd | ⟨rfl, z, hd⟩
      · refine ⟨(t, .ref c.n id 0 es.length (csz τ)) :: e, ins id (es.flatMap D.cells) l, ⟨?_, hbox (fun b hb => by rw [lk_ins hnone, if_neg hb]) ?_, hnm fun b hb => by rw [lk_ins hnone, if_neg hb], hS.ext, hS.wr, hS.len, hS.ro⟩, fun o ho => ?_⟩
        · refine env_put hS.env (Rep5_of (show Rep4 c (.rs id τ none _) _ from ⟨hinv, .inl ?_⟩))
          rw [ha.length]; simp
        · rw [lk_ins hnone, if_pos rfl]
          exact (show BRep c [.lb τ _ xs] _ from ⟨⟨hk, hv⟩, hm, rfl, hl, es, ha, .inl rfl⟩)
        · simp only [evG1, hd]
          rw [if_pos ⟨by rw [hnone]; rfl, els_rf hv hk ha⟩, ho]
      · have hx := ha.nil_r
        subst hx
        refine ⟨e, l, ⟨env_same hS.env (show Rep4 c (.rs id τ none _) _ from ⟨hinv, .inr ⟨rfl, z, hd⟩⟩), hbox (fun _ _ => rfl) ?_, hnm fun _ _ => rfl, hS.ext, hS.wr, hS.len, hS.ro⟩, fun o ho => ?_⟩
        · rw [hnone]
          exact (show BRep c [.lb τ _ []] _ from ⟨⟨hk, hv⟩, hm, rfl, hl, [], ha, .inr ⟨rfl, rfl⟩⟩)
        · simp only [evG1, hd]
  · exact h.elim
theorem ufs_u (hc : c.ok) (hS : RepS c s e l Y) {t id : Nat} {s' : SU} (h : (ghW (.ufs t id) s).out s') : ∃ e' l', RepS c s' e' l' Y ∧ ∀ o : List Bx, o.length = c.n → evG1 (.ufs t id) ⟨e, l, o⟩ = some ⟨e', l', o⟩ := by
  simp only [ghW] at h
  split at h
  · rename_i b τ n τ' m xs0 h1 h2
    split at h
    · rename_i xs hcast
      split at h
      · rename_i hbid
        subst hbid
        obtain ⟨v, o1, o2⟩ := out_b h
        subst o2
        obtain ⟨e1, e2⟩ := mu_cast hcast
        subst e1
        subst e2
        have hnm : n = m := by
          unfold eqI at o1
          split at o1
          · assumption
          · cases o1
        have ht := hS.env t
        rw [h1] at ht
        obtain ⟨⟨n0, n1, _⟩, hd⟩ := (show Rep4 c (.rs b τ' none n) (get t e) from ht)
        obtain ⟨⟨hk, hv⟩, hmk, hlen, hl, es, ha, hb⟩ := (show BRep c [.lb τ' m xs0] (lk b l) from hS.box b _ h2)
        have hel := ha.length
        have hn : n.toNat = es.length := by omega
        have boxw : ∀ b' ws, lkW b' (rmW b s.l) = some ws → BRep c ws (lk b' l) := fun b' ws hb' => by
          obtain ⟨_, ws0, q1, rfl⟩ := lkW_rm hb'
          exact brep_w (hS.box b' ws0 q1)
        have envw : ∀ t, Rep5 c e (getW t (klEW b s.e)) (get t e) := fun t => by rw [getW_kl]; exact kl3_w (hS.env t)
        rcases hd with hd | ⟨h0, z, hd⟩
        · have hd : get t e = .ref c.n b 0 es.length (csz τ') := by rw [hd, hn]; simp
          rcases hb with hb | ⟨rfl, hb⟩
          · have hch := chunks_flat (els_mk hv hk hmk ha)
            refine ⟨(t, .sl .mu (csz τ') es) :: klE c.n b e, klL c.n b (rmL b l), ⟨?_, fun b' ws hb' => ?_, fun b' hb' => hS.nm b' fun q => hb' ?_, hS.ext, hS.wr, hS.len, hS.ro⟩, fun o ho => ?_⟩
            · refine env_put (fun t => ?_) (Rep5_of (show Rep4 c (.u (.l .mu τ') xs0) _ from ⟨rfl, hl, es, ha, .inl rfl⟩))
              rw [getW_kl, get_kl]; exact kl3_s hc (hS.env t)
            · obtain ⟨q0, ws0, q1, rfl⟩ := lkW_rm hb'
              rw [lk_kl, lk_rm, if_neg q0]
              exact brep_s hc (hS.box b' ws0 q1)
            · rw [lk_kl, lk_rm, q]; split <;> rfl
            · simp only [evG1, hd, ho, hb]
              have hrf : (es.flatMap D.cells).all D.rf1 = true := by
                refine List.all_eq_true.2 fun d hd => ?_
                obtain ⟨e, he, hd⟩ := List.mem_flatMap.1 hd
                exact List.all_eq_true.1 (List.all_eq_true.1 (els_rf hv hk ha) e he) d hd
              rw [if_pos ⟨trivial, trivial⟩, if_pos ⟨trivial, (flat_len fun i d hi => els_len hv ha d (List.mem_of_getElem? hi)).symm, hrf⟩, hch]
          · refine ⟨(t, .sl .mu (csz τ') []) :: e, l, ⟨?_, boxw, hS.nm, hS.ext, hS.wr, hS.len, hS.ro⟩, fun o ho => ?_⟩
            · exact env_put envw (Rep5_of (show Rep4 c (.u (.l .mu τ') xs0) _ from ⟨rfl, hl, [], ha, .inl rfl⟩))
            · simp only [evG1, hd, ho, hb]
              rw [if_pos ⟨trivial, trivial⟩]
        · have he0 : es = [] := List.eq_nil_of_length_eq_zero (by omega)
          refine ⟨e, l, ⟨env_same envw (show Rep4 c (.u (.l .mu τ') xs0) _ from ⟨rfl, hl, es, ha, .inr ⟨he0, z, by rw [hd]⟩⟩), boxw, hS.nm, hS.ext, hS.wr, hS.len, hS.ro⟩, fun o ho => ?_⟩
          simp only [evG1, hd]
      · exact h.elim
    · exact h.elim
  · exact h.elim
theorem set_self {α : Type} {l : List α} {i : Nat} {x : α} (h : l[i]? = some x) : l.set i x = l := by
  apply List.ext_getElem?
  intro j
  rw [List.getElem?_set]
  split
  · rename_i e; subst e; rw [h]; simp [getq_lt h]
  · rfl
theorem th_u (hS : RepS c s e l Y) {b k id : Nat} {s' : SU} (h : (ghW (.th b k id) s).out s') : ∃ e' l', RepS c s' e' l' Y ∧ ∀ o : List Bx, o.length = c.n → evG1 (.th b k id) ⟨e, l, o⟩ = some ⟨e', l', o⟩ := by
  simp only [ghW] at h
  split at h
  · rename_i ws hws
    split at h
    · rename_i τ xs hw
      cases hb : (hasN id s.m || Nat.beq b id || !(eleOk τ && τ.val && mkOk τ)) with
      | true => rw [hb] at h; exact h.elim
      | false =>
        rw [hb, cond_false] at h
        have h := out_r h
        subst h
        simp only [Bool.or_eq_false_iff, Bool.not_eq_false', Bool.and_eq_true] at hb
        obtain ⟨⟨hn, hbi⟩, ⟨hk, hv⟩, hm⟩ := hb
        have hbid : b ≠ id := fun q => by rw [q, Nat.beq_refl] at hbi; cases hbi
        have hnone : lk id l = none := by
          cases hq : lk id l with
          | none => rfl
          | some q => rw [hS.nm id (by rw [hq]; simp)] at hn; cases hn
        obtain ⟨hws0, ds, d1, d2⟩ := own_box hS hws
        obtain ⟨d, d3, d4⟩ := d2.get hw
        obtain ⟨hl, es, ha, hd⟩ := flat_cells_l (to4x2 d4)
        have hinv : (0 : Int) ≤ ((xs.length : Nat) : Int) ∧ ((xs.length : Nat) : Int) ≤ (maxLn : Int) ∧ (0 : Int) ≤ (none : Option Int).getD 0 := ⟨by omega, by omega, Int.le_refl _⟩
        have hnm : ∀ {L : Bx}, (∀ b', b' ≠ id → lk b' L ≠ none → lk b' l ≠ none) → ∀ b', lk b' L ≠ none → hasN b' (id :: s.m) = true := fun hL b' hb' => by
          rw [hasN_c]
          by_cases e' : b' = id
          · rw [e', Nat.beq_refl]; rfl
          · rw [nbeq_f e', cond_false]
            exact hS.nm b' (hL b' e' hb')
        have hbox : ∀ {L : Bx} {ds' : List D}, (∀ b', b' ≠ id → b' ≠ b → lk b' L = lk b' l) → lk b L = some ds' → All2 (Rep2 c) (ws.set k (.rs id τ none ((xs.length : Nat) : Int))) ds' → BRep c [.lb τ ((xs.length : Nat) : Int) xs] (lk id L) →
            ∀ b' ws', lkW b' ((id, [.lb τ ((xs.length : Nat) : Int) xs]) :: sbW b (ws.set k (.rs id τ none ((xs.length : Nat) : Int))) s.l) = some ws' → BRep c ws' (lk b' L) := fun hL hLb hset h0 b' ws' hb' => by
          simp only [lkW] at hb'
          by_cases e' : b' = id
          · rw [e', Nat.beq_refl, cond_true] at hb'
            have := Option.some.inj hb'
            subst this
            rw [e']; exact h0
          · rw [nbeq_f e', cond_false, lkW_sbW] at hb'
            by_cases e2 : b' = b
            · rw [if_pos e2, hws0] at hb'
              have := Option.some.inj hb'
              subst this
              rw [e2, hLb]
              exact BRep.of hset
            · rw [if_neg e2] at hb'
              rw [hL b' e' e2]; exact hS.box b' ws' hb'
        rcases hd with rfl | ⟨rfl, z, rfl⟩
        · have hsbn : lk id (sb b (ds.set k (.ref c.n id 0 es.length (csz τ))) l) = none := by rw [lk_sb, if_neg (Ne.symm hbid)]; exact hnone
          refine ⟨e, ins id (es.flatMap D.cells) (sb b (ds.set k (.ref c.n id 0 es.length (csz τ))) l), ⟨hS.env, hbox (fun b' h1 h2 => ?_) ?_ (d2.set k (show Rep2 c (.rs id τ none _) (.ref c.n id 0 es.length (csz τ)) from ⟨hinv, .inl ?_⟩)) ?_, hnm fun b' h1 h2 => ?_, hS.ext, hS.wr, hS.len, hS.ro⟩, fun o ho => ?_⟩
          · rw [lk_ins hsbn, if_neg h1, lk_sb, if_neg h2]
          · rw [lk_ins hsbn, if_neg hbid, lk_sb, if_pos rfl, d1]; rfl
          · rw [ha.length]; simp
          · rw [lk_ins hsbn, if_pos rfl]
            exact (show BRep c [.lb τ _ xs] _ from ⟨⟨hk, hv⟩, hm, rfl, hl, es, ha, .inl rfl⟩)
          · rw [lk_ins hsbn, if_neg h1, lk_sb] at h2
            split at h2
            · rename_i e2; rw [e2, d1]; simp
            · exact h2
          · simp only [evG1, d1, d3]
            rw [if_pos ⟨by rw [hnone]; rfl, els_rf hv hk ha⟩, ho]
            rfl
        · have hx := ha.nil_r
          subst hx
          refine ⟨e, l, ⟨hS.env, hbox (fun _ _ _ => rfl) d1 ?_ ?_, hnm fun _ _ h => h, hS.ext, hS.wr, hS.len, hS.ro⟩, fun o ho => ?_⟩
          · have := d2.set k (show Rep2 c (.rs id τ none (((([] : List τ.T)).length : Nat) : Int)) (.sl .nl z []) from ⟨hinv, .inr ⟨rfl, z, rfl⟩⟩)
            rw [set_self d3] at this
            exact this
          · rw [hnone]
            exact (show BRep c [.lb τ _ []] _ from ⟨⟨hk, hv⟩, hm, rfl, hl, [], ha, .inr ⟨rfl, rfl⟩⟩)
          · simp only [evG1, d1, d3]
    · exact h.elim
  · exact h.elim
theorem ufc_u (hc : c.ok) (hS : RepS c s e l Y) {b k id : Nat} {s' : SU} (h : (ghW (.ufc b k id) s).out s') : ∃ e' l', RepS c s' e' l' Y ∧ ∀ o : List Bx, o.length = c.n → evG1 (.ufc b k id) ⟨e, l, o⟩ = some ⟨e', l', o⟩ := by
  simp only [ghW] at h
  split at h
  · rename_i ws τ' m xs0 hws h2
    split at h
    · rename_i b' τ n hw
      split at h
      · rename_i xs hcast
        split at h
        · rename_i hcond
          obtain ⟨rfl, hne⟩ := hcond
          obtain ⟨v, o1, o2⟩ := out_b h
          subst o2
          obtain ⟨e1, e2⟩ := mu_cast hcast
          subst e1
          subst e2
          have hnm : n = m := by
            unfold eqI at o1
            split at o1
            · assumption
            · cases o1
          obtain ⟨hws0, ds, d1, d2⟩ := own_box hS hws
          obtain ⟨d, d3, d4⟩ := d2.get hw
          obtain ⟨⟨n0, n1, _⟩, hd⟩ := (show Rep2 c (.rs b' τ' none n) d from d4)
          obtain ⟨⟨hk, hv⟩, hmk, hlen, hl, es, ha, hb⟩ := (show BRep c [.lb τ' m xs0] (lk b' l) from hS.box b' _ h2)
          have hel := ha.length
          have hn : n.toNat = es.length := by omega
          have boxw : ∀ {L : Bx} {ds' : List D}, lk b L = some ds' → All2 (Rep2 c) ((ws.map (W.kl0 b')).set k (.u (.l .mu τ') xs0)) ds' → (∀ b'' ws'', b'' ≠ b → lkW b'' (rmW b' s.l) = some ws'' → BRep c ws'' (lk b'' L)) →
              ∀ b'' ws'', lkW b'' (sbW b ((ws.map (W.kl0 b')).set k (.u (.l .mu τ') xs0)) (rmW b' s.l)) = some ws'' → BRep c ws'' (lk b'' L) := fun hLb hset hL b'' ws'' hb'' => by
            rw [lkW_sbW] at hb''
            by_cases e2 : b'' = b
            · rw [if_pos e2] at hb''
              obtain ⟨_, _, q2⟩ := Option.map_eq_some_iff.1 hb''
              subst q2
              rw [e2, hLb]
              exact BRep.of hset
            · rw [if_neg e2] at hb''
              exact hL b'' ws'' e2 hb''
          have envw : ∀ t, Rep5 c e (getW t (klEW b' s.e)) (get t e) := fun t => by rw [getW_kl]; exact kl3_w (hS.env t)
          have oldw : ∀ b'' ws'', b'' ≠ b → lkW b'' (rmW b' s.l) = some ws'' → BRep c ws'' (lk b'' l) := fun b'' ws'' _ hb'' => by
            obtain ⟨_, ws0, q1, rfl⟩ := lkW_rm hb''
            exact brep_w (hS.box b'' ws0 q1)
          have mapw : All2 (Rep2 c) (ws.map (W.kl0 b')) ds := by
            have := d2.map (f := W.kl0 b') (g := fun d => d) (R' := Rep2 c) fun w d _ q => kl0_w q
            simpa using this
          rcases hd with rfl | ⟨h0, z, rfl⟩
          · rcases hb with hb | ⟨rfl, hb⟩
            · have hch := chunks_flat (els_mk hv hk hmk ha)
              have hlkb : lk b (klL c.n b' (rmL b' l)) = some (ds.map (D.kl1 c.n b')) := by rw [lk_kl, lk_rm, if_neg hne, d1]; rfl
              refine ⟨klE c.n b' e, sb b ((ds.map (D.kl1 c.n b')).set k (.sl .mu (csz τ') es)) (klL c.n b' (rmL b' l)), ⟨fun t => ?_, boxw (ds' := (ds.map (D.kl1 c.n b')).set k (.sl .mu (csz τ') es)) ?_ ?_ fun b'' ws'' h1 hb'' => ?_, fun b'' hb'' => hS.nm b'' fun q => hb'' ?_, hS.ext, hS.wr, hS.len, hS.ro⟩, fun o ho => ?_⟩
              · rw [getW_kl, get_kl]; exact kl3_s hc (hS.env t)
              · rw [lk_sb, if_pos rfl, hlkb]; rfl
              · exact (d2.map (R' := Rep2 c) fun w d _ q => kl0_s hc q).set k (show Rep2 c (.u (.l .mu τ') xs0) _ from ⟨rfl, hl, es, ha, .inl rfl⟩)
              · obtain ⟨q0, ws0, q1, rfl⟩ := lkW_rm hb''
                rw [lk_sb, if_neg h1, lk_kl, lk_rm, if_neg q0]
                exact brep_s hc (hS.box b'' ws0 q1)
              · rw [lk_sb]
                by_cases e2 : b'' = b
                · rw [e2] at q; rw [d1] at q; cases q
                · rw [if_neg e2, lk_kl, lk_rm, q]; split <;> rfl
              · have hrf : (es.flatMap D.cells).all D.rf1 = true := by
                  refine List.all_eq_true.2 fun d hd => ?_
                  obtain ⟨e, he, hd⟩ := List.mem_flatMap.1 hd
                  exact List.all_eq_true.1 (List.all_eq_true.1 (els_rf hv hk ha) e he) d hd
                simp only [evG1, hb, d1, d3]
                rw [if_pos ⟨ho.symm, trivial, by simp, by rw [hn]; exact (flat_len fun i d hi => els_len hv ha d (List.mem_of_getElem? hi)).symm, hrf, hne⟩, hn, hch, ho]
            · refine ⟨e, sb b (ds.set k (.sl .mu (csz τ') [])) l, ⟨envw, boxw (ds' := ds.set k (.sl .mu (csz τ') [])) ?_ (mapw.set k (show Rep2 c (.u (.l .mu τ') xs0) _ from ⟨rfl, hl, [], ha, .inl rfl⟩)) fun b'' ws'' h1 hb'' => ?_, fun b'' hb'' => hS.nm b'' fun q => hb'' ?_, hS.ext, hS.wr, hS.len, hS.ro⟩, fun o ho => ?_⟩
              · rw [lk_sb, if_pos rfl, d1]; rfl
              · rw [lk_sb, if_neg h1]; exact oldw b'' ws'' h1 hb''
              · rw [lk_sb]
                by_cases e2 : b'' = b
                · rw [e2] at q; rw [d1] at q; cases q
                · rw [if_neg e2]; exact q
              · simp only [evG1, hb, d1, Option.bind_some, d3]
                rw [if_pos ⟨ho.symm, trivial⟩]
                rfl
          · have he0 : es = [] := List.eq_nil_of_length_eq_zero (by omega)
            have hset := mapw.set k (show Rep2 c (.u (.l .mu τ') xs0) (.sl .nl z []) from ⟨rfl, hl, es, ha, .inr ⟨he0, z, rfl⟩⟩)
            rw [set_self d3] at hset
            refine ⟨e, l, ⟨envw, boxw d1 hset oldw, hS.nm, hS.ext, hS.wr, hS.len, hS.ro⟩, fun o ho => ?_⟩
            simp only [evG1, d1, Option.bind_some, d3]
            split <;> rfl
        · exact h.elim
      · exact h.elim
    · exact h.elim
  · exact h.elim
theorem dg_u (hS : RepS c s e l Y) {b k : Nat} {s' : SU} (h : (ghW (.dg b k) s).out s') : ∃ e' l', RepS c s' e' l' Y ∧ ∀ o : List Bx, o.length = c.n → evG1 (.dg b k) ⟨e, l, o⟩ = some ⟨e', l', o⟩ := by
  simp only [ghW] at h
  split at h
  · rename_i ws hws
    split at h
    · rename_i w hw
      have h := out_r h
      subst h
      obtain ⟨hws0, ds, d1, d2⟩ := own_box hS hws
      obtain ⟨d, d3, d4⟩ := d2.get hw
      have hd := dwn1_ok d4
      have hset : All2 (Rep2 c) (ws.set k w.dwn1) (ds.set k d.dwn1) := d2.set k hd
      refine ⟨e, sb b (ds.set k d.dwn1) l, ⟨hS.env, fun b' ws' hb' => ?_, fun b' hb' => hS.nm b' fun q => hb' ?_, hS.ext, hS.wr, hS.len, hS.ro⟩, fun o ho => ?_⟩
      · simp only [lkW_sbW] at hb'
        rw [lk_sb]
        by_cases e : b' = b
        · rw [if_pos e, hws0] at hb'
          rw [if_pos e, d1]
          have := Option.some.inj hb'
          subst this
          exact BRep.of hset
        · rw [if_neg e] at hb' ⊢
          exact hS.box b' ws' hb'
      · rw [lk_sb]
        by_cases e : b' = b
        · rw [e] at q; rw [d1] at q; cases q
        · rw [if_neg e]; exact q
      · have self : d.dwn1 = d → sb b (ds.set k d.dwn1) l = l := fun h => by
          rw [h, show ds.set k d = ds from by
            apply List.ext_getElem?
            intro i
            rw [List.getElem?_set]
            split
            · rename_i e; subst e; rw [d3]; simp [getq_lt d3]
            · rfl]
          exact sb_id d1
        simp only [evG1, d1, d3]
        cases d with
        | sl m z xs => cases m with
          | mu => rfl
          | _ => exact congrArg some (by rw [self rfl])
        | _ => exact congrArg some (by rw [self rfl])
    · exact h.elim
  · exact h.elim
theorem gh1_ok (hc : c.ok) (hS : RepS c s e l Y) {p : Gc} {s' : SU} (h : (ghW p s).out s') : ∃ e' l', RepS c s' e' l' Y ∧ ∀ o : List Bx, o.length = c.n → evG1 p ⟨e, l, o⟩ = some ⟨e', l', o⟩ := by
  cases p with
  | dg b k => exact dg_u hS h
  | ths t id => exact ths_u hS h
  | ufs t id => exact ufs_u hc hS h
  | th b k id => exact th_u hS h
  | ufc b k id => exact ufc_u hc hS h
  | _ => exact h.elim
theorem evGs_ok (hc : c.ok) {ρ : Type} {K : SU → Option ρ} {ans : ρ} : ∀ {L : List Gc} {s : SU} {e : Env} {l : Bx}, RepS c s e l Y → evGs L s K = some ans → ∃ s' e' l', RepS c s' e' l' Y ∧ K s' = some ans ∧ ∀ o : List Bx, o.length = c.n → evG L ⟨e, l, o⟩ = some ⟨e', l', o⟩
  | [], s, e, l, hS, h => ⟨s, e, l, hS, h, fun _ _ => rfl⟩
  | p :: L, s, e, l, hS, h => by
    simp only [evGs] at h
    have key : ∀ {s1 : SU}, (ghW p s).out s1 → evGs L s1 K = some ans → ∃ s' e' l', RepS c s' e' l' Y ∧ K s' = some ans ∧ ∀ o : List Bx, o.length = c.n → evG (p :: L) ⟨e, l, o⟩ = some ⟨e', l', o⟩ := by
      intro s1 h1 h2
      obtain ⟨e1, l1, q1, q2⟩ := gh1_ok hc hS h1
      obtain ⟨s', e', l', q3, q4, q5⟩ := evGs_ok hc q1 h2
      exact ⟨s', e', l', q3, q4, fun o ho => by simp only [evG, q2 o ho, Option.bind_some]; exact q5 o ho⟩
    split at h
    · cases h
    · rename_i s1 hg
      exact key (by rw [hg]; rfl) h
    · rename_i τ o d k hg
      obtain ⟨x, h1, h2⟩ := Option.bind_eq_some_iff.1 h
      exact key (by rw [hg]; exact ⟨x, h1, rfl⟩) h2
end
end Go.Proofs.Ytmbhpchkhilheaa.Ev.U
namespace Go.Proofs.Ytmbhpchkhilheaa.Ev.U
open Go
theorem castT_id (a : Ty) (x : a.T) : castT a a x = some x := by simp [castT]
theorem dsp_inj {ρ : Type} : ∀ {L : List Ty} {j : Nat} {τ : Ty} {x : τ.T} {y : (XTy L).T} (h : Nat → (τ : Ty) → τ.T → Option ρ), injX L j τ x = some y → dspX L y h = h j τ x
  | [], j, τ, x, y, h, hi => by cases hi
  | [a], 0, τ, x, y, h, hi => by
    obtain ⟨e, hi⟩ := castT_eq (show castT τ a x = some y from hi)
    subst e; subst hi; rfl
  | [a], j + 1, τ, x, y, h, hi => by cases hi
  | a :: b :: L, 0, τ, x, y, h, hi => by
    obtain ⟨z, h1, h2⟩ := Option.map_eq_some_iff.1 (show (castT τ a x).map Sum.inl = some y from hi)
    obtain ⟨e, h1⟩ := castT_eq h1
    subst e; subst h1; subst h2; rfl
  | a :: b :: L, j + 1, τ, x, y, h, hi => by
    obtain ⟨z, h1, h2⟩ := Option.map_eq_some_iff.1 (show (injX (b :: L) j τ x).map Sum.inr = some y from hi)
    subst h2
    exact dsp_inj (L := b :: L) (fun i => h (i + 1)) h1
theorem fEx_get {i : Nat} : ∀ {ex : List (Nat × Sh)} {k j : Nat} {h : Sh}, fEx i ex k = some (j, h) → k ≤ j ∧ ex[j - k]? = some (i, h)
  | [], k, j, h, hf => by cases hf
  | (n, h') :: r, k, j, h, hf => by
    unfold fEx at hf
    by_cases e : i = n
    · subst e
      rw [Nat.beq_refl, cond_true] at hf
      have := Option.some.inj hf
      injection this with h1 h2
      subst h1 h2
      exact ⟨Nat.le_refl _, by simp⟩
    · rw [nbeq_f e, cond_false] at hf
      obtain ⟨h1, h2⟩ := fEx_get hf
      exact ⟨by omega, by rw [show j - k = (j - (k + 1)) + 1 by omega]; simpa using h2⟩
section
variable {c : Cx}
theorem in0_ok {bs : List Nat} {w : W} {d : D} (hc : c.ok) (h : Rep1 c w d) (hw : inW0 bs w = true) : d.in1 c.n bs = true := by
  have hasC : ∀ {L : List Nat} {b : Nat}, hasN b L = true → L.contains b = true := by
    intro L b
    induction L with
    | nil => intro h; cases h
    | cons m L ih =>
      intro h
      rw [hasN_c] at h
      by_cases e : b = m
      · subst e; simp
      · rw [nbeq_f e, cond_false] at h
        simp only [List.contains_cons, ih h, Bool.or_true]
  cases w with
  | u τ x =>
    have h1 := h.1
    have h2 := h.2
    cases τ with
    | i k => exact (flat_u (τ := .i k) h2 rfl).inn _ _
    | b => exact (flat_u (τ := .b) h2 rfl).inn _ _
    | s => exact (flat_u (τ := .s) h2 rfl).inn _ _
    | l m t => exact (flat_u (τ := .l m t) h2 rfl).inn _ _
    | fn a r =>
      obtain ⟨f, caps, rfl, h3, _⟩ := fn_d h2
      refine List.all_eq_true.2 fun d hd => ?_
      have := h3 d hd
      cases d with
      | ptr f b o =>
        obtain ⟨x, x1, x2⟩ := this
        have := (hc.fd x x1).1
        rw [x2] at this
        simp [this]
      | v => rfl
      | fptr => rfl
      | _ => exact this.elim
    | _ => cases h1
  | nil => obtain ⟨z, rfl⟩ := h; rfl
  | np => rw [show d = .v (.pointer none) from h]; rfl
  | pt b off => cases b with
    | own b =>
      rw [show d = .ptr c.n b off from h]
      have := hasC (show hasN b bs = true from hw)
      simp only [D.in1, beq_self_eq_true, this, Bool.and_self, Bool.or_true]
    | ext i =>
      obtain ⟨r, h1, rfl⟩ := h
      have := hc.lt r (List.mem_of_getElem? h1)
      simp [D.in1, this]
  | fp ws off => obtain ⟨_, rfl, _⟩ := h; rfl
  | _ => cases hw
theorem in1_ok {bs : List Nat} {w : W} {d : D} (hc : c.ok) (h : Rep2 c w d) (hw : inW1 bs w = true) : d.in1 c.n bs = true := by
  cases w with
  | clo f ws =>
    obtain ⟨cs, rfl, h2, h3⟩ := h
    have key : ∀ {ws : List W} {cs : List D}, All2 (Rep1 c) ws cs → ws.all (inW0 bs) = true → ws.all capW = true → (cs.all fun | .ptr f s _ => decide (f < c.n) || (f == c.n && bs.contains s) | .v _ => true | .fptr _ _ => true | _ => false) = true := fun ha h1 h2 => All2.all_r (fun w d hm q => by
      have k := in0_ok hc q (List.all_eq_true.1 h1 w hm)
      have k2 := List.all_eq_true.1 h2 w hm
      cases w with
      | pt b off => cases b with
        | own b => rw [show d = .ptr c.n b off from q] at k ⊢; exact k
        | ext i => obtain ⟨r, _, rfl⟩ := q; exact k
      | fp => obtain ⟨_, rfl, _⟩ := q; rfl
      | u τ x => cases τ with
        | i k => rw [(i_d q.2).1]
        | b => rw [b_d q.2]
        | s => rw [(s_d q.2).1]
        | _ => cases k2
      | _ => cases k2) ha
    exact key h2 hw h3
  | u τ x => exact in0_ok hc (w := .u τ x) h hw
  | nil => exact in0_ok hc (w := .nil) h hw
  | np => exact in0_ok hc (w := .np) h hw
  | pt b o => exact in0_ok hc (w := .pt b o) h hw
  | fp ws o => exact in0_ok hc (w := .fp ws o) h hw
  | _ => cases hw
theorem in_ok {bs : List Nat} {w : W} {d : D} (hc : c.ok) (h : Rep4 c w d) (hw : inW bs w = true) : d.inn c.n bs = true := by
  cases w with
  | ag ws =>
    obtain ⟨cs, rfl, h2⟩ := h
    exact All2.all_r (fun w d hm q => in1_ok hc q (List.all_eq_true.1 hw w hm)) h2
  | tp => cases hw
  | un => cases hw
  | gd => cases hw
  | _ =>
    have h2 := of3 (of4 h (fun _ q => by cases q)) (fun _ q => by cases q)
    have k : d.in1 c.n bs = true := in1_ok hc h2 (by exact hw)
    rcases ag_d h2 (fun _ q => by cases q) with q | q | q
    · cases q
    · cases q
    rcases tup_d (to3 h2) with q' | q'
    · cases q'
    have : ∀ {d : D}, d.aggB = false → d.tupB = false → d.inn c.n bs = d.in1 c.n bs := fun {d} h h' => by cases d <;> first | rfl | (cases h; done) | (cases h'; done)
    rw [this q q']; exact k
variable {e : Env} {l : Bx} {Y : List (List D)} {s : SU}
theorem fillE_names : ∀ {ks : List (Nat × Kd)} {ws : List W}, (fillE ks ws).1.map (·.1) = ks.map (·.1)
  | [], ws => rfl
  | (n, k) :: r, ws => by simp only [fillE, List.map_cons, fillE_names]
theorem fillB_names : ∀ {ks : List (Nat × List Kd)} {ws : List W}, (fillB ks ws).1.map (·.1) = ks.map (·.1)
  | [], ws => rfl
  | (n, k) :: r, ws => by simp only [fillB, List.map_cons, fillB_names]
theorem getW_mem {t : Nat} : ∀ {E : List (Nat × W)}, t ∈ E.map (·.1) → (t, getW t E) ∈ E
  | [], h => by simp at h
  | (n, w) :: r, h => by
    by_cases e : t = n
    · subst e; simp [getW, Nat.beq_refl]
    · simp only [getW, nbeq_f e, cond_false]
      simp only [List.map_cons, List.mem_cons] at h
      exact List.mem_cons_of_mem _ (getW_mem (h.resolve_left e))
theorem getW_none {t : Nat} : ∀ {E : List (Nat × W)}, t ∉ E.map (·.1) → getW t E = .un
  | [], h => rfl
  | (n, w) :: r, h => by
    simp only [List.map_cons, List.mem_cons, not_or] at h
    simp only [getW, nbeq_f h.1, cond_false]
    exact getW_none h.2
theorem lkW_mem {t : Nat} : ∀ {E : List (Nat × List W)}, t ∈ E.map (·.1) → ∃ ws, lkW t E = some ws ∧ (t, ws) ∈ E
  | [], h => by simp at h
  | (n, w) :: r, h => by
    by_cases e : t = n
    · subst e; exact ⟨w, by simp [lkW, Nat.beq_refl], by simp⟩
    · simp only [List.map_cons, List.mem_cons] at h
      obtain ⟨ws, h1, h2⟩ := lkW_mem (h.resolve_left e)
      exact ⟨ws, by simp only [lkW, nbeq_f e, cond_false]; exact h1, List.mem_cons_of_mem _ h2⟩
theorem lkW_none {t : Nat} : ∀ {E : List (Nat × List W)}, t ∉ E.map (·.1) → lkW t E = none
  | [], h => rfl
  | (n, w) :: r, h => by
    simp only [List.map_cons, List.mem_cons, not_or] at h
    simp only [lkW, nbeq_f h.1, cond_false]
    exact lkW_none h.2
theorem carE_ok {k : Nat} {bs : List Nat} {e : Env} : ∀ {ks : List Nat}, (∀ t ∈ ks, (get t e).inn k bs = true) → ∃ e1, carE k bs e ks = some e1 ∧ ∀ t, get t e1 = if t ∈ ks then get t e else .u
  | [], _ => ⟨[], rfl, fun t => by simp [get]⟩
  | n :: r, h => by
    obtain ⟨e1, h1, h2⟩ := carE_ok fun t ht => h t (List.mem_cons_of_mem _ ht)
    refine ⟨(n, get n e) :: e1, by simp only [carE, if_pos (h n (by simp)), h1, Option.map_some], fun t => ?_⟩
    rw [get_put, h2]
    by_cases e' : t = n
    · subst e'; simp
    · simp [e']
theorem carL_ok {k : Nat} {bs : List Nat} {l : Bx} : ∀ {ks : List Nat}, (∀ t ∈ ks, ∃ ds, lk t l = some ds ∧ ds.all (D.in1 k bs) = true) → ∃ l1, carL k bs l ks = some l1 ∧ ∀ t, lk t l1 = if t ∈ ks then lk t l else none
  | [], _ => ⟨[], rfl, fun t => by simp [lk]⟩
  | n :: r, h => by
    obtain ⟨l1, h1, h2⟩ := carL_ok fun t ht => h t (List.mem_cons_of_mem _ ht)
    obtain ⟨ds, q1, q2⟩ := h n (by simp)
    refine ⟨(n, ds) :: l1, by simp only [carL, q1, if_pos q2, h1, Option.map_some], fun t => ?_⟩
    simp only [lk]
    by_cases e' : t = n
    · subst e'; simp [q1]
    · rw [if_neg e', h2]
      simp [e']
/-- A round's beginning. -/
theorem carry_ok (hc : c.ok) {h : Sh} {x : h.ty.T} (hS : RepS c s e l Y) (hp : h.pack0 s = some x) (hl : lokS h (h.fill x) = true) : ∃ e1 l1, RepS c (h.fill x) e1 l1 Y ∧ ∀ o : List Bx, o.length = c.n → carry (h.ks.map (·.1)) (h.bs.map (·.1)) ⟨e, l, o⟩ = some ⟨e1, l1, o⟩ := by
  obtain ⟨p1, p2, p3, p4, p5⟩ := shp0_ok hS hp
  simp only [lokS, Bool.and_eq_true] at hl
  obtain ⟨⟨l1, l2⟩, l3⟩ := hl
  have ne : (h.fill x).e.map (·.1) = h.ks.map (·.1) := fillE_names
  have nb : (h.fill x).l.map (·.1) = h.bs.map (·.1) := fillB_names
  have env4 : ∀ t ∈ h.ks.map (·.1), Rep4 c (getW t (h.fill x).e) (get t e) ∧ inW (h.bs.map (·.1)) (getW t (h.fill x).e) = true := by
    intro t ht
    rw [← ne] at ht
    have hm := getW_mem ht
    have hi := List.all_eq_true.1 l1 _ hm
    exact ⟨p1 t, hi⟩
  obtain ⟨e1, c1, c2⟩ := carE_ok (k := c.n) (bs := h.bs.map (·.1)) (e := e) (ks := h.ks.map (·.1)) fun t ht => in_ok hc (env4 t ht).1 (env4 t ht).2
  have box4 : ∀ b ∈ h.bs.map (·.1), ∃ ws ds, lkW b (h.fill x).l = some ws ∧ lk b l = some ds ∧ All2 (Rep2 c) ws ds ∧ ds.all (D.in1 c.n (h.bs.map (·.1))) = true := by
    intro b hb
    rw [← nb] at hb
    obtain ⟨ws, h1, h2⟩ := lkW_mem hb
    obtain ⟨ds, h3, h4⟩ := p2 b ws h1
    have hi := List.all_eq_true.1 l2 _ h2
    exact ⟨ws, ds, h1, h3, h4, All2.all_r (fun w d hm q => in1_ok hc q (List.all_eq_true.1 hi w hm)) h4⟩
  obtain ⟨L1, d1, d2⟩ := carL_ok (k := c.n) (bs := h.bs.map (·.1)) (l := l) (ks := h.bs.map (·.1)) fun b hb => by
    obtain ⟨ws, ds, _, q1, _, q2⟩ := box4 b hb
    exact ⟨ds, q1, q2⟩
  refine ⟨e1, L1, ⟨fun t => ?_, fun b ws hb => ?_, fun b hb => ?_, p3, p4, hS.len, hS.ro⟩, fun o ho => ?_⟩
  · rw [c2]
    by_cases ht : t ∈ h.ks.map (·.1)
    · rw [if_pos ht]; exact Rep5_of (env4 t ht).1
    · rw [if_neg ht, getW_none (by rw [ne]; exact ht)]; trivial
  · rw [d2]
    by_cases ht : b ∈ h.bs.map (·.1)
    · rw [if_pos ht]; obtain ⟨ds, q1, q2⟩ := p2 b ws hb; rw [q1]; exact BRep.of q2
    · rw [lkW_none (by rw [nb]; exact ht)] at hb; cases hb
  · rw [d2] at hb
    by_cases ht : b ∈ h.bs.map (·.1)
    · obtain ⟨y, hy, rfl⟩ := List.mem_map.1 ht
      rw [p5]; exact List.all_eq_true.1 l3 y hy
    · rw [if_neg ht] at hb; exact absurd rfl hb
  · simp only [carry, ho, c1, d1]
def Post (c : Cx) (rs : RS) {ρ : Type} (x : Ex) (s' : SU) (K : SU → Option ρ) (E : Nat → SU → Option ρ) (R : rs.sg.oT.T → Option ρ) (ans : ρ) : Prop := match x with
  | .nm => K s' = some ans
  | .ex i => E i s' = some ans
  | .rt => (rs.pack s').bind R = some ans
/-- What code comes to. -/
def CR (c : Cx) (rs : RS) (t : Cd) {ρ : Type} (e : Env) (l : Bx) (Y : List (List D)) (K : SU → Option ρ) (E : Nat → SU → Option ρ) (R : rs.sg.oT.T → Option ρ) (ans : ρ) : Prop :=
  ∃ x s' e' l' Y', RepS c s' e' l' Y' ∧ (∀ B, Fam c B → evC c.P t ⟨e, l, upd c.rg Y B⟩ = some (x, ⟨e', l', upd c.rg Y' B⟩)) ∧ Post c rs x s' K E R ans
theorem exE_ok {X : Type} {L : List Ty} {ex : List (Nat × Sh)} {k : Nat} {w : (XTy L).T → X} {i : Nat} {a : X} (h : exE L ex k w i s = some a) : ∃ j h' γ y, ex[j]? = some (i, h') ∧ h'.pack s = some γ ∧ injX L (j + k) h'.ty γ = some y ∧ w y = a := by
  unfold exE at h
  split at h
  · rename_i j h' hf
    obtain ⟨q1, q2⟩ := fEx_get hf
    obtain ⟨γ, g1, g2⟩ := Option.bind_eq_some_iff.1 h
    obtain ⟨y, g3, g4⟩ := Option.map_eq_some_iff.1 g2
    exact ⟨j, h', γ, y, by simpa using q2, g1, g3, g4⟩
  · cases h
theorem exR_ok {X : Type} {rs : RS} {L : List Ty} {ex : List (Nat × Sh)} {rt : Bool} {k : Nat} {w : (XTy L).T → X} {r : rs.sg.oT.T} {a : X} (h : exR rs L ex rt k w r = some a) : ∃ y, injX L (ex.length + k) rs.sg.oT r = some y ∧ w y = a := by
  unfold exR at h
  cases rt with
  | false => cases h
  | true =>
    obtain ⟨y, g3, g4⟩ := Option.map_eq_some_iff.1 h
    exact ⟨y, g3, g4⟩
theorem exD_ex {ρ : Type} {rs : RS} {ex : List (Nat × Sh)} {E : Nat → SU → Option ρ} {R : rs.sg.oT.T → Option ρ} {j i : Nat} {h : Sh} {γ : h.ty.T} (hj : ex[j]? = some (i, h)) : exD rs ex E R j h.ty γ = E i (h.fill γ) := by
  unfold exD
  rw [hj]
  simp only [castT_id, Option.bind_some]
theorem exD_rt {ρ : Type} {rs : RS} {ex : List (Nat × Sh)} {E : Nat → SU → Option ρ} {R : rs.sg.oT.T → Option ρ} {r : rs.sg.oT.T} : exD rs ex E R ex.length rs.sg.oT r = R r := by
  unfold exD
  rw [List.getElem?_eq_none (Nat.le_refl _)]
  simp only [castT_id, Option.bind_some]
theorem evOps_app {P : Caller} : ∀ {a b : List Stp} {st : S}, evOps P (a ++ b) st = (evOps P a st).bind (evOps P b)
  | [], b, st => rfl
  | p :: a, b, st => by
    simp only [List.cons_append, evOps]
    cases evStp P p st with
    | none => rfl
    | some st => exact evOps_app
/-- Code is what typed values say. -/
theorem evT_ok (hc : c.ok) {T : Tab} (hT : TabOk c.P T) (rs : RS) : ∀ (t : Tc) {ρ : Type} {s : SU} {e : Env} {l : Bx} {Y : List (List D)} {K : SU → Option ρ} {E : Nat → SU → Option ρ} {R : rs.sg.oT.T → Option ρ} {ans : ρ}, RepS c s e l Y → evT T rs t s K E R = some ans → CR c rs t.er e l Y K E R ans := by
  intro t
  induction t with
  | sk => intro ρ s e l Y K E R ans hS h; exact ⟨.nm, s, e, l, Y, hS, fun B hB => rfl, h⟩
  | rg L =>
    intro ρ s e l Y K E R ans hS h
    obtain ⟨s', e', l', Y', h1, h2, h3⟩ := evS_ok hc hT hS h
    exact ⟨.nm, s', e', l', Y', h1, fun B hB => by simp only [Tc.er, evC, h3 B hB, Option.map_some], h2⟩
  | nq L t x ne tl =>
    intro ρ s e l Y K E R ans hS h
    simp only [evT] at h
    obtain ⟨s1, e1, l1, Y1, h1, h2, h3⟩ := evS_ok hc hT hS h
    have hx := rdW_ok h1 (act_nil e1) x
    split at h2
    · rename_i τ xs hq
      rw [hq] at hx
      obtain ⟨hl, es, ha, hd⟩ := flat_cells_l hx
      have key : ∃ q : Bool, evS T tl (putW t (.u .b q) s1) K = some ans ∧ ∀ o, evOp c.P (some t) (.eqn ne x) ⟨e1, l1, o⟩ = some (.v (.bool q), ⟨e1, l1, o⟩) := by
        rcases hd with hd | ⟨he, z, hd⟩
        · refine ⟨ne, ?_, fun o => by simp only [evOp, rd_fst, hd]⟩
          unfold amb at h2
          split at h2
          · split at h2
            · rename_i hf
              cases ne with
              | true => exact h2
              | false => rw [hf] at h2; exact h2
            · cases h2
          · exact h2
        · refine ⟨!ne, ?_, fun o => by simp only [evOp, rd_fst, hd]⟩
          subst he
          obtain rfl := ha.nil_r
          unfold amb at h2
          simp only [List.isEmpty_nil, if_true] at h2
          split at h2
          · rename_i hf
            cases ne with
            | true => rw [hf] at h2; exact h2
            | false => exact h2
          · cases h2
      obtain ⟨q, k1, k2⟩ := key
      have hput : RepS c (putW t (.u .b q) s1) ((t, .v (.bool q)) :: e1) l1 Y1 := h1.put (show Rep4 c (.u .b q) (.v (.bool q)) from ⟨rfl, rfl⟩)
      obtain ⟨s', e', l', Y', g1, g2, g3⟩ := evS_ok hc hT hput k1
      refine ⟨.nm, s', e', l', Y', g1, fun B hB => ?_, g2⟩
      simp only [Tc.er, evC, evOps_app, h3 B hB, Option.bind_some, evOps, evStp, k2, Option.map_some]
      rw [show Ev.putO (some t) (D.v (Value.bool q)) ⟨e1, l1, upd c.rg Y1 B⟩ = ⟨(t, .v (.bool q)) :: e1, l1, upd c.rg Y1 B⟩ from rfl, g3 B hB]
      rfl
    · cases h2
  | dr L =>
    intro ρ s e l Y K E R ans hS h
    obtain ⟨s', e', l', Y', h1, h2, h3⟩ := evD_ok hc hT hS h
    exact ⟨.nm, s', e', l', Y', h1, fun B hB => by simp only [Tc.er, evC, h3 B hB [] trivial, Option.map_some], h2⟩
  | drt L tl =>
    intro ρ s e l Y K E R ans hS h
    obtain ⟨s1, e1, l1, Y1, h1, h2, h3⟩ := evD_ok hc hT hS h
    obtain ⟨s', e', l', Y', k1, k2, k3⟩ := evS_ok hc hT h1 h2
    exact ⟨.nm, s', e', l', Y', k1, fun B hB => by simp only [Tc.er, evC, h3 B hB [] trivial, Option.bind_some, k3 B hB, Option.map_some], k2⟩
  | ex i => intro ρ s e l Y K E R ans hS h; exact ⟨.ex i, s, e, l, Y, hS, fun B hB => rfl, h⟩
  | rt => intro ρ s e l Y K E R ans hS h; exact ⟨.rt, s, e, l, Y, hS, fun B hB => rfl, h⟩
  | sq a b iha ihb =>
    intro ρ s e l Y K E R ans hS h
    obtain ⟨x, s1, e1, l1, Y1, h1, h2, h3⟩ := iha hS h
    cases x with
    | nm =>
      obtain ⟨x, s2, e2, l2, Y2, k1, k2, k3⟩ := ihb h1 h3
      exact ⟨x, s2, e2, l2, Y2, k1, fun B hB => by simp only [Tc.er, evC, h2 B hB, k2 B hB], k3⟩
    | ex i => exact ⟨.ex i, s1, e1, l1, Y1, h1, fun B hB => by simp only [Tc.er, evC, h2 B hB], h3⟩
    | rt => exact ⟨.rt, s1, e1, l1, Y1, h1, fun B hB => by simp only [Tc.er, evC, h2 B hB], h3⟩
  | ff x a b iha ihb =>
    intro ρ s e l Y K E R ans hS h
    have hx := rdW_ok hS (act_nil e) x
    simp only [evT] at h
    split at h
    · rename_i q hq
      rw [hq] at hx
      have hd : rdE e x = .v (.bool q) := b_d hx.2
      cases q with
      | true =>
        rw [if_pos rfl] at h
        obtain ⟨x', s1, e1, l1, Y1, h1, h2, h3⟩ := iha hS h
        exact ⟨x', s1, e1, l1, Y1, h1, fun B hB => by simp only [Tc.er, evC, rd_fst, hd, if_true, h2 B hB], h3⟩
      | false =>
        rw [if_neg (by simp)] at h
        obtain ⟨x', s1, e1, l1, Y1, h1, h2, h3⟩ := ihb hS h
        exact ⟨x', s1, e1, l1, Y1, h1, fun B hB => by simp only [Tc.er, evC, rd_fst, hd, Bool.false_eq_true, if_false, h2 B hB], h3⟩
    · cases h
  | bl id a iha =>
    intro ρ s e l Y K E R ans hS h
    obtain ⟨x, s1, e1, l1, Y1, h1, h2, h3⟩ := iha hS h
    cases x with
    | nm => exact ⟨.nm, s1, e1, l1, Y1, h1, fun B hB => by simp only [Tc.er, evC, h2 B hB], h3⟩
    | rt => exact ⟨.rt, s1, e1, l1, Y1, h1, fun B hB => by simp only [Tc.er, evC, h2 B hB], h3⟩
    | ex i =>
      have h3 : (bif Nat.beq i id then K s1 else E i s1) = some ans := h3
      by_cases e : i = id
      · subst e
        rw [Nat.beq_refl, cond_true] at h3
        exact ⟨.nm, s1, e1, l1, Y1, h1, fun B hB => by simp only [Tc.er, evC, h2 B hB, if_true], h3⟩
      · rw [nbeq_f e, cond_false] at h3
        exact ⟨.ex i, s1, e1, l1, Y1, h1, fun B hB => by simp only [Tc.er, evC, h2 B hB, if_neg e], h3⟩
  | gs L a iha =>
    intro ρ s e l Y K E R ans hS h
    simp only [evT] at h
    obtain ⟨s1, e1, l1, g1, g3, g2⟩ := evGs_ok hc hS h
    obtain ⟨x, s2, e2, l2, Y2, k1, k2, k3⟩ := iha g1 g3
    exact ⟨x, s2, e2, l2, Y2, k1, fun B hB => by simp only [Tc.er, evC, g2 _ (fam_len hB Y), k2 B hB], k3⟩
  | jn h0 ex rt a iha =>
    intro ρ s e l Y K E R ans hS h
    simp only [evT] at h
    obtain ⟨y, g1, g2⟩ := Option.bind_eq_some_iff.1 h
    obtain ⟨x, s1, e1, l1, Y1, h1, h2, h3⟩ := iha hS g1
    cases x with
    | nm =>
      obtain ⟨γ, p1, p2⟩ := Option.bind_eq_some_iff.1 h3
      rw [dsp_inj _ p2] at g2
      simp only [castT_id, Option.bind_some] at g2
      exact ⟨.nm, _, e1, l1, Y1, shp_ok h1 p1, h2, g2⟩
    | ex i =>
      obtain ⟨j, h', γ, z, j1, j2, j3, j4⟩ := exE_ok h3
      have j4 : z = y := j4
      subst j4
      rw [dsp_inj _ j3] at g2
      have g2 : exD rs ex E R j h'.ty γ = some ans := g2
      rw [exD_ex j1] at g2
      exact ⟨.ex i, _, e1, l1, Y1, shp_ok h1 j2, h2, g2⟩
    | rt =>
      obtain ⟨r, r1, r2⟩ := Option.bind_eq_some_iff.1 h3
      obtain ⟨z, j3, j4⟩ := exR_ok r2
      have j4 : z = y := j4
      subst j4
      rw [dsp_inj _ j3] at g2
      have g2 : exD rs ex E R ex.length rs.sg.oT r = some ans := g2
      rw [exD_rt] at g2
      exact ⟨.rt, s1, e1, l1, Y1, h1, h2, by show (rs.pack s1).bind R = some ans; rw [r1]; exact g2⟩
  | lp h0 ex rt a iha =>
    intro ρ s e l Y K E R ans hS h
    simp only [evT] at h
    split at h
    · cases h
    · rename_i x0 hx0
      obtain ⟨y, g1, g2⟩ := Option.bind_eq_some_iff.1 h
      obtain ⟨n, hn⟩ := lim_ex g1
      clear h g1
      have key : ∀ (n : Nat) {s : SU} {e : Env} {l : Bx} {Y : List (List D)} {x0 : h0.ty.T}, RepS c s e l Y → h0.pack0 s = some x0 →
          itU (fun x => bif !(lokS h0 (h0.fill x)) then none else evT T rs a (h0.fill x) (fun s' => (h0.pack0 s').map Sum.inl) (exE (exTys rs ex rt) ex 0 Sum.inr) (exR rs (exTys rs ex rt) ex rt 0 Sum.inr)) n x0 = some y →
          ∃ x s' e' l' Y', RepS c s' e' l' Y' ∧ (∀ B, Fam c B → evC c.P (Tc.lp h0 ex rt a).er ⟨e, l, upd c.rg Y B⟩ = some (x, ⟨e', l', upd c.rg Y' B⟩)) ∧
            (match x with
              | .nm => False
              | .ex i => ∃ j h' γ, ex[j]? = some (i, h') ∧ h'.pack s' = some γ ∧ injX (exTys rs ex rt) j h'.ty γ = some y
              | .rt => ∃ r, rs.pack s' = some r ∧ injX (exTys rs ex rt) ex.length rs.sg.oT r = some y) := by
        intro n
        induction n with
        | zero => intro s e l Y x0 _ _ h; cases h
        | succ n ih =>
          intro s e l Y x0 hS hp h
          simp only [itU] at h
          cases hl : lokS h0 (h0.fill x0) with
          | false => rw [hl] at h; cases h
          | true =>
            obtain ⟨e1, l1, c1, c2⟩ := carry_ok hc hS hp hl
            simp only [hl, Bool.not_true, cond_false] at h
            split at h
            · cases h
            · rename_i x1 hb
              obtain ⟨x, s2, e2, l2, Y2, h1, h2, h3⟩ := iha c1 hb
              have step : ∀ B, Fam c B → evC c.P (Tc.lp h0 ex rt a).er ⟨e, l, upd c.rg Y B⟩ = match x with
                  | .nm => evC c.P (Tc.lp h0 ex rt a).er ⟨e2, l2, upd c.rg Y2 B⟩
                  | x => some (x, ⟨e2, l2, upd c.rg Y2 B⟩) := fun B hB => by
                simp only [Tc.er]
                rw [evC_lp, c2 _ (fam_len hB Y)]
                simp only [h2 B hB]
                cases x <;> rfl
              cases x with
              | nm =>
                obtain ⟨γ, p1, p2⟩ := Option.map_eq_some_iff.1 h3
                injection p2 with p2
                subst p2
                obtain ⟨x, s3, e3, l3, Y3, k1, k2, k3⟩ := ih h1 p1 h
                exact ⟨x, s3, e3, l3, Y3, k1, fun B hB => (step B hB).trans (k2 B hB), k3⟩
              | ex i => obtain ⟨j, h', γ, z, j1, j2, j3, j4⟩ := exE_ok h3; exact absurd j4 (by simp)
              | rt =>
                obtain ⟨r, r1, r2⟩ := Option.bind_eq_some_iff.1 h3
                obtain ⟨z, j3, j4⟩ := exR_ok r2
                exact absurd j4 (by simp)
            · rename_i x1 hb
              have := Option.some.inj h
              subst this
              obtain ⟨x, s2, e2, l2, Y2, h1, h2, h3⟩ := iha c1 hb
              have step : ∀ B, Fam c B → x ≠ .nm → evC c.P (Tc.lp h0 ex rt a).er ⟨e, l, upd c.rg Y B⟩ = some (x, ⟨e2, l2, upd c.rg Y2 B⟩) := fun B hB hx => by
                simp only [Tc.er]
                rw [evC_lp, c2 _ (fam_len hB Y)]
                simp only [h2 B hB]
                all_goals (cases x <;> first | rfl | exact absurd rfl hx)
              cases x with
              | nm => obtain ⟨γ, p1, p2⟩ := Option.map_eq_some_iff.1 h3; first | (cases p2; done) | skip
              | ex i =>
                obtain ⟨j, h', γ, z, j1, j2, j3, j4⟩ := exE_ok h3
                injection j4 with j4
                subst j4
                exact ⟨.ex i, s2, e2, l2, Y2, h1, fun B hB => step B hB (by simp), j, h', γ, j1, j2, j3⟩
              | rt =>
                obtain ⟨r, r1, r2⟩ := Option.bind_eq_some_iff.1 h3
                obtain ⟨z, j3, j4⟩ := exR_ok r2
                injection j4 with j4
                subst j4
                exact ⟨.rt, s2, e2, l2, Y2, h1, fun B hB => step B hB (by simp), r, r1, j3⟩
      obtain ⟨x, s2, e2, l2, Y2, k1, k2, k3⟩ := key n hS hx0 hn
      cases x with
      | nm => exact k3.elim
      | ex i =>
        obtain ⟨j, h', γ, j1, j2, j3⟩ := k3
        rw [dsp_inj _ j3, exD_ex j1] at g2
        exact ⟨.ex i, _, e2, l2, Y2, shp_ok k1 j2, k2, g2⟩
      | rt =>
        obtain ⟨r, r1, j3⟩ := k3
        rw [dsp_inj _ j3, exD_rt] at g2
        exact ⟨.rt, s2, e2, l2, Y2, k1, k2, by show (rs.pack s2).bind R = some ans; rw [r1]; exact g2⟩
end
end Go.Proofs.Ytmbhpchkhilheaa.Ev.U
namespace Go.Proofs.Ytmbhpchkhilheaa.Ev.U
open Go
section
variable {c : Cx} {e : Env} {l : Bx} {Y : List (List D)} {s : SU}
theorem tabOk_nil {P : Caller} : TabOk P (fun _ => none) := fun k tf h => by cases h
theorem resLW_ok (hc : c.ok) : ∀ {rs : List Res} {s : SU} {e : Env} {l : Bx} {Y : List (List D)} {q : List W × SU}, RepS c s e l Y → resLW rs s = some q → ∃ ds e' l' Y', RepS c q.2 e' l' Y' ∧ All2 (Rep4 c) q.1 ds ∧ ∀ B, Fam c B → resL c.P rs ⟨e, l, upd c.rg Y B⟩ = some (ds, ⟨e', l', upd c.rg Y' B⟩)
  | [], s, e, l, Y, q, hS, h => by
    have := Option.some.inj h
    subst this
    exact ⟨[], e, l, Y, hS, trivial, fun B hB => rfl⟩
  | .t n :: r, s, e, l, Y, q, hS, h => by
    simp only [resLW] at h
    obtain ⟨q1, h1, h2⟩ := Option.map_eq_some_iff.1 h
    subst h2
    obtain ⟨ds, e', l', Y', g1, g2, g3⟩ := resLW_ok hc (rdW_st hS (.m n)) h1
    refine ⟨rdE e (.m n) :: ds, e', l', Y', g1, ⟨rdW_ok hS (act_nil e) (.m n), g2⟩, fun B hB => ?_⟩
    have g3 := g3 B hB
    simp only [resL, res1, Option.bind_some, rd_fst, rd_snd, g3, Option.map_some]
  | .c n k :: r, s, e, l, Y, q, hS, h => by
    simp only [resLW] at h
    split at h
    · rename_i w s1 hw
      obtain ⟨q1, h1, h2⟩ := Option.map_eq_some_iff.1 h
      subst h2
      obtain ⟨d, e1, l1, Y1, k1, k2, k3⟩ := opLdm (T := fun _ => none) (a := .n) (t := none) hc hS (show (evOpW _ [] none .n (.ldm k (.t n)) s).out (some (w, s1)) from by rw [hw]; rfl)
      obtain ⟨ds, e', l', Y', g1, g2, g3⟩ := resLW_ok hc k1 h1
      refine ⟨d :: ds, e', l', Y', g1, ⟨k2, g2⟩, fun B hB => ?_⟩
      simp only [resL, res1, k3 B hB, Option.bind_some, g3 B hB, Option.map_some]
    · cases h
theorem okR_flat {w : W} {d : D} (h : Rep4 c w d) (hw : w.okR = true) : Flat d := by
  cases w with
  | u τ x =>
    have h1 := h.1
    have h2 := h.2
    cases τ with
    | i k => exact flat_u h2 rfl
    | b => exact flat_u (τ := .b) h2 rfl
    | s => exact flat_u (τ := .s) h2 rfl
    | l m t => exact flat_u h2 rfl
    | fn a r => cases hw
    | _ => cases h1
  | nil => obtain ⟨z, rfl⟩ := h; exact flat_sl
  | _ => cases hw
theorem okR2_ok {w : W} {d : D} (h : Rep4 c w d) (hw : w.okR2 = true) : (∀ k l, d.frz2 k l = d) ∧ (∀ k, d.bnd2 k = true) ∧ Rep3 c w d := by
  cases w with
  | ag ws =>
    obtain ⟨cs, rfl, h2⟩ := h
    have key : ∀ {ws : List W} {cs : List D}, All2 (Rep2 c) ws cs → ws.all W.okR = true → (∀ k l, cs.map (D.frz1 k l) = cs) ∧ ∀ k, cs.all (D.bnd1 k) = true := by
      intro ws
      induction ws with
      | nil => intro cs h _; obtain rfl := h.nil_l; exact ⟨fun _ _ => rfl, fun _ => rfl⟩
      | cons w ws ih =>
        intro cs h hk
        obtain ⟨d, q, rfl, a1, a2⟩ := h.cons_l
        simp only [List.all_cons, Bool.and_eq_true] at hk
        have f := okR_flat (to4x2 a1) hk.1
        obtain ⟨i1, i2⟩ := ih a2 hk.2
        exact ⟨fun k l => by simp only [List.map_cons, f.frz, i1], fun k => by simp only [List.all_cons, f.bnd, i2, Bool.and_self]⟩
    obtain ⟨k1, k2⟩ := key h2 hw
    exact ⟨fun k l => by simp only [D.frz2, k1], k2, cs, rfl, h2⟩
  | u τ x =>
    have f := okR_flat h hw
    have e1 : ∀ {d : D}, d.aggB = false → (∀ k l, d.frz2 k l = d.frz1 k l) ∧ ∀ k, d.bnd2 k = d.bnd1 k := fun {d} h => by cases d <;> first | exact ⟨fun _ _ => rfl, fun _ => rfl⟩ | cases h
    obtain ⟨k1, k2⟩ := e1 f.agg
    exact ⟨fun k l => by rw [k1, f.frz], fun k => by rw [k2, f.bnd], h⟩
  | nil =>
    have f := okR_flat h hw
    have e1 : ∀ {d : D}, d.aggB = false → (∀ k l, d.frz2 k l = d.frz1 k l) ∧ ∀ k, d.bnd2 k = d.bnd1 k := fun {d} h => by cases d <;> first | exact ⟨fun _ _ => rfl, fun _ => rfl⟩ | cases h
    obtain ⟨k1, k2⟩ := e1 f.agg
    exact ⟨fun k l => by rw [k1, f.frz], fun k => by rw [k2, f.bnd], h⟩
  | _ => cases hw
/-- What a function hands out, typed. -/
theorem out_ok {r : Ty} {L : List Ty} {w : W} {ws : List W} {d : D} {ds : List D} {y : (oTy r L).T} (h : outT r L w ws = some y) (hr : r.fo = true) (hL : L = [] ∨ (tyOf L).fo = true) (hd : Rep4 c w d) (hds : All2 (Rep4 c) ws ds) :
    Rep4 (c0 c.P) (outW r L y).1 d ∧ (L ≠ [] → All2 (Rep3 (c0 c.P)) (outW r L y).2 ds) := by
  have one : ∀ {r : Ty} {y : r.T}, r.fo = true → resT r w = some y → Rep4 (c0 c.P) (resW r y) d := fun hr h => by
    obtain ⟨k1, q, k2, k3⟩ := resT_ok h hd
    exact resW_ok (c := c0 c.P) k1 ⟨q, k2, RepL.fo hr k3⟩
  have rows : ∀ {L : List Ty} {z : (tyOf L).T}, (tyOf L).fo = true → tupT (tyOf L) ws = some z → All2 (Rep3 (c0 c.P)) (tupW (tyOf L) z) ds := fun hf h => by
    obtain ⟨k1, k2⟩ := tupT_ok h hds
    exact tupW_ok (c := c0 c.P) k1 (RepL.fo hf k2)
  cases L with
  | nil => cases r <;> exact ⟨one hr h, fun q => absurd rfl q⟩
  | cons a L =>
    have hf : (tyOf (a :: L)).fo = true := hL.resolve_left (by simp)
    cases r with
    | n =>
      obtain ⟨u, h1, h2⟩ := Option.bind_eq_some_iff.1 (show (resT .n w).bind (fun _ => tupT (tyOf (a :: L)) ws) = some y from h)
      exact ⟨one (r := .n) rfl h1, fun _ => rows hf h2⟩
    | t p q =>
      obtain ⟨x, h1, h2⟩ := Option.bind_eq_some_iff.1 (show (resT (.t p q) w).bind (fun x => (tupT (tyOf (a :: L)) ws).map fun y => (x, y)) = some y from h)
      obtain ⟨z, h3, h4⟩ := Option.map_eq_some_iff.1 h2
      subst h4
      exact ⟨one hr h1, fun _ => rows hf h3⟩
    | i k =>
      obtain ⟨x, h1, h2⟩ := Option.bind_eq_some_iff.1 (show (resT (.i k) w).bind (fun x => (tupT (tyOf (a :: L)) ws).map fun y => (x, y)) = some y from h)
      obtain ⟨z, h3, h4⟩ := Option.map_eq_some_iff.1 h2
      subst h4
      exact ⟨one hr h1, fun _ => rows hf h3⟩
    | b =>
      obtain ⟨x, h1, h2⟩ := Option.bind_eq_some_iff.1 (show (resT .b w).bind (fun x => (tupT (tyOf (a :: L)) ws).map fun y => (x, y)) = some y from h)
      obtain ⟨z, h3, h4⟩ := Option.map_eq_some_iff.1 h2
      subst h4
      exact ⟨one (r := .b) hr h1, fun _ => rows hf h3⟩
    | s =>
      obtain ⟨x, h1, h2⟩ := Option.bind_eq_some_iff.1 (show (resT .s w).bind (fun x => (tupT (tyOf (a :: L)) ws).map fun y => (x, y)) = some y from h)
      obtain ⟨z, h3, h4⟩ := Option.map_eq_some_iff.1 h2
      subst h4
      exact ⟨one (r := .s) hr h1, fun _ => rows hf h3⟩
    | l m q =>
      obtain ⟨x, h1, h2⟩ := Option.bind_eq_some_iff.1 (show (resT (.l m q) w).bind (fun x => (tupT (tyOf (a :: L)) ws).map fun y => (x, y)) = some y from h)
      obtain ⟨z, h3, h4⟩ := Option.map_eq_some_iff.1 h2
      subst h4
      exact ⟨one hr h1, fun _ => rows hf h3⟩
    | p p q =>
      obtain ⟨x, h1, h2⟩ := Option.bind_eq_some_iff.1 (show (resT (.p p q) w).bind (fun x => (tupT (tyOf (a :: L)) ws).map fun y => (x, y)) = some y from h)
      obtain ⟨z, h3, h4⟩ := Option.map_eq_some_iff.1 h2
      subst h4
      exact ⟨one hr h1, fun _ => rows hf h3⟩
    | g q =>
      obtain ⟨x, h1, h2⟩ := Option.bind_eq_some_iff.1 (show (resT (.g q) w).bind (fun x => (tupT (tyOf (a :: L)) ws).map fun y => (x, y)) = some y from h)
      obtain ⟨z, h3, h4⟩ := Option.map_eq_some_iff.1 h2
      subst h4
      exact ⟨one hr h1, fun _ => rows hf h3⟩
    | o p q =>
      obtain ⟨x, h1, h2⟩ := Option.bind_eq_some_iff.1 (show (resT (.o p q) w).bind (fun x => (tupT (tyOf (a :: L)) ws).map fun y => (x, y)) = some y from h)
      obtain ⟨z, h3, h4⟩ := Option.map_eq_some_iff.1 h2
      subst h4
      exact ⟨one hr h1, fun _ => rows hf h3⟩
    | fn p q => cases hr
/-- What the pointers lead to in the end. -/
theorem rows_ok : ∀ {ak : List AK} {ws : List W} {ds : List D} {rg : List Rg} {Y0 : List (List D)} {xs : List (List W)} {Y : List (List D)}, ArgL c ak ws ds rg Y0 → All2 (All2 (Rep2 c)) xs Y → (∀ (i : Nat) r ys, rg[i]? = some r → Y[i]? = some ys → ys.length = r.z) → Y.length = rg.length →
    ∃ dx, All2 (Rep4 c) (RS.pack.xRows ak xs) dx ∧ ∀ {os : List W} {P : Caller}, os.all W.pf1 = true → All2 (Rep3 (c0 P)) os dx → OutL (c0 P) ak os Y
  | [], ws, ds, rg, Y0, xs, Y, ha, hx, hl, hn => by
    cases ws <;> cases ds <;> cases rg <;> cases Y0 <;> first | exact ha.elim | skip
    cases Y with
    | cons => simp at hn
    | nil =>
      refine ⟨[], by cases xs <;> exact trivial, fun {os P} hp h => ?_⟩
      obtain rfl := h.nil_r
      trivial
  | .v τ :: ak, ws, ds, rg, Y0, xs, Y, ha, hx, hl, hn => by
    cases ws with
    | nil => cases ds <;> cases rg <;> cases Y0 <;> exact ha.elim
    | cons w ws => cases ds with
      | nil => cases rg <;> cases Y0 <;> exact ha.elim
      | cons d ds =>
        have ha' : ArgL c ak ws ds rg Y0 := by cases rg <;> cases Y0 <;> exact ha.2
        obtain ⟨dx, h1, h2⟩ := rows_ok ha' hx hl hn
        exact ⟨dx, by cases xs <;> exact h1, fun {os P} hp h => by cases os <;> cases Y <;> exact h2 hp h⟩
  | .x τ :: ak, ws, ds, rg, Y0, xs, Y, ha, hx, hl, hn => by
    cases ws with
    | nil => cases ds <;> cases rg <;> cases Y0 <;> exact ha.elim
    | cons w ws => cases ds with
      | nil => cases rg <;> cases Y0 <;> exact ha.elim
      | cons d ds => cases rg with
        | nil => cases Y0 <;> exact ha.elim
        | cons g rg => cases Y0 with
          | nil => exact ha.elim
          | cons y0 Y0 => cases Y with
            | nil => simp at hn
            | cons y Y => cases xs with
              | nil => exact hx.elim
              | cons x xs =>
                obtain ⟨⟨a1, a2, a3, a4, a5⟩, a6⟩ := ha
                obtain ⟨dx, h1, h2⟩ := rows_ok a6 hx.2 (fun i r ys p q => hl (i + 1) r ys (by simpa using p) (by simpa using q)) (by simpa using hn)
                refine ⟨.agg y :: dx, ⟨⟨y, rfl, hx.1⟩, h1⟩, fun {os P} hp h => ?_⟩
                cases os with
                | nil => exact h.elim
                | cons o os =>
                  simp only [List.all_cons, Bool.and_eq_true] at hp
                  refine ⟨⟨by rw [hl 0 g y rfl rfl]; exact a3, ?_⟩, h2 hp.2 h.2⟩
                  have := h.1
                  have hp := hp.1
                  cases o with
                  | ag cs => obtain ⟨q, q1, q2⟩ := this; injection q1 with q1; subst q1; exact q2
                  | u τ x => have h2 := this.2; have h1 := this.1; cases τ with
                    | i k => cases (i_d h2).1
                    | b => cases b_d h2
                    | s => cases (s_d h2).1
                    | l m t => obtain ⟨_, es, _, q | ⟨_, z, q⟩⟩ := l_d h2 <;> cases q
                    | fn a r => obtain ⟨f, cs, q, _⟩ := fn_d h2; cases q
                    | _ => cases h1
                  | nil => obtain ⟨z, q⟩ := this; cases q
                  | _ => cases hp
  | .o τ :: ak, ws, ds, rg, Y0, xs, Y, ha, hx, hl, hn => by
    cases ws with
    | nil => cases ds <;> cases rg <;> cases Y0 <;> exact ha.elim
    | cons w ws => cases ds with
      | nil => cases rg <;> cases Y0 <;> exact ha.elim
      | cons d ds => cases rg with
        | nil => cases Y0 <;> exact ha.elim
        | cons g rg => cases Y0 with
          | nil => exact ha.elim
          | cons y0 Y0 => cases Y with
            | nil => simp at hn
            | cons y Y => cases xs with
              | nil => exact hx.elim
              | cons x xs =>
                obtain ⟨⟨a1, a2, a3, a4, a5⟩, a6⟩ := ha
                obtain ⟨dx, h1, h2⟩ := rows_ok a6 hx.2 (fun i r ys p q => hl (i + 1) r ys (by simpa using p) (by simpa using q)) (by simpa using hn)
                exact ⟨dx, h1, fun {os P} hp h => by cases os <;> exact h2 hp h⟩
theorem su0_ok {c : Cx} : ∀ {ak : List AK} {ws : List W} {ds : List D} {rg0 rg : List Rg} {Y : List (List D)} {i : Nat}, c.rg = rg0 ++ rg → ArgL c ak ws ds rg Y →
    (∀ t, Rep4 c (getW t (su0 ak ws i rg0.length).1) (get t (argE i ds))) ∧ All2 (All2 (Rep2 c)) (su0 ak ws i rg0.length).2 Y ∧ wrs ak = rg.map Rg.w ∧ Y.length = rg.length
  | [], ws, ds, rg0, rg, Y, i, hrg, ha => by
    cases ws <;> cases ds <;> cases rg <;> cases Y <;> first | exact ha.elim | exact ⟨fun t => trivial, trivial, rfl, rfl⟩
  | a :: ak, [], ds, rg0, rg, Y, i, hrg, ha => by cases a <;> cases ds <;> cases rg <;> cases Y <;> exact ha.elim
  | a :: ak, w :: ws, [], rg0, rg, Y, i, hrg, ha => by cases a <;> cases rg <;> cases Y <;> exact ha.elim
  | .v τ :: ak, w :: ws, d :: ds, rg0, rg, Y, i, hrg, ha => by
    have ha1 : Rep3 c w d ∧ ArgL c ak ws ds rg Y := by cases rg <;> cases Y <;> exact ha
    obtain ⟨i1, i2, i3, i4⟩ := su0_ok (i := i + 1) hrg ha1.2
    refine ⟨fun t => ?_, i2, i3, i4⟩
    simp only [su0, argE, get_put]
    by_cases e : t = i
    · subst e
      simp only [getW, Nat.beq_refl, cond_true, if_true]
      exact to4 ha1.1
    · simp only [getW, nbeq_f e, cond_false, if_neg e]
      exact i1 t
  | .x τ :: ak, w :: ws, d :: ds, rg0, [], Y, i, hrg, ha => by cases Y <;> exact ha.elim
  | .x τ :: ak, w :: ws, d :: ds, rg0, g :: rg, [], i, hrg, ha => ha.elim
  | .x τ :: ak, w :: ws, d :: ds, rg0, g :: rg, y :: Y, i, hrg, ha => by
    obtain ⟨⟨a1, a2, a3, a4, a5⟩, a6⟩ := ha
    obtain ⟨i1, i2, i3, i4⟩ := su0_ok (rg0 := rg0 ++ [g]) (i := i + 1) (by rw [hrg]; simp) a6
    simp only [List.length_append, List.length_cons, List.length_nil, Nat.zero_add] at i1 i2
    refine ⟨fun t => ?_, ⟨a5, i2⟩, by simp only [wrs, List.map_cons, i3, a1], by simp [i4]⟩
    simp only [su0, argE, get_put]
    by_cases e : t = i
    · subst e
      simp only [getW, Nat.beq_refl, cond_true, if_true]
      exact ⟨g, by rw [hrg]; simp, a2⟩
    · simp only [getW, nbeq_f e, cond_false, if_neg e]
      exact i1 t
  | .o τ :: ak, w :: ws, d :: ds, rg0, [], Y, i, hrg, ha => by cases Y <;> exact ha.elim
  | .o τ :: ak, w :: ws, d :: ds, rg0, g :: rg, [], i, hrg, ha => ha.elim
  | .o τ :: ak, w :: ws, d :: ds, rg0, g :: rg, y :: Y, i, hrg, ha => by
    obtain ⟨⟨a1, a2, a3, a4, a5⟩, a6⟩ := ha
    obtain ⟨i1, i2, i3, i4⟩ := su0_ok (rg0 := rg0 ++ [g]) (i := i + 1) (by rw [hrg]; simp) a6
    simp only [List.length_append, List.length_cons, List.length_nil, Nat.zero_add] at i1 i2
    refine ⟨fun t => ?_, ⟨a5, i2⟩, by simp only [wrs, List.map_cons, i3, a1], by simp [i4]⟩
    simp only [su0, argE, get_put]
    by_cases e : t = i
    · subst e
      simp only [getW, Nat.beq_refl, cond_true, if_true]
      exact ⟨g, by rw [hrg]; simp, a2⟩
    · simp only [getW, nbeq_f e, cond_false, if_neg e]
      exact i1 t
theorem args_flat {c : Cx} : ∀ {ak : List AK} {ws : List W} {ds : List D} {rg : List Rg} {Y : List (List D)}, ArgL c ak ws ds rg Y → ws.all W.pf1 = true → ds.length = ak.length ∧ ds.all (fun d => !d.tupB) = true
  | [], ws, ds, rg, Y, ha, hp => by
    cases ws <;> cases ds <;> cases rg <;> cases Y <;> first | exact ha.elim | exact ⟨rfl, rfl⟩
  | a :: ak, [], ds, rg, Y, ha, hp => by cases a <;> cases ds <;> cases rg <;> cases Y <;> exact ha.elim
  | a :: ak, w :: ws, [], rg, Y, ha, hp => by cases a <;> cases rg <;> cases Y <;> exact ha.elim
  | .v τ :: ak, w :: ws, d :: ds, rg, Y, ha, hp => by
    have ha1 : Rep3 c w d ∧ ArgL c ak ws ds rg Y := by cases rg <;> cases Y <;> exact ha
    simp only [List.all_cons, Bool.and_eq_true] at hp
    obtain ⟨i1, i2⟩ := args_flat ha1.2 hp.2
    refine ⟨by simp [i1], ?_⟩
    rcases tup_d ha1.1 with q | q
    · subst q; cases hp.1
    · simp [q, i2]
  | .x τ :: ak, w :: ws, d :: ds, [], Y, ha, hp => by cases Y <;> exact ha.elim
  | .x τ :: ak, w :: ws, d :: ds, g :: rg, [], ha, hp => ha.elim
  | .x τ :: ak, w :: ws, d :: ds, g :: rg, y :: Y, ha, hp => by
    simp only [List.all_cons, Bool.and_eq_true] at hp
    obtain ⟨i1, i2⟩ := args_flat ha.2 hp.2
    rw [ha.1.2.1]
    exact ⟨by simp [i1], by simp only [List.all_cons, i2]; rfl⟩
  | .o τ :: ak, w :: ws, d :: ds, [], Y, ha, hp => by cases Y <;> exact ha.elim
  | .o τ :: ak, w :: ws, d :: ds, g :: rg, [], ha, hp => ha.elim
  | .o τ :: ak, w :: ws, d :: ds, g :: rg, y :: Y, ha, hp => by
    simp only [List.all_cons, Bool.and_eq_true] at hp
    obtain ⟨i1, i2⟩ := args_flat ha.2 hp.2
    rw [ha.1.2.1]
    exact ⟨by simp [i1], by simp only [List.all_cons, i2]; rfl⟩
theorem xsOf_fo : ∀ {ak : List AK}, (ak.all fun | .v τ => τ.val | .x r => r.rowk && r.fo | .o r => r.rowk && r.fo) = true → ∀ τ ∈ xsOf ak, τ.fo = true
  | [], _, τ, h => by cases h
  | .v _ :: ak, hk, τ, h => by
    simp only [List.all_cons, Bool.and_eq_true] at hk
    exact xsOf_fo (ak := ak) hk.2 τ h
  | .o _ :: ak, hk, τ, h => by
    simp only [List.all_cons, Bool.and_eq_true] at hk
    exact xsOf_fo (ak := ak) hk.2 τ h
  | .x r :: ak, hk, τ, h => by
    simp only [List.all_cons, Bool.and_eq_true] at hk
    rcases List.mem_cons.1 h with rfl | h
    · exact hk.1.2
    · exact xsOf_fo (ak := ak) hk.2 τ h
/-- A function whose code is typed. -/
theorem tok_of {pg : Nat → Option Fn} {k : Nat} {F : Fn} {T : Tab} {sg : Sg} {t : Tc} {tf : TF} (hp : pg k = some F) (hsg : tf.sg = sg) (hT : TabOk (EF pg) T) (hF : F.rnd = none ∧ F.body = t.er ∧ sg.ak.length ≤ F.nt) (hok : sg.ok = true)
    (hf : ∀ (x : tf.sg.aT.T) y, tf.f x = some y → evFn T ⟨F.res, F.keep, tf.sg⟩ t x = some y) : TOK (EF pg) k tf := by
  subst hsg
  intro F0 n rg K Y hc hK x ds harg y hy
  have hev := hf x y hy
  let c : Cx := ⟨EF pg, F0, n, rg, K⟩
  have hlen := ArgL_len harg
  have hpf : (argWs tf.sg x).all W.pf1 = true := by
    unfold argWs
    split
    · rfl
    · exact pf_tup _ _
  obtain ⟨s1, s2, s3, s4⟩ := su0_ok (c := c) (rg0 := []) (rg := rg) (i := 0) rfl harg
  obtain ⟨d1, d2⟩ := args_flat harg hpf
  have hY : ∀ (i : Nat) r ys, rg[i]? = some r → Y[i]? = some ys → ys.length = r.z ∧ (r.w = false → ys = K i) := fun i r ys a b => by
    obtain ⟨y', y1, y2⟩ := hlen i r a
    rw [b] at y1
    have := Option.some.inj y1
    subst this
    exact ⟨y2, hK i r ys a b⟩
  have hS : RepS c ⟨(su0 tf.sg.ak (argWs tf.sg x) 0 0).1, [], [], (su0 tf.sg.ak (argWs tf.sg x) 0 0).2, wrs tf.sg.ak⟩ (argE 0 ds) [] Y :=
    ⟨fun t => Rep5_of (s1 t), (fun b ws h => by cases h), (fun b h => absurd rfl h), s2, s3, s4, hY⟩
  have hev : evT T ⟨F.res, F.keep, tf.sg⟩ t ⟨(su0 tf.sg.ak (argWs tf.sg x) 0 0).1, [], [], (su0 tf.sg.ak (argWs tf.sg x) 0 0).2, wrs tf.sg.ak⟩ (RS.pack ⟨F.res, F.keep, tf.sg⟩) (fun _ _ => none) some = some y := hev
  obtain ⟨xx, s', e', l', Y', g1, g2, g3⟩ := evT_ok (c := c) hc hT _ t hS hev
  have hpack : RS.pack ⟨F.res, F.keep, tf.sg⟩ s' = some y := by
    cases xx with
    | nm => exact g3
    | ex i => cases g3
    | rt =>
      have g3 : (RS.pack ⟨F.res, F.keep, tf.sg⟩ s').bind some = some y := g3
      simpa using g3
  have hxx : ∀ i, xx ≠ .ex i := fun i h => by subst h; cases g3
  unfold RS.pack at hpack
  obtain ⟨q, q1, q2⟩ := Option.bind_eq_some_iff.1 hpack
  by_cases hall : q.1.all W.okR2 = true
  · have q2 : (if q.1.all W.okR2 = true then outT tf.sg.res (xsOf tf.sg.ak) (if F.keep = true then mkResW q.1 else (mkResW q.1).strip) (RS.pack.xRows tf.sg.ak q.2.x) else none) = some y := q2
    rw [if_pos hall] at q2
    obtain ⟨dr, e2, l2, Y2, r1, r2, r3⟩ := resLW_ok hc g1 q1
    have hres : (∀ k l, dr.map (D.frz2 k l) = dr) ∧ (∀ k, dr.all (D.bnd2 k) = true) ∧ All2 (Rep3 c) q.1 dr := by
      have : ∀ {ws : List W} {ds : List D}, All2 (Rep4 c) ws ds → ws.all W.okR2 = true → (∀ k l, ds.map (D.frz2 k l) = ds) ∧ (∀ k, ds.all (D.bnd2 k) = true) ∧ All2 (Rep3 c) ws ds := by
        intro ws
        induction ws with
        | nil => intro ds h _; obtain rfl := h.nil_l; exact ⟨fun _ _ => rfl, fun _ => rfl, trivial⟩
        | cons w ws ih =>
          intro ds h hk
          obtain ⟨d, q, rfl, a1, a2⟩ := h.cons_l
          simp only [List.all_cons, Bool.and_eq_true] at hk
          obtain ⟨k1, k2, k3⟩ := okR2_ok a1 hk.1
          obtain ⟨i1, i2, i3⟩ := ih a2 hk.2
          exact ⟨fun k l => by simp only [List.map_cons, k1, i1], fun k => by simp only [List.all_cons, k2, i2, Bool.and_self], k3, i3⟩
      exact this r2 hall
    obtain ⟨f1, f2, f3⟩ := hres
    have hmk : Rep4 c (mkResW q.1) (mkRes dr) := by
      have : ∀ {ws : List W} {ds : List D}, All2 (Rep3 c) ws ds → Rep4 c (mkResW ws) (mkRes ds) := by
        intro ws ds h
        match ws, ds, h with
        | [], [], h => exact ⟨[], rfl, trivial⟩
        | [w], [d], h => exact to4 h.1
        | w :: w2 :: ws, d :: d2 :: ds, h => exact ⟨_, rfl, h⟩
        | [], _ :: _, h => exact h.elim
        | [_], [], h => exact h.elim
        | [_], _ :: _ :: _, h => exact h.2.elim
        | _ :: _ :: _, [], h => exact h.elim
        | _ :: _ :: _, [_], h => exact h.2.elim
      exact this f3
    have hfin : Rep4 c (if F.keep then mkResW q.1 else (mkResW q.1).strip) (if F.keep then mkRes dr else (mkRes dr).strip) := by
      cases F.keep
      · exact strip_ok hmk
      · exact hmk
    obtain ⟨dx, x1, x2⟩ := rows_ok (c := c) harg r1.ext (fun i r ys a b => (r1.ro i r ys a b).1) r1.len
    have hok' := hok
    simp only [Sg.ok, Bool.and_eq_true] at hok'
    obtain ⟨o1, o2⟩ := out_ok (c := c) q2 hok'.1.1 (by
      cases hx : xsOf tf.sg.ak with
      | nil => exact .inl rfl
      | cons a L => exact .inr (fo_tyOf fun τ hτ => xsOf_fo hok'.2 τ (by rw [hx]; exact hτ))) hfin x1
    refine ⟨if F.keep then mkRes dr else (mkRes dr).strip, Y2, o1, ?_, fun B hB hat => ?_⟩
    · by_cases hx : xsOf tf.sg.ak = []
      · have hw : (outW tf.sg.res (xsOf tf.sg.ak) y).2 = [] := by
          have : ∀ {r : Ty} {L : List Ty} {y : (oTy r L).T}, L = [] → (outW r L y).2 = [] := by
            intro r L y h; subst h; cases r <;> rfl
          exact this hx
        have hdx : dx = [] := by
          have : ∀ {ak : List AK} {xs : List (List W)}, xsOf ak = [] → RS.pack.xRows ak xs = [] := by
            intro ak
            induction ak with
            | nil => intro xs _; cases xs <;> rfl
            | cons a ak ih =>
              intro xs h
              cases a with
              | v τ => cases xs <;> exact ih h
              | o τ => cases xs with
                | nil => rfl
                | cons x xs => exact ih h
              | x τ => cases h
          rw [this hx] at x1
          exact x1.nil_l
        rw [hw]
        exact x2 rfl (by rw [hdx]; trivial)
      · exact x2 (pf_out _ _ _).2 (o2 hx)
    · have hB' : Fam c B := hB
      have hid : upd rg Y B = B := upd_id fun i r ys a b _ => hat i r ys a b
      rw [EF_eq]
      unfold runF
      rw [hp]
      simp only [hF.1]
      rw [if_pos ⟨by rw [d1]; exact hF.2.2, d2⟩, hF.2.1]
      have g2 := g2 B hB'
      rw [show upd c.rg Y B = B from hid] at g2
      rw [g2]
      have r3 := r3 B hB'
      have fin : (resL (EF pg) F.res ⟨e', l', upd c.rg Y' B⟩).bind (fun a => if (a.1.map (D.frz2 B.length a.2.l)).all (D.bnd2 B.length) = true then some (if F.keep = true then mkRes (a.1.map (D.frz2 B.length a.2.l)) else (mkRes (a.1.map (D.frz2 B.length a.2.l))).strip, a.2.o) else none) = some (if F.keep then mkRes dr else (mkRes dr).strip, upd rg Y2 B) := by
        rw [r3]
        simp only [Option.bind_some, f1, f2, if_true]
      cases xx with
      | nm => exact fin
      | ex i => exact absurd rfl (hxx i)
      | rt => exact fin
  · have q2 : (if q.1.all W.okR2 = true then outT tf.sg.res (xsOf tf.sg.ak) (if F.keep = true then mkResW q.1 else (mkResW q.1).strip) (RS.pack.xRows tf.sg.ak q.2.x) else none) = some y := q2
    rw [if_neg hall] at q2
    cases q2
end
end Go.Proofs.Ytmbhpchkhilheaa.Ev.U
namespace Go.Proofs.Ytmbhpchkhilheaa.Ev.U
open Go
abbrev u_ (t : Nat) (op : Op) : TStp := ⟨some t, none, op, .n⟩
abbrev un_ (op : Op) : TStp := ⟨none, none, op, .n⟩
abbrev ug_ (q : Nat) (w : Bool) (t : Nat) (op : Op) : TStp := ⟨some t, some (q, w), op, .n⟩
def tabU : List (Nat × TF) → Tab
  | [], _ => none
  | (k, tf) :: r, n => bif Nat.beq n k then some tf else tabU r n
theorem tabU_nil {P : Caller} : TabOk P (tabU []) := fun k tf h => by cases h
theorem tabU_cons {P : Caller} {k : Nat} {tf : TF} {l : List (Nat × TF)} (h : TOK P k tf) (hl : TabOk P (tabU l)) : TabOk P (tabU ((k, tf) :: l)) := fun n t hn => by
  simp only [tabU] at hn
  by_cases e : n = k
  · subst e
    rw [Nat.beq_refl, cond_true] at hn
    have := Option.some.inj hn
    subst this
    exact h
  · rw [nbeq_f e, cond_false] at hn
    exact hl n t hn
/-- A loop's one equation. -/
theorem lpU_eq {σ ξ : Type} (body : σ → Option (σ ⊕ ξ)) (s : σ) : lpU body s = match body s with
    | none => none
    | some (.inl s') => lpU body s'
    | some (.inr x) => some x := by
  have hm : ∀ (s : σ) (n : Nat) (r : ξ), itU body n s = some r → itU body (n + 1) s = some r := by
    intro s n
    induction n generalizing s with
    | zero => intro r h; cases h
    | succ n ih =>
      intro r h
      unfold itU at h ⊢
      cases hb : body s with
      | none => rw [hb] at h; cases h
      | some q =>
        rw [hb] at h
        cases q with
        | inl s' => exact ih s' r h
        | inr x => exact h
  have a : ∀ r, lpU body s = some r → (match body s with
    | none => none
    | some (.inl s') => lpU body s'
    | some (.inr x) => some x) = some r := by
    intro r h
    obtain ⟨n, hn⟩ := lim_ex h
    cases n with
    | zero => cases hn
    | succ n =>
      unfold itU at hn
      cases hb : body s with
      | none => rw [hb] at hn; cases hn
      | some q =>
        rw [hb] at hn
        cases q with
        | inl s' => exact lim_eq (hm s') hn
        | inr x => exact hn
  have b : ∀ r, (match body s with
    | none => none
    | some (.inl s') => lpU body s'
    | some (.inr x) => some x) = some r → lpU body s = some r := by
    intro r h
    cases hb : body s with
    | none => rw [hb] at h; cases h
    | some q =>
      rw [hb] at h
      cases q with
      | inl s' =>
        obtain ⟨n, hn⟩ := lim_ex (show lpU body s' = some r from h)
        exact lim_eq (hm s) (n := n + 1) (by unfold itU; rw [hb]; exact hn)
      | inr x => exact lim_eq (hm s) (n := 1) (by unfold itU; rw [hb]; exact h)
  cases h : lpU body s with
  | some r => exact (a r h).symm
  | none =>
    generalize hR : (match body s with
      | none => none
      | some (.inl s') => lpU body s'
      | some (.inr x) => some x) = R
    cases R with
    | none => rfl
    | some r => rw [b r hR] at h; cases h
end Go.Proofs.Ytmbhpchkhilheaa.Ev.U
