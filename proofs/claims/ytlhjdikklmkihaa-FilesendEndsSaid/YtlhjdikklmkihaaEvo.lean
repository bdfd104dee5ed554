/- A list of one's own in a variable of a frame below becomes a variable for a while. Conditions: none. -/
import Derived.Test.YtlhjdikklmkihaaEv2
set_option linter.all false
namespace Go.Proofs.Ytlhjdikklmkihaa.Ev
open Go
variable {P : Program}
section
variable {g : G} {w : World} {n : Nat} {tmps : Array Value} {s s' : S}
theorem slot_ne {f b i c i' c' : Nat} {t' : Nat} (h : t' ≠ b) : slotL f t' i' c' ≠ slotL f b i c := fun e => by injection e with _ _ e; exact h e
theorem ths_ok (h : SN g w n tmps s) {t id : Nat} (hRL' : id < RL) (he : evG1 (.ths t id) s = some s') : ∃ g', SN g' w n tmps s' ∧ Ext s.k g w g' w ∧ s'.k = s.k := by
 simp only [evG1] at he
 split at he
 ·rename_i z xs hc
  split at he
  ·rename_i hcond
   obtain ⟨hid0, hall⟩ := hcond
   have hid : lk id s.l = none := by simpa using hid0
   injection he with he
   subst he
   have ht := h.st.e t
   rw [hc, RT_ne rfl, RV_ne rfl] at ht
   obtain ⟨B, off, cap, cur, e, val, hx, q2, q3, q4, q5, q6, q7, q7', q8, q9, q10⟩ := (show Own g w (slotL s.k t 0 0) (tmps.getD t undef) .mu z xs from ht)
   obtain rfl := q7' rfl
   rw [Nat.zero_add] at q5
   have hi := h.st.inv
   have hnone : g.bx s.k id = none := by
    cases hq : g.bx s.k id with
    | none => rfl
    | some B' =>
     have := h.st.sb.dom s.k id (by rw [hq]; rfl)
     simp only [bxl, S.B, S.k] at this
     simp [hid] at this
   have hK : ∀ ℓ, ℓ ≠ slotL s.k t 0 0 -> Keep g w ℓ (g.shr B s.k id) w ℓ := fun ℓ hℓ => ⟨fun _ _ _ => rfl, fun _ => Nat.le_refl _, fun f s1 b' h => by
    show (if _ then _ else _) = _
    rw [if_neg fun e => by rw [e.1, e.2, hnone] at h; cases h]; exact h, fun b' hb' => by
    have e : b' ≠ B := fun e => by rw [e, q6] at hb'; injection hb' with hb'; exact hℓ hb'.symm
    exact ⟨by show (if _ then _ else _) = _; rw [if_neg e]; exact hb', rfl, rfl⟩, Gr.refl _⟩
   have hBx : ∀ f' b', bxl (⟨(t, .ref s.o.length id 0 xs.length z) :: s.e, ins id (xs.flatMap D.cells) s.l, s.o⟩ : S).B f' b' = if f' = s.k ∧ b' = id then some (xs.flatMap D.cells) else bxl s.B f' b' := fun f' b' =>
    B_new (t := id) (ds := xs.flatMap D.cells) s hid f' b'
   obtain ⟨vs, hel, hcells⟩ := row_of q8 q9 q10
   have hfl : (xs.flatMap D.cells).length = xs.length * z := flat_len q8
   refine ⟨g.shr B s.k id, ⟨⟨⟨hi.base, fun b' hb' => ?_, fun f s1 b' hb' => ?_, fun f1 s1 f2 s2 b' e1 e2 => ?_, fun b' ℓ hb' => ?_, hi.cells, hi.dm, fun b' hb' => ?_⟩, ⟨fun f b' ds' hds => ?_, fun f b' hd => ?_, fun f b' ds' d hds hd => ?_⟩, fun t' => ?_⟩, h.size⟩, ⟨rfl, rfl, rfl, rfl, Nat.le_refl _, fun _ _ => rfl, fun _ => Nat.le_refl _, fun _ _ _ => rfl, eqb (fun f s' hf => ?_), fun b' ℓ hb' h0 hk => (hK ℓ fun e => by subst e; simp [slotL] at hk).tk b' hb', fun _ h => h, Gr.refl _⟩, rfl⟩
   ·have := hi.fresh b' hb'
    refine ⟨this.1, ?_⟩
    show (if _ then _ else _) = _
    split
    ·rfl
    ·exact this.2
   ·have hb2 : (if f = s.k ∧ s1 = id then some B else g.bx f s1) = some b' := hb'
    split at hb2
    ·injection hb2 with hb2
     subst hb2
     exact ⟨hi.tk _ _ q6, getq_lt' q2, q7, if_pos rfl⟩
    ·obtain ⟨a1, a2, a3, a4⟩ := hi.box f s1 b' hb2
     refine ⟨a1, a2, a3, ?_⟩
     show (if _ then _ else _) = _
     split
     ·rfl
     ·exact a4
   ·have e1' : (if f1 = s.k ∧ s1 = id then some B else g.bx f1 s1) = some b' := e1
    have e2' : (if f2 = s.k ∧ s2 = id then some B else g.bx f2 s2) = some b' := e2
    split at e1' <;> split at e2'
    ·rename_i r1 r2; exact ⟨r1.1.trans r2.1.symm, r1.2.trans r2.2.symm⟩
    ·injection e1' with e1'; subst e1'; have := (hi.box _ _ _ e2').2.2.2; rw [q6] at this; cases this
    ·injection e2' with e2'; subst e2'; have := (hi.box _ _ _ e1').2.2.2; rw [q6] at this; cases this
    ·exact hi.inj _ _ _ _ _ e1' e2'
   ·have hb2 : (if b' = B then none else g.tk b') = some ℓ := hb'
    split at hb2
    ·cases hb2
    ·exact hi.tk _ _ hb2
   ·show (if _ then _ else _) = _
    split
    ·rfl
    ·exact hi.dt b' hb'
   ·rw [hBx] at hds
    split at hds
    ·rename_i e
     obtain ⟨rfl, rfl⟩ := e
     injection hds with hds
     subst hds
     refine .inl ⟨hRL', B, cur, e, if_pos ⟨rfl, rfl⟩, q2, by rw [hfl]; exact Nat.le_trans (Nat.mul_le_mul_right z q3) q5, fun c' d hc' => ?_⟩
     obtain ⟨v, r1, r2⟩ := hel.flat c' d hc'
     refine ⟨v, ?_, (RF.toRC _ (show RF w g.fr v d from r2)).keep (hK _ fun e => slot_box e.symm)⟩
     have := hcells c' v r1
     simpa [World.cell?, q2] using this
    ·exact (h.st.sb.rel f b' ds' hds).keep (fun c' => hK _ fun e => slot_box e.symm) fun _ _ => rfl
   ·rw [hBx]
    split
    ·rfl
    ·rename_i r1
     have hd' : (if f = s.k ∧ b' = id then some B else g.bx f b').isSome = true := hd
     rw [if_neg r1] at hd'
     exact h.st.sb.dom f b' hd'
   ·rw [hBx] at hds
    split at hds
    ·rename_i e
     injection hds with hds
     subst hds
     obtain ⟨x, hx, hd⟩ := List.mem_flatMap.1 hd
     exact rf1_bnd (List.all_eq_true.1 (List.all_eq_true.1 hall x hx) d hd)
    ·exact h.st.sb.bnd _ _ _ _ hds hd
   ·show RT _ _ (slotL s.k t') _ (get t' ((t, _) :: s.e))
    simp only [get]
    split
    ·rename_i e
     subst e
     exact (show RC _ w (slotL s.k t' 0 0) _ (.ref s.k id 0 xs.length z) from ⟨hRL', B, cap, 0, if_pos ⟨rfl, rfl⟩, hx, q3, q4, .inr rfl, fun o ho => by
      have h1 : o < cur.size := Nat.lt_of_lt_of_le ho q5
      simp [World.cell?, q2, h1]⟩)
    ·rename_i e
     exact (h.st.e t').keep fun i c' => hK _ (slot_ne e)
   ·show (if _ then _ else _) = _
    rw [if_neg fun e => by omega]
  ·cases he
 ·injection he with he; subst he; exact ⟨g, h, Ext.refl _ _ _, rfl⟩
def G.kl (g : G) (k id blk : Nat) (ℓ : Loc) : G := { g with bx := fun f s => if f = k ∧ s = id then none else g.bx f s, tk := fun b => if b = blk then some ℓ else g.tk b }
structure KlH (g : G) (w : World) (k id blk : Nat) : Prop where
 inv : Inv g w
 bx : g.bx k id = some blk
 RLid : id < RL
variable {k id blk : Nat} {ℓ0 : Loc}
theorem KlH.keep (h : KlH g w k id blk) {f b B : Nat} (hb : g.bx f b = some B) (hne : ¬ (f = k ∧ b = id)) : (g.kl k id blk ℓ0).bx f b = some B := by
 show (if _ then _ else _) = _
 rw [if_neg hne]; exact hb
theorem KlH.tk (h : KlH g w k id blk) {b : Nat} {ℓ : Loc} (hb : g.tk b = some ℓ) : (g.kl k id blk ℓ0).tk b = some ℓ ∧ (g.kl k id blk ℓ0).fr b = g.fr b ∧ w.heap[b]? = w.heap[b]? := by
 refine ⟨?_, rfl, rfl⟩
 show (if _ then _ else _) = _
 rw [if_neg fun e => by rw [e, (h.inv.box _ _ _ h.bx).2.2.2] at hb; cases hb]; exact hb
theorem RP.kl (h : KlH g w k id blk) {x : Value} {d : D} (hr : RP g w x d) (hd : d.toV k id = false) : RP (g.kl k id blk ℓ0) w x d := by
 cases d with
 | v y => exact hr
 | ptr f s off =>
  obtain ⟨h0, b, h1, h2⟩ := hr
  exact ⟨h0, b, h.keep h1 fun q => by simp [D.toV, q] at hd, h2⟩
 | fptr cs off => exact hr
 | _ => exact hr.elim
theorem RC.kl (h : KlH g w k id blk) {ℓ : Loc} {x : Value} {d : D} (hr : RC g w ℓ x d) : RC (g.kl k id blk ℓ0) w ℓ x (d.kl1 k id) := by
 cases d with
 | u => trivial
 | v y => exact hr
 | sl m z xs => cases m with
  | nl => exact hr
  | ro => exact hr
  | app => exact Own.ext (show Own g w ℓ x .app z xs from hr) (fun _ _ _ => rfl) (fun _ => Nat.le_refl _) fun b hb => h.tk hb
  | mu => exact Own.ext (show Own g w ℓ x .mu z xs from hr) (fun _ _ _ => rfl) (fun _ => Nat.le_refl _) fun b hb => h.tk hb
 | ptr f s off =>
  show RC _ _ _ _ (if _ then _ else _)
  split
  ·trivial
  ·rename_i hne
   obtain ⟨h0, b, h1, h2⟩ := (show RP g w x (.ptr f s off) from hr)
   exact (show RP _ w x (.ptr f s off) from ⟨h0, b, h.keep h1 hne, h2⟩)
 | fptr cs off => exact hr
 | ref f s off m z =>
  show RC _ _ _ _ (if _ then _ else _)
  split
  ·trivial
  ·rename_i hne
   obtain ⟨h0, B, cap, off', h1, h2, h3, h4, h5, h6⟩ := hr
   exact ⟨h0, B, cap, off', h.keep h1 hne, h2, h3, h4, h5, h6⟩
 | clo fn caps =>
  obtain ⟨h0, vs, h1, h2, h3⟩ := hr
  show RC _ _ _ _ (if _ then _ else _)
  split
  ·trivial
  ·rename_i hne
   refine ⟨h0, vs, h1, h2, fun j c hj => ?_⟩
   obtain ⟨y, q3, q4⟩ := h3 j c hj
   refine ⟨y, q3, q4.kl h ?_⟩
   cases hv : c.toV k id with
   | false => rfl
   | true => exact absurd (List.any_eq_true.2 ⟨c, List.mem_of_getElem? hj, hv⟩) hne
 | yld f b =>
  obtain ⟨h0, l, h1, h2⟩ := hr
  exact ⟨h0, l, h.keep h1 fun q => by have := h.RLid; omega, h2⟩
 | _ => exact hr.elim
theorem klP_ne {d : D} (h : d.aggB = false) : (d.klP k id).aggB = false := by
 cases d with
 | ptr f b off => simp only [D.klP]; split <;> rfl
 | ref f b off n z => simp only [D.klP]; split <;> rfl
 | agg cs => cases h
 | _ => rfl
theorem kl1_ne {d : D} (h : d.aggB = false) : (d.kl1 k id).aggB = false := by
 cases d with
 | clo fn caps => simp only [D.kl1]; split <;> rfl
 | agg cs => cases h
 | _ => exact klP_ne (k := k) (id := id) h
theorem klP_tup {d : D} (h : d.tupB = false) : (d.klP k id).tupB = false := by
 cases d with
 | ptr f b off => simp only [D.klP]; split <;> rfl
 | ref f b off n z => simp only [D.klP]; split <;> rfl
 | tup cs => cases h
 | _ => rfl
theorem kl1_tup {d : D} (h : d.tupB = false) : (d.kl1 k id).tupB = false := by
 cases d with
 | clo fn caps => simp only [D.kl1]; split <;> rfl
 | tup cs => cases h
 | _ => exact klP_tup (k := k) (id := id) h
theorem kl2_ne {d : D} (h : d.aggB = false) : d.kl2 k id = d.kl1 k id := by cases d <;> first | rfl | cases h
theorem kl3_ne {d : D} (h : d.tupB = false) : d.kl3 k id = d.kl2 k id := by cases d <;> first | rfl | cases h
theorem kl2_tup {d : D} (h : d.tupB = false) : (d.kl2 k id).tupB = false := by
 rcases agg_or d with ⟨ds, rfl⟩ | hd
 ·rfl
 ·rw [kl2_ne hd]; exact kl1_tup h
theorem RV.kl (h : KlH g w k id blk) {L : Nat -> Loc} {x : Value} {d : D} (hr : RV g w L x d) : RV (g.kl k id blk ℓ0) w L x (d.kl2 k id) := by
 rcases agg_or d with ⟨ds, rfl⟩ | hd
 ·obtain ⟨vs, h1, h2, h3⟩ := hr
  refine ⟨vs, h1, by simpa using h2, fun c e hc => ?_⟩
  rw [List.getElem?_map] at hc
  obtain ⟨e0, q1, q2⟩ := Option.map_eq_some_iff.1 hc
  subst q2
  obtain ⟨y, q3, q4⟩ := h3 c e0 q1
  exact ⟨y, q3, q4.kl h⟩
 ·rw [RV_ne hd] at hr
  rw [kl2_ne hd, RV_ne (kl1_ne hd)]
  exact hr.kl h
theorem RT.kl (h : KlH g w k id blk) {L : Nat -> Nat -> Loc} {x : Value} {d : D} (hr : RT g w L x d) : RT (g.kl k id blk ℓ0) w L x (d.kl3 k id) := by
 rcases tup_or d with ⟨ds, rfl⟩ | hd
 ·obtain ⟨vs, h1, h2, h3⟩ := hr
  refine ⟨vs, h1, by simpa using h2, fun c e hc => ?_⟩
  rw [List.getElem?_map] at hc
  obtain ⟨e0, q1, q2⟩ := Option.map_eq_some_iff.1 hc
  subst q2
  obtain ⟨y, q3, q4⟩ := h3 c e0 q1
  exact ⟨y, q3, q4.kl h⟩
 ·rw [RT_ne hd] at hr
  rw [kl3_ne hd, RT_ne (kl2_tup hd)]
  exact hr.kl h
theorem kl1_low {d : D} (h : d.bnd1 k = true) : d.kl1 k id = d := by
 cases d with
 | ptr f b off =>
  have : f < k := by simpa [D.bnd1] using h
  show (if _ then _ else _) = _; rw [if_neg (by omega)]
 | ref f b off n z =>
  have : f < k := by simpa [D.bnd1] using h
  show (if _ then _ else _) = _; rw [if_neg (by omega)]
 | clo fn caps =>
  show (if _ then _ else _) = _
  rw [if_neg]
  intro hv
  obtain ⟨c, hc, hv⟩ := List.any_eq_true.1 hv
  have := List.all_eq_true.1 (show caps.all _ = true from h) c hc
  cases c with
  | ptr f s off =>
   have h1 : f < k := by simpa using this
   simp [D.toV] at hv
   omega
  | _ => cases hv
 | _ => rfl
theorem klP_bnd {d : D} {k' : Nat} (h : d.bnd1 k' = true) : (d.klP k id).bnd1 k' = true := by
 cases d with
 | ptr f b off => simp only [D.klP]; split <;> first | rfl | exact h
 | ref f b off n z => simp only [D.klP]; split <;> first | rfl | exact h
 | _ => exact h
theorem kl1_bnd {d : D} {k' : Nat} (h : d.bnd1 k' = true) : (d.kl1 k id).bnd1 k' = true := by
 cases d with
 | clo fn caps => simp only [D.kl1]; split <;> first | rfl | exact h
 | _ => exact klP_bnd (k := k) (id := id) h
theorem lk_kl {b : Nat} {l : Bx} : lk b (klL k id l) = (lk b l).map fun ds => ds.map (D.kl1 k id) := by
 unfold klL
 induction l with
 | nil => rfl
 | cons p r ih =>
  obtain ⟨c, ds⟩ := p
  simp only [List.map_cons, lk]
  split
  ·rfl
  ·exact ih
theorem get_kl {t : Nat} {e : Env} : get t (klE k id e) = (get t e).kl3 k id := by
 unfold klE
 induction e with
 | nil => rfl
 | cons p r ih =>
  obtain ⟨c, d⟩ := p
  simp only [List.map_cons, get]
  split
  ·rfl
  ·exact ih
theorem own_back (h : SN g w n tmps s) {id m z : Nat} {cs : List D} (hRL : id < RL) (hb : lk id s.l = some cs) (hall : cs.all D.rf1 = true) (hm : m * z = cs.length) {ℓ : Loc} {x : Value} (hx : RC g w ℓ x (.ref s.k id 0 m z)) :
  ∃ blk, KlH g w s.k id blk ∧ g.fr blk = 0 ∧ blk < w.heap.size ∧ g.base <= blk ∧ g.dm blk = false ∧ ∀ ℓ0, RC (g.kl s.k id blk ℓ0) w ℓ0 x (.sl .mu z (chunks z m cs)) := by
 have hB : bxl s.B s.k id = some cs := by simp only [bxl, S.B, S.k]; simpa using hb
 obtain ⟨blk, vs, et, h1, h2, h3, h4⟩ := (h.st.sb.rel _ _ _ hB).c hRL
 obtain ⟨h0, B, cap, off', r1, r2, r3, r4, r5, r6⟩ := hx
 rw [h1] at r1
 injection r1 with r1
 subst r1
 have ho : off' = 0 := by omega
 subst ho
 have hi := h.st.inv
 obtain ⟨a1, a2, a3, a4⟩ := hi.box _ _ _ h1
 have hsz : cap * z <= vs.size := by
  rcases Nat.eq_zero_or_pos (cap * z) with e | e
  ·omega
  ·have := r6 (cap * z - 1) (by omega)
   simp only [World.cell?, h2, Nat.zero_add] at this
   have : cap * z - 1 < vs.size := by simpa using this
   omega
 have hch := chunks_ok (z := z) (n := m) (cs := cs) hall (by omega)
 have hl := chunks_len z m cs
 have hval : ∀ (i : Nat) d (j : Nat) c, (chunks z m cs)[i]? = some d -> d.cells[j]? = some c -> ∃ y, vs[i * z + j]? = some y ∧ RF w g.fr y c := fun i d j c hi' hj => by
  have q := (hch i d hi').2 j c hj
  obtain ⟨y, u1, u2⟩ := h4 _ c q
  exact ⟨y, u1, RC.toRF u2 (List.all_eq_true.1 hall c (List.mem_of_getElem? q))⟩
 refine ⟨blk, ⟨hi, h1, hRL⟩, a3, a2, a1, hi.mkc h2, fun ℓ0 => ?_⟩
 generalize chunks z m cs = xs at hch hl hval
 subst hl
 refine (show Own _ w ℓ0 x .mu z xs from ⟨blk, 0, cap, vs, et, fun i j => vs.getD (i * z + j) undef, r2, h2, r3, r4, by omega, if_pos rfl, a3, fun _ => rfl, fun i d hi' => (hch i d hi').1, fun i d j c hi' hj => ?_, fun i d j c hi' hj => ?_⟩)
 ·obtain ⟨y, u1, u2⟩ := hval i d j c hi' hj
  simp [World.cell?, h2, u1, Array.getD_eq_getD_getElem?]
 ·obtain ⟨y, u1, u2⟩ := hval i d j c hi' hj
  have : vs.getD (i * z + j) undef = y := by rw [Array.getD_eq_getD_getElem?, u1]; rfl
  show RF w g.fr (vs.getD (i * z + j) undef) c
  rw [this]; exact u2
theorem kl_inv (h : SN g w n tmps s) {id blk : Nat} (H : KlH g w s.k id blk) (ℓ0 : Loc) (hfr : g.fr blk = 0) (hlt : blk < w.heap.size) (hbase : g.base <= blk) (hdm : g.dm blk = false) (h0 : ℓ0.f = s.k ∨ ℓ0.k ≠ 0) :
  Inv (g.kl s.k id blk ℓ0) w ∧ Ext s.k g w (g.kl s.k id blk ℓ0) w := by
 have hi := h.st.inv
 refine ⟨⟨hi.base, fun b hb' => ?_, fun f s1 b hb' => ?_, fun f1 s1 f2 s2 b e1 e2 => ?_, fun b ℓ hb => ?_, hi.cells, hi.dm, fun b hb => ?_⟩, ⟨rfl, rfl, rfl, rfl, Nat.le_refl _, fun _ _ => rfl, fun _ => Nat.le_refl _, fun _ _ _ => rfl, eqb (fun f s1 hf => ?_), fun b ℓ hb' h0 hk => H.tk hb', fun _ h => h, Gr.refl _⟩⟩
 ·have := hi.fresh b hb'
  refine ⟨this.1, ?_⟩
  show (if _ then _ else _) = _
  rw [if_neg (by omega)]; exact this.2
 ·have hb2 : (if f = s.k ∧ s1 = id then none else g.bx f s1) = some b := hb'
  split at hb2
  ·cases hb2
  ·rename_i hne
   obtain ⟨a1, a2, a3, a4⟩ := hi.box f s1 b hb2
   refine ⟨a1, a2, a3, ?_⟩
   show (if _ then _ else _) = _
   rw [if_neg fun e => by subst e; exact hne (hi.inj _ _ _ _ _ hb2 H.bx)]; exact a4
 ·have e1' : (if f1 = s.k ∧ s1 = id then none else g.bx f1 s1) = some b := e1
  have e2' : (if f2 = s.k ∧ s2 = id then none else g.bx f2 s2) = some b := e2
  split at e1' <;> split at e2' <;> first | cases e1' | cases e2' | exact hi.inj _ _ _ _ _ e1' e2'
 ·have hb2 : (if b = blk then some ℓ0 else g.tk b) = some ℓ := hb
  split at hb2
  ·rename_i e; rw [e]; exact hbase
  ·exact hi.tk _ _ hb2
 ·have hb' : g.dm b = true := hb
  show (if _ then _ else _) = _
  rw [if_neg fun e => by rw [e, hdm] at hb'; cases hb']; exact hi.dt b hb'
 ·show (if _ then _ else _) = _
  rw [if_neg fun e => by omega]
theorem kl_up (h : SN g w n tmps s) {f b : Nat} (hb : (g.bx f b).isSome) : f <= s.k := by
 obtain ⟨blk, hblk⟩ := Option.isSome_iff_exists.1 hb
 have := h.boxlt (a := ⟨tmps, []⟩) hblk
 omega
theorem kl_rb (h : SN g w n tmps s) {id blk : Nat} (H : KlH g w s.k id blk) (ℓ0 : Loc) {f b : Nat} {ds : List D} (hds : bxl s.B f b = some ds) (hne : ¬ (f = s.k ∧ b = id)) : RB (g.kl s.k id blk ℓ0) w f b (ds.map (D.kl1 s.k id)) := by
 rcases h.st.sb.rel f b ds hds with ⟨h0, B, cs', et, r1, r2, r3, r4⟩ | ⟨h0, l, r, st, j, rid, ks, caps, r1, r2, r3, r4, r4', r5, r6, r7, r8⟩
 ·refine .inl ⟨h0, B, cs', et, H.keep r1 hne, r2, by simpa using r3, fun c d hc => ?_⟩
  rw [List.getElem?_map] at hc
  obtain ⟨d0, q1, q2⟩ := Option.map_eq_some_iff.1 hc
  subst q2
  obtain ⟨y, q3, q4⟩ := r4 c d0 q1
  exact ⟨y, q3, q4.kl H⟩
 ·subst r3
  refine .inr ⟨h0, l, r, st, j, rid, ks, caps.map (D.kl1 s.k id), H.keep r1 hne, r2, rfl, r4, r4', r5, r6, by simpa using r7, fun c d t hc ht => ?_⟩
  rw [List.getElem?_map] at hc
  obtain ⟨d0, q1, q2⟩ := Option.map_eq_some_iff.1 hc
  subst q2
  exact (r8 c d0 t q1 ht).kl H
theorem kl_same (h : SN g w n tmps s) {id f b : Nat} {ds : List D} (hds : bxl s.B f b = some ds) (e : f ≠ s.k) : ds.map (D.kl1 s.k id) = ds := by
 conv => rhs; rw [<- List.map_id ds]
 refine List.map_congr_left fun c hc => kl1_low (bnd1_le (h.st.sb.bnd _ _ _ _ hds hc) ?_)
 have := kl_up h (h.st.sb.rel f b ds hds).bx
 omega
theorem kl_B {id : Nat} {e : Env} (f b : Nat) : bxl (⟨e, klL s.o.length id (rmL id s.l), s.o⟩ : S).B f b = if f = s.k then (if b = id then none else (lk b s.l).map fun ds => ds.map (D.kl1 s.k id)) else bxl s.B f b := by
 by_cases e : f = s.k
 ·subst e
  simp only [bxl, S.B, S.k, List.getElem?_append_right (Nat.le_refl _), Nat.sub_self, List.getElem?_cons_zero, Option.bind_some, if_true, lk_kl, lk_rm]
  split <;> rfl
 ·rw [if_neg e]
  have e : f ≠ s.o.length := e
  simp only [bxl, S.B]
  rcases Nat.lt_or_ge f s.o.length with hl | hl
  ·rw [List.getElem?_append_left hl, List.getElem?_append_left hl]
  ·rw [List.getElem?_append_right hl, List.getElem?_append_right hl]
   have : f - s.o.length = (f - s.o.length - 1) + 1 := by omega
   rw [this]; simp
theorem kl_sb (h : SN g w n tmps s) {id blk : Nat} (H : KlH g w s.k id blk) (ℓ0 : Loc) (e : Env) : SB (g.kl s.k id blk ℓ0) w (⟨e, klL s.o.length id (rmL id s.l), s.o⟩ : S).B := by
 refine ⟨fun f b ds hds => ?_, fun f b hd => ?_, fun f b ds d hds hd => ?_⟩
 ·rw [kl_B] at hds
  by_cases e : f = s.k
  ·rw [if_pos e] at hds
   split at hds
   ·cases hds
   ·rename_i hne
    obtain ⟨ds0, q1, q2⟩ := Option.map_eq_some_iff.1 hds
    subst q2 e
    exact kl_rb h H ℓ0 (by simp only [bxl, S.B, S.k]; simpa using q1) fun q => hne q.2
  ·rw [if_neg e] at hds
   have := kl_rb h H ℓ0 hds fun q => e q.1
   rwa [kl_same h hds e] at this
 ·have hd' : (if f = s.k ∧ b = id then none else g.bx f b).isSome = true := hd
  rw [kl_B]
  split at hd'
  ·cases hd'
  ·rename_i hne
   have := h.st.sb.dom f b hd'
   by_cases e : f = s.k
   ·rw [if_pos e, if_neg fun q => hne ⟨e, q⟩]
    subst e
    simp only [bxl, S.B, S.k] at this
    simpa using this
   ·rw [if_neg e]; exact this
 ·rw [kl_B] at hds
  by_cases e : f = s.k
  ·rw [if_pos e] at hds
   split at hds
   ·cases hds
   ·obtain ⟨ds0, q1, q2⟩ := Option.map_eq_some_iff.1 hds
    subst q2 e
    obtain ⟨d0, q3, rfl⟩ := List.mem_map.1 hd
    exact kl1_bnd (h.st.sb.bnd _ _ ds0 d0 (by simp only [bxl, S.B, S.k]; simpa using q1) q3)
  ·rw [if_neg e] at hds
   exact h.st.sb.bnd _ _ _ _ hds hd
theorem ufs_ok (h : SN g w n tmps s) {t id : Nat} (hRL : id < RL) (he : evG1 (.ufs t id) s = some s') : ∃ g', SN g' w n tmps s' ∧ Ext s.k g w g' w ∧ s'.k = s.k := by
 simp only [evG1] at he
 split at he
 ·rename_i f b off m z hd
  split at he
  ·rename_i hfb
   obtain ⟨rfl, rfl⟩ := hfb
   have ht := h.st.e t
   rw [hd, RT_ne rfl, RV_ne rfl] at ht
   split at he
   ·rename_i hb
    exfalso
    obtain ⟨h0, B, cap, off', r1, r2⟩ := ht
    have := h.st.sb.dom s.k b (by rw [show s.k = s.o.length from rfl, r1]; rfl)
    simp only [bxl, S.B, S.k] at this
    simp [hb] at this
   ·rename_i cs hb
    split at he
    ·rename_i hc
     obtain ⟨rfl, hm, hall⟩ := hc
     injection he with he
     subst he
     obtain ⟨blk, H, a3, a2, a1, a5, hown⟩ := own_back h hRL hb hall hm ht
     have hE := kl_inv h H (slotL s.k t 0 0) a3 a2 a1 a5 (.inl rfl)
     refine ⟨_, ⟨⟨hE.1, kl_sb h H _ _, fun t' => ?_⟩, h.size⟩, hE.2, rfl⟩
     show RT _ _ (slotL s.k t') _ (get t' ((t, _) :: klE s.o.length b s.e))
     simp only [get]
     split
     ·rename_i e
      subst e
      exact hown (slotL s.k t' 0 0)
     ·rw [get_kl]
      exact (h.st.e t').kl H
    ·cases he
  ·injection he with he; subst he; exact ⟨g, h, Ext.refl _ _ _, rfl⟩
 ·injection he with he; subst he; exact ⟨g, h, Ext.refl _ _ _, rfl⟩
theorem ufc_ok (h : SN g w n tmps s) {b0 c id : Nat} (hRL0 : b0 < RL) (hRL : id < RL) (he : evG1 (.ufc b0 c id) s = some s') : ∃ g', SN g' w n tmps s' ∧ Ext s.k g w g' w ∧ s'.k = s.k := by
 simp only [evG1] at he
 split at he
 ·rename_i hb
  split at he
  ·rename_i f b' off m z hd
   split at he
   ·rename_i hc
    obtain ⟨rfl, rfl⟩ := hc
    exfalso
    obtain ⟨ds, hb0, hd⟩ := Option.bind_eq_some_iff.1 hd
    have hB0 : bxl s.B s.k b0 = some ds := by simp only [bxl, S.B, S.k]; simpa using hb0
    obtain ⟨blk0, cs0, et0, u1, u2, u3, u4⟩ := (h.st.sb.rel _ _ _ hB0).c hRL0
    obtain ⟨y, u5, u6⟩ := u4 c _ hd
    obtain ⟨h0, B, cap, off', r1, r2⟩ := u6
    have := h.st.sb.dom s.k b' (by rw [show s.k = s.o.length from rfl, r1]; rfl)
    simp only [bxl, S.B, S.k] at this
    simp [hb] at this
   ·injection he with he; subst he; exact ⟨g, h, Ext.refl _ _ _, rfl⟩
  ·injection he with he; subst he; exact ⟨g, h, Ext.refl _ _ _, rfl⟩
 ·rename_i cs hb
  split at he
  ·cases he
  ·rename_i ds hb0
   split at he
   ·rename_i f b off m z hd
    split at he
    ·rename_i hc
     obtain ⟨rfl, rfl, rfl, hm, hall, hne0⟩ := hc
     injection he with he
     subst he
     have hB0 : bxl s.B s.k b0 = some ds := by simp only [bxl, S.B, S.k]; simpa using hb0
     obtain ⟨blk0, cs0, et0, u1, u2, u3, u4⟩ := (h.st.sb.rel _ _ _ hB0).c hRL0
     obtain ⟨y, u5, u6⟩ := u4 c _ hd
     obtain ⟨blk, H, a3, a2, a1, a5, hown⟩ := own_back h hRL hb hall hm u6
     have hE := kl_inv h H (boxL s.k b0 c) a3 a2 a1 a5 (.inl rfl)
     have hsb := kl_sb h H (boxL s.k b0 c) (klE s.o.length b s.e)
     have hbs : ∀ f' b', bxl (⟨klE s.o.length b s.e, sb b0 ((ds.map (D.kl1 s.o.length b)).set c (.sl .mu z (chunks z m cs))) (klL s.o.length b (rmL b s.l)), s.o⟩ : S).B f' b' = if f' = s.k ∧ b' = b0 then some ((ds.map (D.kl1 s.k b)).set c (.sl .mu z (chunks z m cs))) else bxl (⟨klE s.o.length b s.e, klL s.o.length b (rmL b s.l), s.o⟩ : S).B f' b' := fun f' b' =>
      B_sbl (s := ⟨klE s.o.length b s.e, klL s.o.length b (rmL b s.l), s.o⟩) (ds0 := ds.map (D.kl1 s.o.length b)) (by show lk b0 (klL _ _ (rmL b s.l)) = _; rw [lk_kl, lk_rm, if_neg hne0, hb0]; rfl) f' b'
     refine ⟨_, ⟨⟨hE.1, ⟨fun f' b' ds' hds => ?_, fun f' b' hd' => ?_, fun f' b' ds' d hds hd' => ?_⟩, fun t' => ?_⟩, h.size⟩, hE.2, rfl⟩
     ·rw [hbs] at hds
      split at hds
      ·rename_i e
       obtain ⟨rfl, rfl⟩ := e
       injection hds with hds
       subst hds
       refine .inl ⟨hRL0, blk0, cs0, et0, H.keep u1 fun q => hne0 q.2, u2, by simpa using u3, fun c' d hc' => ?_⟩
       rw [List.getElem?_set] at hc'
       split at hc'
       ·rename_i e
        subst e
        split at hc'
        ·injection hc' with hc'
         subst hc'
         exact ⟨y, u5, hown _⟩
        ·cases hc'
       ·rw [List.getElem?_map] at hc'
        obtain ⟨d0, q1, q2⟩ := Option.map_eq_some_iff.1 hc'
        subst q2
        obtain ⟨y', q3, q4⟩ := u4 c' d0 q1
        exact ⟨y', q3, q4.kl H⟩
      ·exact hsb.rel f' b' ds' hds
     ·rw [hbs]
      split
      ·rfl
      ·exact hsb.dom f' b' hd'
     ·rw [hbs] at hds
      split at hds
      ·rename_i e
       obtain ⟨rfl, rfl⟩ := e
       injection hds with hds
       subst hds
       rcases List.mem_or_eq_of_mem_set hd' with h1 | h1
       ·obtain ⟨d0, q3, rfl⟩ := List.mem_map.1 h1
        exact kl1_bnd (h.st.sb.bnd _ _ ds d0 hB0 q3)
       ·rw [h1]; rfl
      ·exact hsb.bnd f' b' ds' d hds hd'
     ·show RT _ _ (slotL s.k t') _ (get t' (klE s.o.length b s.e))
      rw [get_kl]
      exact (h.st.e t').kl H
    ·cases he
   ·injection he with he; subst he; exact ⟨g, h, Ext.refl _ _ _, rfl⟩
theorem gs_ok {l : List Gc} : ∀ {g : G} {s : S}, SN g w n tmps s -> l.all Gc.ok = true -> evG l s = some s' -> ∃ g', SN g' w n tmps s' ∧ Ext s.k g w g' w ∧ s'.k = s.k := by
 induction l with
 | nil => intro g s h _ he; injection he with he; subst he; exact ⟨g, h, Ext.refl _ _ _, rfl⟩
 | cons p r ih =>
  intro g s h hok he
  rw [List.all_cons, Bool.and_eq_true] at hok
  obtain ⟨s1, h1, h2⟩ := Option.bind_eq_some_iff.1 he
  have : ∃ g', SN g' w n tmps s1 ∧ Ext s.k g w g' w ∧ s1.k = s.k := by
   cases p with
   | th b c id =>
    have := hok.1
    simp only [Gc.ok, Bool.and_eq_true, decide_eq_true_eq] at this
    exact th_ok h this.1 this.2 h1
   | fz id => exact fz_ok h (by simpa [Gc.ok] using hok.1) h1
   | dg b c => exact dg_ok h (by simpa [Gc.ok] using hok.1) h1
   | ths t id => exact ths_ok h (by simpa [Gc.ok] using hok.1) h1
   | ufs t id => exact ufs_ok h (by simpa [Gc.ok] using hok.1) h1
   | ufc b c id =>
    have := hok.1
    simp only [Gc.ok, Bool.and_eq_true, decide_eq_true_eq] at this
    exact ufc_ok h this.1 this.2 h1
  obtain ⟨g1, k1, k2, k3⟩ := this
  obtain ⟨g2, j1, j2, j3⟩ := ih k1 hok.2 h2
  exact ⟨g2, j1, k2.trans (by rw [k3] at j2; exact j2), j3.trans k3⟩
end
end Go.Proofs.Ytlhjdikklmkihaa.Ev
namespace Go.Proofs.Ytlhjdikklmkihaa.Ev
open Go
variable {P : Program}
section
variable {g : G} {w : World} {n : Nat} {tmps : Array Value} {s s' : S}
theorem B_low {f : Nat} {L : Bx} (hL : s.o[f]? = some L) (b : Nat) : bxl s.B f b = lk b L := by
 have := getq_lt hL
 simp only [bxl, S.B]
 rw [List.getElem?_append_left this, hL]; rfl
theorem B_set {f : Nat} {L L' : Bx} (hL : s.o[f]? = some L) (f' b' : Nat) : bxl (s.wo (s.o.set f L')).B f' b' = if f' = f then lk b' L' else bxl s.B f' b' := by
 have hf := getq_lt hL
 simp only [bxl, S.B, S.wo]
 rcases Nat.lt_or_ge f' s.o.length with hl | hl
 ·rw [List.getElem?_append_left (by simpa using hl), List.getElem?_append_left hl, List.getElem?_set]
  by_cases e : f = f'
  ·subst e
   rw [if_pos rfl, if_pos hl, if_pos rfl]; rfl
  ·rw [if_neg e, if_neg (fun q => e q.symm)]
 ·rw [List.getElem?_append_right (by simpa using hl), List.getElem?_append_right hl, if_neg (by omega), List.length_set]
theorem B_kl {f id : Nat} {L'' : Bx} {e : Env} (hf : f < s.o.length) (hlow : ∀ f' b' ds, f' < f -> bxl s.B f' b' = some ds -> ds.map (D.kl1 f id) = ds) (f' b' : Nat) : bxl (⟨e, klL f id s.l, s.o.take f ++ L'' :: (s.o.drop (f + 1)).map (klL f id)⟩ : S).B f' b' = if f' = f then lk b' L'' else (bxl s.B f' b').map fun ds => ds.map (D.kl1 f id) := by
 have htl : (s.o.take f).length = f := by simp; omega
 rcases Nat.lt_or_ge f' f with hl | hl
 ·rw [if_neg (by omega)]
  have e1 : bxl (⟨e, klL f id s.l, s.o.take f ++ L'' :: (s.o.drop (f + 1)).map (klL f id)⟩ : S).B f' b' = bxl s.B f' b' := by
   simp only [bxl, S.B]
   rw [List.append_assoc, List.getElem?_append_left (by omega), List.getElem?_append_left (by omega), List.getElem?_take, if_pos hl]
  rw [e1]
  cases hq : bxl s.B f' b' with
  | none => rfl
  | some ds => rw [Option.map_some, hlow _ _ _ hl hq]
 ·rcases Nat.eq_or_lt_of_le hl with h2 | h2
  ·subst h2
   rw [if_pos rfl]
   simp only [bxl, S.B]
   rw [List.append_assoc, List.getElem?_append_right (by omega), htl, Nat.sub_self]
   rfl
  ·rw [if_neg (by omega)]
   simp only [bxl, S.B]
   rw [List.append_assoc, List.getElem?_append_right (by omega), htl]
   obtain ⟨m, hm⟩ : ∃ m, f' - f = m + 1 := ⟨f' - f - 1, by omega⟩
   rw [hm, List.cons_append, List.getElem?_cons_succ]
   rcases Nat.lt_or_ge f' s.o.length with h3 | h3
   ·rw [List.getElem?_append_left (by simp; omega), List.getElem?_append_left h3, List.getElem?_map, List.getElem?_drop, show f + 1 + m = f' by omega]
    cases s.o[f']? with
    | none => rfl
    | some L => exact lk_kl
   ·rw [List.getElem?_append_right (by simp; omega), List.getElem?_append_right h3, List.length_map, List.length_drop, show m - (s.o.length - (f + 1)) = f' - s.o.length by omega]
    cases f' - s.o.length with
    | zero => exact lk_kl
    | succ q => rfl
theorem own_okB {f b c z : Nat} {xs : List D} {ds : List D} (h : SN g w n tmps s) (hB : bxl s.B f b = some ds) (hRL : b < RL) (hc : ds[c]? = some (.sl .mu z xs)) : ∃ B cap cur e, ∃ val : Nat -> Nat -> Value,
  w.heap[B]? = some (.cells cur e (0, 0)) ∧ xs.length <= cap ∧ cap <= maxLen ∧ cap * z <= cur.size ∧ g.tk B = some (boxL f b c) ∧ g.fr B = 0 ∧ (∀ (i : Nat) d, xs[i]? = some d -> d.cells.length = z) ∧
  (∀ (i : Nat) d (j : Nat) c, xs[i]? = some d -> d.cells[j]? = some c -> w.cell? ⟨B, 0 + i * z + j, none⟩ = some (val i j)) ∧ (∀ (i : Nat) d (j : Nat) c, xs[i]? = some d -> d.cells[j]? = some c -> RF w g.fr (val i j) c) ∧
  ∃ blk cs et, g.bx f b = some blk ∧ w.heap[blk]? = some (.cells cs et (0, 0)) ∧ ds.length <= cs.size ∧ cs[c]? = some (.slice (some ⟨B, 0, none⟩) xs.length cap) ∧ ∀ (c : Nat) d, ds[c]? = some d -> ∃ y, cs[c]? = some y ∧ RC g w (boxL f b c) y d := by
 obtain ⟨blk, cs, et, h1, h2, h3, h4⟩ := (h.st.sb.rel _ _ _ hB).c hRL
 obtain ⟨y, h5, h6⟩ := h4 c _ hc
 obtain ⟨B, off, cap, cur, e, val, rfl, q2, q3, q4, q5, q6, q7, q7', q8, q9, q10⟩ := (show Own g w (boxL f b c) y .mu z xs from h6)
 obtain rfl := q7' rfl
 exact ⟨B, cap, cur, e, val, q2, q3, q4, by omega, q6, q7, q8, q9, q10, blk, cs, et, h1, h2, h3, h5, h4⟩
theorem lso_ok (h : SN g w n tmps s) {f b c id : Nat} (hRL : b < RL) (hRL' : id < RL) (he : lso f b c id s = some s') : ∃ g', SN g' w n tmps s' ∧ Ext s.k g w g' w ∧ s'.k = s.k ∧ g.bx f id = none ∧ g'.dm = g.dm := by
 unfold lso at he
 split at he
 case h_2 => cases he
 rename_i L hL
 split at he
 case isFalse => cases he
 rename_i hid0
 have hid : lk id L = none := by simpa using hid0
 have hnone : g.bx f id = none := by
  cases hq : g.bx f id with
  | none => rfl
  | some B' =>
   have := h.st.sb.dom f id (by rw [hq]; rfl)
   rw [B_low hL, hid] at this
   cases this
 split at he
 case h_2 => cases he
 rename_i ds hb
 split at he
 case h_3 => cases he
 case h_2 => injection he with he; subst he; exact ⟨g, h, Ext.refl _ _ _, rfl, hnone, rfl⟩
 rename_i z xs hc
 split at he
 case isFalse => cases he
 rename_i hall
 injection he with he
 subst he
 have hf : f < s.k := getq_lt hL
 have hB0 : bxl s.B f b = some ds := by rw [B_low hL]; exact hb
 obtain ⟨B, cap, cur, e, val, q2, q3, q4, q5, q6, q7, q8, q9, q10, blk, cs, et, h1, h2, h3, h5, h4⟩ := own_okB h hB0 hRL hc
 have hi := h.st.inv
 have hne : b ≠ id := fun e => by rw [e, hid] at hb; cases hb
 have hK : ∀ ℓ, ℓ ≠ boxL f b c -> Keep g w ℓ (g.shr B f id) w ℓ := fun ℓ hℓ => ⟨fun _ _ _ => rfl, fun _ => Nat.le_refl _, fun f1 s1 b' h => by
  show (if _ then _ else _) = _
  rw [if_neg fun e => by rw [e.1, e.2, hnone] at h; cases h]; exact h, fun b' hb' => by
  have e : b' ≠ B := fun e => by rw [e, q6] at hb'; injection hb' with hb'; exact hℓ hb'.symm
  exact ⟨by show (if _ then _ else _) = _; rw [if_neg e]; exact hb', rfl, rfl⟩, Gr.refl _⟩
 have hid1 : lk id (sb b (ds.set c (.ref f id 0 xs.length z)) L) = none := by
  rw [lk_sb, if_neg fun e => hne e.symm]; exact hid
 have hBx : ∀ f' b', bxl (s.wo (s.o.set f (ins id (xs.flatMap D.cells) (sb b (ds.set c (.ref f id 0 xs.length z)) L)))).B f' b' = if f' = f ∧ b' = id then some (xs.flatMap D.cells) else if f' = f ∧ b' = b then some (ds.set c (.ref f id 0 xs.length z)) else bxl s.B f' b' := fun f' b' => by
  rw [B_set hL]
  by_cases e1 : f' = f
  ·subst e1
   simp only [if_true, true_and, lk_ins hid1, lk_sb, hb, Option.map_some, B_low hL]
  ·simp only [e1, if_false, false_and]
 have hk : (s.wo (s.o.set f (ins id (xs.flatMap D.cells) (sb b (ds.set c (.ref f id 0 xs.length z)) L)))).k = s.k := by simp [S.k, S.wo]
 obtain ⟨vs, hel, hcells⟩ := row_of q8 q9 q10
 have hfl : (xs.flatMap D.cells).length = xs.length * z := flat_len q8
 refine ⟨g.shr B f id, ⟨⟨⟨hi.base, fun b' hb' => ?_, fun f1 s1 b' hb' => ?_, fun f1 s1 f2 s2 b' e1 e2 => ?_, fun b' ℓ hb' => ?_, hi.cells, hi.dm, fun b' hb' => ?_⟩, ⟨fun f' b' ds' hds => ?_, fun f' b' hd => ?_, fun f' b' ds' d hds hd => ?_⟩, fun t => ?_⟩, h.size⟩, ⟨rfl, rfl, rfl, rfl, Nat.le_refl _, fun _ _ => rfl, fun _ => Nat.le_refl _, fun _ _ _ => rfl, fun f1 s1 b1 hf1 hb1 => ?_, fun b' ℓ hb' h0 hk => (hK ℓ fun e => by rw [e] at h0; cases h0).tk b' hb', fun _ h => h, Gr.refl _⟩, hk, hnone, rfl⟩
 ·have := hi.fresh b' hb'
  refine ⟨this.1, ?_⟩
  show (if _ then _ else _) = _
  split
  ·rfl
  ·exact this.2
 ·have hb2 : (if f1 = f ∧ s1 = id then some B else g.bx f1 s1) = some b' := hb'
  split at hb2
  ·injection hb2 with hb2
   subst hb2
   exact ⟨hi.tk _ _ q6, getq_lt' q2, q7, if_pos rfl⟩
  ·obtain ⟨a1, a2, a3, a4⟩ := hi.box f1 s1 b' hb2
   refine ⟨a1, a2, a3, ?_⟩
   show (if _ then _ else _) = _
   split
   ·rfl
   ·exact a4
 ·have e1' : (if f1 = f ∧ s1 = id then some B else g.bx f1 s1) = some b' := e1
  have e2' : (if f2 = f ∧ s2 = id then some B else g.bx f2 s2) = some b' := e2
  split at e1' <;> split at e2'
  ·rename_i r1 r2; exact ⟨r1.1.trans r2.1.symm, r1.2.trans r2.2.symm⟩
  ·injection e1' with e1'; subst e1'; have := (hi.box _ _ _ e2').2.2.2; rw [q6] at this; cases this
  ·injection e2' with e2'; subst e2'; have := (hi.box _ _ _ e1').2.2.2; rw [q6] at this; cases this
  ·exact hi.inj _ _ _ _ _ e1' e2'
 ·have hb2 : (if b' = B then none else g.tk b') = some ℓ := hb'
  split at hb2
  ·cases hb2
  ·exact hi.tk _ _ hb2
 ·show (if _ then _ else _) = _
  split
  ·rfl
  ·exact hi.dt b' hb'
 ·rw [hBx] at hds
  split at hds
  ·rename_i e
   obtain ⟨rfl, rfl⟩ := e
   injection hds with hds
   subst hds
   refine .inl ⟨hRL', B, cur, e, if_pos ⟨rfl, rfl⟩, q2, by rw [hfl]; exact Nat.le_trans (Nat.mul_le_mul_right z q3) q5, fun c' d hc' => ?_⟩
   obtain ⟨v, r1, r2⟩ := hel.flat c' d hc'
   refine ⟨v, ?_, (RF.toRC _ (show RF w g.fr v d from r2)).keep (hK _ fun e => by simp [boxL] at e; exact hne e.1.symm)⟩
   have := hcells c' v r1
   simpa [World.cell?, q2] using this
  ·split at hds
   ·rename_i e
    obtain ⟨rfl, rfl⟩ := e
    injection hds with hds
    subst hds
    refine .inl ⟨hRL, blk, cs, et, (hK (slotL 0 0 0 0) fun e => by simp [boxL, slotL] at e).bx _ _ _ h1, h2, by simpa using h3, fun c' d hc' => ?_⟩
    rw [List.getElem?_set] at hc'
    split at hc'
    ·rename_i e
     subst e
     have hlt := getq_lt hc
     simp only [hlt, if_true] at hc'
     injection hc' with hc'
     subst hc'
     exact ⟨_, h5, (show RC _ w _ _ (.ref f' id 0 xs.length z) from ⟨hRL', B, cap, 0, if_pos ⟨rfl, rfl⟩, rfl, q3, q4, .inr rfl, (fun o ho => by
      have h1 : o < cur.size := Nat.lt_of_lt_of_le ho q5
      simp [World.cell?, q2, h1])⟩)⟩
    ·rename_i e
     obtain ⟨y, r1, r2⟩ := h4 c' d hc'
     exact ⟨y, r1, r2.keep (hK _ fun e' => by simp [boxL] at e'; exact e e'.symm)⟩
   ·rename_i hne2
    exact (h.st.sb.rel f' b' ds' hds).keep (fun c' => hK _ fun e => by simp [boxL] at e; exact hne2 ⟨e.1, e.2.1⟩) fun _ _ => rfl
 ·rw [hBx]
  split
  ·rfl
  ·split
   ·rfl
   ·rename_i r1 r2
    have hd' : (if f' = f ∧ b' = id then some B else g.bx f' b').isSome = true := hd
    rw [if_neg r1] at hd'
    exact h.st.sb.dom f' b' hd'
 ·rw [hBx] at hds
  split at hds
  ·rename_i e
   injection hds with hds
   subst hds
   obtain ⟨x, hx, hd⟩ := List.mem_flatMap.1 hd
   exact rf1_bnd (List.all_eq_true.1 (List.all_eq_true.1 hall x hx) d hd)
  ·split at hds
   ·rename_i e
    obtain ⟨rfl, rfl⟩ := e
    injection hds with hds
    subst hds
    exact all_bnd (fun d hd => h.st.sb.bnd _ _ ds d hB0 hd) (by simp [D.bnd1]) d hd
   ·exact h.st.sb.bnd _ _ _ _ hds hd
 ·rw [hk]
  exact (h.st.e t).keep fun i c' => hK _ fun e => by simp [boxL, slotL] at e
 ·show (if _ then _ else _) = _
  rw [if_neg fun e => by rw [e.1, e.2, hnone] at hb1; cases hb1]; exact hb1
theorem own_backB (h : SN g w n tmps s) {f id m z : Nat} {cs : List D} (hRL : id < RL) (hB : bxl s.B f id = some cs) (hall : cs.all D.rf1 = true) (hm : m * z = cs.length) {ℓ : Loc} {x : Value} (hx : RC g w ℓ x (.ref f id 0 m z)) :
  ∃ blk, KlH g w f id blk ∧ g.fr blk = 0 ∧ blk < w.heap.size ∧ g.base <= blk ∧ g.dm blk = false ∧ ∀ ℓ0, RC (g.kl f id blk ℓ0) w ℓ0 x (.sl .mu z (chunks z m cs)) := by
 obtain ⟨blk, vs, et, h1, h2, h3, h4⟩ := (h.st.sb.rel _ _ _ hB).c hRL
 obtain ⟨h0, B, cap, off', r1, r2, r3, r4, r5, r6⟩ := hx
 rw [h1] at r1
 injection r1 with r1
 subst r1
 have ho : off' = 0 := by omega
 subst ho
 have hi := h.st.inv
 obtain ⟨a1, a2, a3, a4⟩ := hi.box _ _ _ h1
 have hsz : cap * z <= vs.size := by
  rcases Nat.eq_zero_or_pos (cap * z) with e | e
  ·omega
  ·have := r6 (cap * z - 1) (by omega)
   simp only [World.cell?, h2, Nat.zero_add] at this
   have : cap * z - 1 < vs.size := by simpa using this
   omega
 have hch := chunks_ok (z := z) (n := m) (cs := cs) hall (by omega)
 have hl := chunks_len z m cs
 have hval : ∀ (i : Nat) d (j : Nat) c, (chunks z m cs)[i]? = some d -> d.cells[j]? = some c -> ∃ y, vs[i * z + j]? = some y ∧ RF w g.fr y c := fun i d j c hi' hj => by
  have q := (hch i d hi').2 j c hj
  obtain ⟨y, u1, u2⟩ := h4 _ c q
  exact ⟨y, u1, RC.toRF u2 (List.all_eq_true.1 hall c (List.mem_of_getElem? q))⟩
 refine ⟨blk, ⟨hi, h1, hRL⟩, a3, a2, a1, hi.mkc h2, fun ℓ0 => ?_⟩
 generalize chunks z m cs = xs at hch hl hval
 subst hl
 refine (show Own _ w ℓ0 x .mu z xs from ⟨blk, 0, cap, vs, et, fun i j => vs.getD (i * z + j) undef, r2, h2, r3, r4, by omega, if_pos rfl, a3, fun _ => rfl, fun i d hi' => (hch i d hi').1, fun i d j c hi' hj => ?_, fun i d j c hi' hj => ?_⟩)
 ·obtain ⟨y, u1, u2⟩ := hval i d j c hi' hj
  simp [World.cell?, h2, u1, Array.getD_eq_getD_getElem?]
 ·obtain ⟨y, u1, u2⟩ := hval i d j c hi' hj
  have : vs.getD (i * z + j) undef = y := by rw [Array.getD_eq_getD_getElem?, u1]; rfl
  show RF w g.fr (vs.getD (i * z + j) undef) c
  rw [this]; exact u2
theorem kl_invB {f id blk : Nat} (H : KlH g w f id blk) (ℓ0 : Loc) (hlt : blk < w.heap.size) (hbase : g.base <= blk) (hdm : g.dm blk = false) : Inv (g.kl f id blk ℓ0) w := by
 have hi := H.inv
 refine ⟨hi.base, fun b hb' => ?_, fun f0 s1 b hb' => ?_, fun f1 s1 f2 s2 b e1 e2 => ?_, fun b ℓ hb => ?_, hi.cells, hi.dm, fun b hb => ?_⟩
 ·have := hi.fresh b hb'
  refine ⟨this.1, ?_⟩
  show (if _ then _ else _) = _
  rw [if_neg (by omega)]; exact this.2
 ·have hb2 : (if f0 = f ∧ s1 = id then none else g.bx f0 s1) = some b := hb'
  split at hb2
  ·cases hb2
  ·rename_i hne
   obtain ⟨a1, a2, a3, a4⟩ := hi.box f0 s1 b hb2
   refine ⟨a1, a2, a3, ?_⟩
   show (if _ then _ else _) = _
   rw [if_neg fun e => by subst e; exact hne (hi.inj _ _ _ _ _ hb2 H.bx)]; exact a4
 ·have e1' : (if f1 = f ∧ s1 = id then none else g.bx f1 s1) = some b := e1
  have e2' : (if f2 = f ∧ s2 = id then none else g.bx f2 s2) = some b := e2
  split at e1' <;> split at e2' <;> first | cases e1' | cases e2' | exact hi.inj _ _ _ _ _ e1' e2'
 ·have hb2 : (if b = blk then some ℓ0 else g.tk b) = some ℓ := hb
  split at hb2
  ·rename_i e; rw [e]; exact hbase
  ·exact hi.tk _ _ hb2
 ·have hb' : g.dm b = true := hb
  show (if _ then _ else _) = _
  rw [if_neg fun e => by rw [e, hdm] at hb'; cases hb']; exact hi.dt b hb'
theorem kl_rbB (h : SN g w n tmps s) {k id blk : Nat} (H : KlH g w k id blk) (ℓ0 : Loc) {f b : Nat} {ds : List D} (hds : bxl s.B f b = some ds) (hne : ¬ (f = k ∧ b = id)) : RB (g.kl k id blk ℓ0) w f b (ds.map (D.kl1 k id)) := by
 rcases h.st.sb.rel f b ds hds with ⟨h0, B, cs', et, r1, r2, r3, r4⟩ | ⟨h0, l, r, st, j, rid, ks, caps, r1, r2, r3, r4, r4', r5, r6, r7, r8⟩
 ·refine .inl ⟨h0, B, cs', et, H.keep r1 hne, r2, by simpa using r3, fun c d hc => ?_⟩
  rw [List.getElem?_map] at hc
  obtain ⟨d0, q1, q2⟩ := Option.map_eq_some_iff.1 hc
  subst q2
  obtain ⟨y, q3, q4⟩ := r4 c d0 q1
  exact ⟨y, q3, q4.kl H⟩
 ·subst r3
  refine .inr ⟨h0, l, r, st, j, rid, ks, caps.map (D.kl1 k id), H.keep r1 hne, r2, rfl, r4, r4', r5, r6, by simpa using r7, fun c d t hc ht => ?_⟩
  rw [List.getElem?_map] at hc
  obtain ⟨d0, q1, q2⟩ := Option.map_eq_some_iff.1 hc
  subst q2
  exact (r8 c d0 t q1 ht).kl H
theorem uso_ok (h : SN g w n tmps s) {f b c id : Nat} (hRL : b < RL) (hRL' : id < RL) (he : uso f b c id s = some s') : ∃ g', SN g' w n tmps s' ∧ s'.k = s.k ∧ g'.dm = g.dm ∧ ∀ g0 w0, Ext s.k g0 w0 g w -> g0.bx f id = none -> Ext s.k g0 w0 g' w := by
 unfold uso at he
 split at he
 case h_2 => cases he
 rename_i L hL
 split at he
 ·injection he with he; subst he; exact ⟨g, h, rfl, rfl, fun _ _ e _ => e⟩
 rename_i cs hid
 split at he
 case h_2 => cases he
 rename_i ds hb
 split at he
 case h_2 => cases he
 rename_i f' b' off m z hc
 split at he
 case isFalse => cases he
 rename_i hcond
 obtain ⟨rfl, rfl, rfl, hm, hall, hne⟩ := hcond
 injection he with he
 subst he
 have hf : f' < s.o.length := getq_lt hL
 have hB0 : bxl s.B f' b = some ds := by rw [B_low hL]; exact hb
 have hB1 : bxl s.B f' b' = some cs := by rw [B_low hL]; exact hid
 obtain ⟨blk0, cs0, et0, u1, u2, u3, u4⟩ := (h.st.sb.rel _ _ _ hB0).c hRL
 obtain ⟨y, u5, u6⟩ := u4 c _ hc
 obtain ⟨blk, H, a3, a2, a1, a5, hown⟩ := own_backB h hRL' hB1 hall hm u6
 have hE := kl_invB H (boxL f' b c) a2 a1 a5
 have hk : (⟨klE f' b' s.e, klL f' b' s.l, s.o.take f' ++ sb b ((ds.map (D.kl1 f' b')).set c (.sl .mu z (chunks z m cs))) (klL f' b' (rmL b' L)) :: (s.o.drop (f' + 1)).map (klL f' b')⟩ : S).k = s.k := by simp [S.k]; omega
 have hlow : ∀ f1 b1 ds, f1 < f' -> bxl s.B f1 b1 = some ds -> ds.map (D.kl1 f' b') = ds := fun f1 b1 ds h1 h2 => by
  conv => rhs; rw [<- List.map_id ds]
  exact List.map_congr_left fun c hc => kl1_low (bnd1_le (h.st.sb.bnd _ _ _ _ h2 hc) (by omega))
 have hlk : ∀ q, lk q (sb b ((ds.map (D.kl1 f' b')).set c (.sl .mu z (chunks z m cs))) (klL f' b' (rmL b' L))) = if q = b then some ((ds.map (D.kl1 f' b')).set c (.sl .mu z (chunks z m cs))) else if q = b' then none else (lk q L).map fun ds => ds.map (D.kl1 f' b') := fun q => by
  rw [lk_sb]
  simp only [lk_kl, lk_rm, if_neg hne, hb, Option.map_some]
  split
  ·rfl
  ·split <;> rfl
 refine ⟨g.kl f' b' blk (boxL f' b c), ⟨⟨hE, ⟨fun f1 b1 ds' hds => ?_, fun f1 b1 hd => ?_, fun f1 b1 ds' d hds hd => ?_⟩, fun t' => ?_⟩, h.size⟩, hk, rfl, fun g0 w0 e e0 => ⟨e.base, e.os, e.tape, e.output, e.size, e.old, e.fr, e.cell, fun f1 s1 b1 hf1 hb1 => ?_, fun b1 ℓ hb1 h0 hk1 => ?_, e.dm, e.sz⟩⟩
 ·rw [B_kl hf hlow] at hds
  split at hds
  ·rename_i e
   subst e
   rw [hlk] at hds
   split at hds
   ·rename_i e
    subst e
    injection hds with hds
    subst hds
    refine .inl ⟨hRL, blk0, cs0, et0, H.keep u1 fun q => hne q.2, u2, by simpa using u3, fun c' d hc' => ?_⟩
    rw [List.getElem?_set] at hc'
    split at hc'
    ·rename_i e
     subst e
     split at hc'
     ·injection hc' with hc'
      subst hc'
      exact ⟨y, u5, hown _⟩
     ·cases hc'
    ·rw [List.getElem?_map] at hc'
     obtain ⟨d0, q1, q2⟩ := Option.map_eq_some_iff.1 hc'
     subst q2
     obtain ⟨y', q3, q4⟩ := u4 c' d0 q1
     exact ⟨y', q3, q4.kl H⟩
   ·split at hds
    ·cases hds
    ·rename_i hn2
     obtain ⟨d0, q1, q2⟩ := Option.map_eq_some_iff.1 hds
     subst q2
     exact kl_rbB h H _ (by rw [B_low hL]; exact q1) fun q => hn2 q.2
  ·rename_i hn
   obtain ⟨d0, q1, q2⟩ := Option.map_eq_some_iff.1 hds
   subst q2
   exact kl_rbB h H _ q1 fun q => hn q.1
 ·have hd' : (if f1 = f' ∧ b1 = b' then none else g.bx f1 b1).isSome = true := hd
  rw [B_kl hf hlow]
  split at hd'
  ·cases hd'
  ·rename_i hn
   have := h.st.sb.dom f1 b1 hd'
   split
   ·rename_i e
    subst e
    rw [hlk]
    split
    ·rfl
    ·rw [if_neg fun q => hn ⟨rfl, q⟩]
     rw [B_low hL] at this
     simpa using this
   ·simpa using this
 ·rw [B_kl hf hlow] at hds
  split at hds
  ·rename_i e
   subst e
   rw [hlk] at hds
   split at hds
   ·rename_i e
    subst e
    injection hds with hds
    subst hds
    rcases List.mem_or_eq_of_mem_set hd with h1 | h1
    ·obtain ⟨d0, q3, rfl⟩ := List.mem_map.1 h1
     exact kl1_bnd (h.st.sb.bnd _ _ ds d0 hB0 q3)
    ·rw [h1]; rfl
   ·split at hds
    ·cases hds
    ·obtain ⟨ds0, q1, q2⟩ := Option.map_eq_some_iff.1 hds
     subst q2
     obtain ⟨d0, q3, rfl⟩ := List.mem_map.1 hd
     exact kl1_bnd (h.st.sb.bnd f1 b1 ds0 d0 (by rw [B_low hL]; exact q1) q3)
  ·obtain ⟨ds0, q1, q2⟩ := Option.map_eq_some_iff.1 hds
   subst q2
   obtain ⟨d0, q3, rfl⟩ := List.mem_map.1 hd
   exact kl1_bnd (h.st.sb.bnd f1 b1 ds0 d0 q1 q3)
 ·rw [hk]
  show RT _ _ _ _ (get t' (klE f' b' s.e))
  rw [get_kl]
  exact (h.st.e t').kl H
 ·show (if _ then _ else _) = _
  rw [if_neg fun q => by rw [q.1, q.2, e0] at hb1; cases hb1]
  exact e.bx f1 s1 b1 hf1 hb1
 ·obtain ⟨r1, r2, r3⟩ := e.tk b1 ℓ hb1 h0 hk1
  exact ⟨(H.tk r1).1, r2, r3⟩
end
end Go.Proofs.Ytlhjdikklmkihaa.Ev
