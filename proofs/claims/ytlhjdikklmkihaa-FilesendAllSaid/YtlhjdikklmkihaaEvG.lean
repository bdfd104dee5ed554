/- Operations on variables: moved out of, made. Conditions: none. -/
import Derived.Test.YtlhjdikklmkihaaEvF
set_option linter.all false
namespace Go.Proofs.Ytlhjdikklmkihaa.Ev
open Go
variable {P : Program}

section
variable {o : Oper} {g : G} {w : World} {n : Nat} {a : Act} {s s' : S} {d : D} {call : Caller} {t : Option Nat}

theorem strip_cells {d : D} (hd : d.tupB = false) (c : Nat) (e : D) : d.strip.cells[c]? = some e → ∃ e0, d.cells[c]? = some e0 ∧ e = e0.strip1 := by
  intro h
  rw [strip_ne hd] at h
  rcases agg_or d with ⟨ds, rfl⟩ | hd'
  · simp only [D.strip2, D.cells, List.getElem?_map] at h
    obtain ⟨e0, h1, h2⟩ := Option.map_eq_some_iff.1 h
    exact ⟨e0, h1, h2.symm⟩
  · rw [strip2_ne hd'] at h
    have h1 : d.strip1.cells = [d.strip1] := by
      have := strip1_agg (d := d)
      cases hq : d.strip1 <;> rw [hq] at this <;> first | rfl | cases this
    have h2 : d.cells = [d] := by cases d <;> first | rfl | cases hd'
    rw [h1] at h
    rw [h2]
    cases c with
    | zero => simp at h; exact ⟨d, rfl, h.symm⟩
    | succ c => simp at h
theorem strip_cells_length {d : D} (hd : d.tupB = false) : d.strip.cells.length = d.cells.length := by
  rw [strip_ne hd]
  rcases agg_or d with ⟨ds, rfl⟩ | hd'
  · simp [D.strip2, D.cells]
  · rw [strip2_ne hd']
    have h1 : d.strip1.cells = [d.strip1] := by
      have := strip1_agg (d := d)
      cases hq : d.strip1 <;> rw [hq] at this <;> first | rfl | cases this
    have h2 : d.cells = [d] := by cases d <;> first | rfl | cases hd'
    rw [h1, h2]; rfl
theorem strip1_bnd {k : Nat} {d : D} (h : d.bnd1 k = true) : d.strip1.bnd1 k = true := by
  cases d with
  | sl m z xs => cases m <;> rfl
  | nb cs => rfl
  | agg cs => rfl
  | tup cs => rfl
  | _ => exact h

theorem ldm_core {f b off blk : Nat} {ty : TypeId} {q : Option Nat} {ds : List D} {d0 : D} (hs : Sz P ty q) (h : SN g w n a.tmps s) (h1 : g.bx f b = some blk) (hRL : b < RL) (hds : Ev.bx f b s = some ds) (h3 : pick q ds off = some d0) :
    ∃ x g', (loadVar ty ⟨blk, off, none⟩).run P w = .ok x w ∧ SN g' w n a.tmps (sbx f b (over ds off d0.strip.cells) s) ∧ RT g' w (flyL 0) x d0 ∧ Ext s.k g w g' w ∧ (∀ ℓ : Loc, 4 ≤ ℓ.k → Keep g w ℓ g' w ℓ) := by
      have hrb := (h.st.sb.rel f b ds (bx_bxl hds)).c hRL
      obtain ⟨blk', h5, h6⟩ := box_cell hrb
      rw [h1] at h5
      injection h5 with h5
      subst h5
      obtain ⟨x, h7, h8⟩ := load_ok hs h6 h3
      -- the data's cells stand in the variable
      have hcells : off + d0.cells.length ≤ ds.length ∧ d0.tupB = false ∧ ∀ (c : Nat) e, d0.cells[c]? = some e → ds[off + c]? = some e := by
        cases q with
        | none =>
          have h9 : ds[off]? = some d0 := h3
          have hna : d0.cells = [d0] := by cases d0 <;> first | rfl | exact h8.elim
          refine ⟨by rw [hna]; have := getq_lt h9; simp; omega, by cases d0 <;> first | rfl | exact (show False from h8).elim, fun c e hc => ?_⟩
          rw [hna] at hc
          cases c with
          | zero => simp at hc; subst hc; exact h9
          | succ c => simp at hc
        | some m =>
          obtain ⟨cs, rfl, h9, es, rfl, h10, h11⟩ := h8
          simp only [pick] at h3
          split at h3
          · rename_i hle
            exact ⟨by simp only [D.cells]; omega, rfl, fun c e hc => (h11 c e hc).1⟩
          · cases h3
      obtain ⟨hlen, htup, hsame⟩ := hcells
      let ρ : Loc → Loc := fun ℓ => if ℓ = boxL f b ℓ.c ∧ off ≤ ℓ.c ∧ ℓ.c < off + d0.cells.length then flyL 0 0 (ℓ.c - off) else ℓ
      have hρf : ∀ ℓ : Loc, ¬ (ℓ = boxL f b ℓ.c ∧ off ≤ ℓ.c ∧ ℓ.c < off + d0.cells.length) → ρ ℓ = ℓ := fun ℓ hl => if_neg hl
      have hρx : ∀ c, c < d0.cells.length → ρ (boxL f b (off + c)) = flyL 0 0 c := fun c hc => by
        show (if _ then _ else _) = _
        rw [if_pos ⟨rfl, by simp [boxL], by simp [boxL]; omega⟩]
        simp [boxL]
      have hfl : off + d0.strip.cells.length ≤ ds.length := by rw [strip_cells_length htup]; exact hlen
      refine ⟨x, g.mv ρ, h7, ⟨⟨h.st.inv.mv _, ⟨fun f' b' ds' hds' => ?_, fun f' b' hd => ?_, fun f' b' ds' d' hds' hd' => ?_⟩, fun t' => ?_⟩, h.size⟩, ?_, g.mv_ext w _ _ fun ℓ h0 _ => hρf _ fun e => by rw [e.1] at h0; simp [boxL] at h0, fun ℓ hℓ => g.mv_keep' w ρ (hρf _ fun e => by rw [e.1] at hℓ; simp [boxL] at hℓ)⟩
      · rw [B_sbx hds] at hds'
        split at hds'
        · rename_i e'
          obtain ⟨rfl, rfl⟩ := e'
          injection hds' with hds'
          subst hds'
          obtain ⟨b1, cs, et, q1, q2, q3, q4⟩ := hrb
          refine .inl ⟨hRL, b1, cs, et, q1, q2, by rw [over_length hfl]; exact q3, fun c d' hc => ?_⟩
          rw [over_get hfl, strip_cells_length htup] at hc
          split at hc
          · rename_i hlt
            obtain ⟨y, q5, q6⟩ := q4 c d' hc
            exact ⟨y, q5, q6.keep (g.mv_keep' w ρ (hρf _ fun e => by have := e.2.1; simp [boxL] at this; omega))⟩
          · rename_i hge
            split at hc
            · rename_i hlt
              obtain ⟨e0, q5, rfl⟩ := strip_cells htup _ _ hc
              have q6 := hsame _ _ q5
              rw [show off + (c - off) = c by omega] at q6
              obtain ⟨y, q7, q8⟩ := q4 c e0 q6
              refine ⟨y, q7, (RC.keep q8 (g.mv_keep' w ρ (ℓ' := flyL 0 0 (c - off)) ?_)).strip _⟩
              have := hρx (c - off) (by omega)
              rwa [show off + (c - off) = c by omega] at this
            · rename_i hge'
              obtain ⟨y, q5, q6⟩ := q4 c d' hc
              exact ⟨y, q5, q6.keep (g.mv_keep' w ρ (hρf _ fun e => by have := e.2.2; simp [boxL] at this; omega))⟩
        · rename_i hne
          refine (h.st.sb.rel f' b' ds' hds').keep (fun c => g.mv_keep' w ρ (hρf _ fun e => hne ?_)) fun _ _ => rfl
          have := e.1
          simp [boxL] at this
          exact this
      · rw [B_sbx hds]
        split
        · rfl
        · exact h.st.sb.dom f' b' hd
      · rw [B_sbx hds] at hds'
        split at hds'
        · rename_i e'
          obtain ⟨rfl, rfl⟩ := e'
          injection hds' with hds'
          subst hds'
          rcases mem_over hd' with hd' | hd'
          · exact h.st.sb.bnd _ _ _ _ (bx_bxl hds) hd'
          · obtain ⟨c, hc⟩ := List.mem_iff_getElem?.1 hd'
            obtain ⟨e0, q5, rfl⟩ := strip_cells htup _ _ hc
            exact strip1_bnd (h.st.sb.bnd _ _ _ _ (bx_bxl hds) (List.mem_of_getElem? (hsame _ _ q5)))
        · exact h.st.sb.bnd _ _ _ _ hds' hd'
      · rw [sbx_k, sbx_e]
        exact (h.st.e t').keep fun i c => g.mv_keep' w ρ (hρf _ fun e => slot_box e.1)
      · refine RV.toRT ?_
        cases q with
        | none =>
          have hna : d0.cells = [d0] := by cases d0 <;> first | rfl | exact h8.elim
          exact RC.toRV (RC.keep (show RC g w (boxL f b off) x d0 from h8) (g.mv_keep' w ρ (by have := hρx 0 (by rw [hna]; simp); simpa using this)))
        | some m =>
          obtain ⟨cs, rfl, h9, es, rfl, h10, h11⟩ := h8
          refine ⟨cs, rfl, by rw [h9, h10], fun c e hc => ?_⟩
          obtain ⟨_, y, h12, h13⟩ := h11 c e hc
          exact ⟨y, h12, h13.keep (g.mv_keep' w ρ (hρx c (getq_lt hc)))⟩

theorem gives_ldm {p : Operand} {p' : Opd} {ty : TypeId} {q : Option Nat} (ho : o.op = .load ty p) (hp : MOpd p p') (hs : Sz P ty q) (h : SN g w n a.tmps s) (he : evOp call t (.ldm q p') s = some (d, s')) : Gives P o g w n a s d s' := by
  simp only [evOp] at he
  split at he
  · rename_i f b off hptr
    obtain ⟨hRL, blk, h1, h2⟩ := rd_ptr h hp hptr
    split at he
    · rename_i ds hds
      obtain ⟨d0, h3, h4⟩ := Option.map_eq_some_iff.1 he
      injection h4 with e1 e2
      subst e1 e2
      obtain ⟨x, g', q1, q2, q3, q4, _⟩ := ldm_core hs h h1 hRL hds h3
      exact ⟨x, w, g', by simp [execOp, ho, Instr.loadAt, h2, Instr.sureAddr, q1], q2, q3, q4, sbx_k ..⟩
    · cases he
  · cases he

/-! ### A new variable -/
def G.nbx (g : G) (f b blk : Nat) : G := { g with bx := fun f' b' => if f' = f ∧ b' = b then some blk else g.bx f' b' }
theorem alloc_same (w : World) (ob : Obj) (b : Nat) (h : b < w.heap.size) : (w.alloc ob).heap[b]? = w.heap[b]? := by
  show (w.heap.push ob)[b]? = _
  simp [Array.getElem?_push, Nat.ne_of_lt h]
theorem alloc_new (w : World) (ob : Obj) : (w.alloc ob).heap[w.heap.size]? = some ob := by show (w.heap.push ob)[w.heap.size]? = _; simp
theorem alloc_size (w : World) (ob : Obj) : (w.alloc ob).heap.size = w.heap.size + 1 := by show (w.heap.push ob).size = _; simp
theorem Inv.lt {g : G} {w : World} (h : Inv g w) {b ℓ} (hb : g.tk b = some ℓ) : b < w.heap.size := by
  rcases Nat.lt_or_ge b w.heap.size with h' | h'
  · exact h'
  · rw [(h.fresh b h').2] at hb; cases hb
theorem Inv.frlt {g : G} {w : World} (h : Inv g w) {b o : Nat} (hb : o < g.fr b) : b < w.heap.size := by
  rcases Nat.lt_or_ge b w.heap.size with h' | h'
  · exact h'
  · rw [(h.fresh b h').1] at hb; omega

theorem getq_lt' {α : Type} {l : Array α} {i : Nat} {x : α} (h : l[i]? = some x) : i < l.size := by
  rcases Nat.lt_or_ge i l.size with h' | h'
  · exact h'
  · rw [Array.getElem?_eq_none h'] at h; cases h
theorem run_newRow' (e : TypeId) (c : Array Value) (w : World) : (newRow e c).run P w = .ok ⟨w.heap.size, 0, none⟩ (w.alloc (.cells c e)) := rfl
theorem lk_ins {t : Nat} {ds : List D} {l : Bx} (h : lk t l = none) (b : Nat) : lk b (ins t ds l) = if b = t then some ds else lk b l := by
  induction l with
  | nil => simp [ins, lk]
  | cons p r ih =>
    obtain ⟨c, es⟩ := p
    simp only [lk] at h
    split at h
    · cases h
    · rename_i hne
      unfold ins
      split
      · simp only [lk]
      · simp only [lk, ih h]
        by_cases e : b = c
        · have : b ≠ t := fun e' => hne (e'.symm.trans e)
          simp [e, this]; intro e'; exact absurd e'.symm hne
        · simp [e]
theorem B_new {t : Nat} {ds : List D} (s : S) (hl : lk t s.l = none) (f b : Nat) : bxl (s.wl (ins t ds s.l)).B f b = if f = s.k ∧ b = t then some ds else bxl s.B f b := by
  simp only [bxl, S.B, S.k, S.wl]
  by_cases e : f = s.o.length
  · subst e
    simp only [List.getElem?_append_right (Nat.le_refl _), Nat.sub_self, List.getElem?_cons_zero, Option.bind_some, lk_ins hl, true_and]
  · simp only [e, false_and, if_false]
    rcases Nat.lt_or_ge f s.o.length with hl | hl
    · rw [List.getElem?_append_left hl, List.getElem?_append_left hl]
    · rw [List.getElem?_append_right hl, List.getElem?_append_right hl]
      have : f - s.o.length = (f - s.o.length - 1) + 1 := by omega
      rw [this]; simp

/-- A block for a new variable, with what flies in it. -/
theorem newbox_ok {t : Nat} {tmps : Array Value} (h : SN g w n tmps s) (hRL : t < RL) (hl : lk t s.l = none) {ys : Array Value} {et : TypeId} {ds : List D} {j : Nat} (hlen : ys.size = ds.length)
    (hx : ∀ (c : Nat) d, ds[c]? = some d → ∃ y, ys[c]? = some y ∧ RC g w (flyL j 0 c) y d) (hb : ∀ d ∈ ds, d.bnd1 (s.k + 1) = true) :
    ∃ g', SN g' (w.alloc (.cells ys et)) n tmps (s.wl (ins t ds s.l)) ∧ g'.bx s.k t = some w.heap.size ∧ Ext s.k g w g' (w.alloc (.cells ys et)) := by
  have hnone : g.bx s.k t = none := by
    cases hq : g.bx s.k t with
    | none => rfl
    | some b =>
      have := h.st.sb.dom s.k t (by rw [hq]; rfl)
      rw [← bx_eq _ _ _ (Nat.le_refl _)] at this
      unfold Ev.bx at this
      rw [if_pos (show s.k = s.o.length from rfl), hl] at this
      cases this
  let ρ : Loc → Loc := fun ℓ => if ℓ = flyL j 0 ℓ.c then boxL s.k t ℓ.c else ℓ
  have hi := h.st.inv
  have hK : ∀ ℓ, Keep g w ℓ (((g.nbx s.k t w.heap.size)).mv ρ) (w.alloc (.cells ys et)) (ρ ℓ) := fun ℓ =>
    ⟨fun b o ho => cell_of_block (alloc_same _ _ _ (hi.frlt ho)), fun b => Nat.le_refl _, fun f s' b hb => by
      show (if f = s.k ∧ s' = t then _ else _) = _
      rw [if_neg fun e => by rw [e.1, e.2, hnone] at hb; cases hb]
      exact hb, fun b hb => ⟨by simp [G.mv, G.nbx, hb], rfl, alloc_same _ _ _ (hi.lt hb)⟩⟩
  have hKf : ∀ ℓ : Loc, ℓ ≠ flyL j 0 ℓ.c → Keep g w ℓ (((g.nbx s.k t w.heap.size)).mv ρ) (w.alloc (.cells ys et)) ℓ := fun ℓ hℓ => by
    have := hK ℓ
    rwa [show ρ ℓ = ℓ from if_neg hℓ] at this
  refine ⟨(g.nbx s.k t w.heap.size).mv ρ, ⟨⟨⟨?_, ?_, ?_, ?_, ?_, ?_, fun b hb => ⟨(hi.dm b hb).1, (alloc_same _ _ _ (getq_lt' (hi.dm b hb).2)).trans (hi.dm b hb).2⟩, fun b hb => by simp [G.mv, G.nbx, hi.dt b hb]⟩, ⟨fun f' b' ds' hds' => ?_, fun f' b' hd => ?_, fun f' b' ds' d' hds' hd' => ?_⟩, fun t' => ?_⟩, h.size⟩, ?_, ?_⟩
  · exact Nat.le_trans hi.base (by rw [alloc_size]; omega)
  · intro b hb
    have hb' : w.heap.size ≤ b := by rw [alloc_size] at hb; omega
    exact ⟨(hi.fresh b hb').1, by simp [G.mv, G.nbx, (hi.fresh b hb').2]⟩
  · intro f' s' b hb
    have hb' : (if f' = s.k ∧ s' = t then some w.heap.size else g.bx f' s') = some b := hb
    split at hb'
    · injection hb' with hb'
      subst hb'
      exact ⟨hi.base, by rw [alloc_size]; omega, (hi.fresh _ (Nat.le_refl _)).1, by simp [G.mv, G.nbx, (hi.fresh _ (Nat.le_refl _)).2]⟩
    · obtain ⟨a1, a2, a3, a4⟩ := hi.box _ _ _ hb'
      exact ⟨a1, by rw [alloc_size]; omega, a3, by simp [G.mv, G.nbx, a4]⟩
  · intro f1 s1 f2 s2 b h1 h2
    have h1' : (if f1 = s.k ∧ s1 = t then some w.heap.size else g.bx f1 s1) = some b := h1
    have h2' : (if f2 = s.k ∧ s2 = t then some w.heap.size else g.bx f2 s2) = some b := h2
    split at h1' <;> split at h2'
    · rename_i e1 e2; exact ⟨e1.1.trans e2.1.symm, e1.2.trans e2.2.symm⟩
    · injection h1' with h1'; have := (hi.box _ _ _ h2').2.1; omega
    · injection h2' with h2'; have := (hi.box _ _ _ h1').2.1; omega
    · exact hi.inj _ _ _ _ _ h1' h2'
  · intro b ℓ hb
    simp only [G.mv, G.nbx] at hb
    obtain ⟨ℓ0, h0, _⟩ := Option.map_eq_some_iff.1 hb
    exact hi.tk b ℓ0 h0
  · intro b o ho
    rw [cell_of_block (alloc_same _ _ _ (hi.frlt ho))]
    exact hi.cells b o ho
  · rw [B_new _ hl] at hds'
    split at hds'
    · rename_i e'
      obtain ⟨rfl, rfl⟩ := e'
      injection hds' with hds'
      subst hds'
      refine .inl ⟨hRL, w.heap.size, ys, et, by show (if _ then _ else _) = _; rw [if_pos ⟨rfl, rfl⟩], alloc_new _ _, by omega, fun c d' hc => ?_⟩
      obtain ⟨y, h1, h2⟩ := hx c d' hc
      refine ⟨y, h1, h2.keep ?_⟩
      have := hK (flyL j 0 c)
      rwa [show ρ (flyL j 0 c) = boxL s.k b' c from if_pos rfl] at this
    · rename_i hne
      exact (h.st.sb.rel f' b' ds' hds').keep (fun c => hKf _ box_fly) fun b hb => alloc_same _ _ _ (hi.box _ _ _ hb).2.1
  · rw [B_new _ hl]
    split
    · rfl
    · rename_i hne
      refine h.st.sb.dom f' b' ?_
      have : (if f' = s.k ∧ b' = t then some w.heap.size else g.bx f' b').isSome = true := hd
      rwa [if_neg hne] at this
  · rw [B_new _ hl] at hds'
    split at hds'
    · rename_i e'
      obtain ⟨rfl, rfl⟩ := e'
      injection hds' with hds'
      subst hds'
      exact hb d' hd'
    · exact h.st.sb.bnd _ _ _ _ hds' hd'
  · exact (h.st.e t').keep fun i c => hKf _ slot_fly
  · show (if _ then _ else _) = _
    rw [if_pos ⟨rfl, rfl⟩]
  · refine ⟨rfl, rfl, rfl, rfl, by rw [alloc_size]; omega, fun b hb => alloc_same _ _ _ (Nat.lt_of_lt_of_le hb hi.base), fun _ => Nat.le_refl _, (hK (boxL 0 0 0)).cell, fun f' s' hf => ?_, fun b ℓ hb h0 hk => ⟨?_, rfl, alloc_same _ _ _ (hi.lt hb)⟩, fun _ h => h⟩
    · show (if _ then _ else _) = _
      rw [if_neg fun e => by omega]
    · have := ((hKf ℓ fun e => by rw [e] at h0; simp [flyL] at h0).tk b hb).1
      exact this

theorem zc_ok (ℓ : Loc) (v : Value) : RC g w ℓ v (zc v) := by
  unfold zc
  split
  · exact (show RF w g.fr _ (.sl .nl 0 []) from .nl 0)
  · exact rfl
theorem zc_bnd (k : Nat) (v : Value) : (zc v).bnd1 k = true := by
  unfold zc
  split <;> rfl
theorem gives_al {ty : TypeId} {z : List Value} {zv : Value} {i : TypeInfo} (ho : o.op = .alloc ty) (hi : P.info? ty = some i) (hz : i.zero = some zv) (hzc : zv.cells.toList = z) (h1 : z.all Value.oneCell' = true)
    (hRL : ∀ t', t = some t' → t' < RL) (h : SN g w n a.tmps s) (he : evOp call t (.al z) s = some (d, s')) : Gives P o g w n a s d s' := by
  simp only [evOp] at he
  cases t with
  | none => cases he
  | some t =>
    simp only at he
    split at he
    · rename_i hl
      injection he with he
      injection he with e1 e2
      subst e1 e2
      obtain ⟨g', k1, k2, k3⟩ := newbox_ok (ys := zv.cells) (et := ty) (ds := z.map zc) (j := 0) h (hRL t rfl) hl (by rw [← hzc]; simp) (fun c d hc => by
        rw [List.getElem?_map] at hc
        obtain ⟨v, h2, rfl⟩ := Option.map_eq_some_iff.1 hc
        exact ⟨v, by rw [← hzc] at h2; simpa using h2, zc_ok _ v⟩) (fun d hd => by
        obtain ⟨v, _, rfl⟩ := List.mem_map.1 hd
        exact zc_bnd _ v)
      refine ⟨.pointer (some ⟨w.heap.size, 0, none⟩), w.alloc (.cells zv.cells ty), g', ?_, k1, (show RP g' (w.alloc (.cells zv.cells ty)) _ (.ptr s.k t 0) from ⟨hRL t rfl, _, k2, rfl⟩), k3, rfl⟩
      simp [execOp, ho, Instr.alloc, zeroValue, typeInfo, hi, hz, newVar, run_newRow']
    · cases he

theorem gives_bx {x : Operand} {x' : Opd} {ty : TypeId} (ho : o.op = .box ty x) (hx : MOpd x x') (hRL : ∀ t', t = some t' → t' < RL) (h : SN g w n a.tmps s) (he : evOp call t (.bx x') s = some (d, s')) : Gives P o g w n a s d s' := by
  simp only [evOp] at he
  cases t with
  | none => cases he
  | some t =>
    simp only at he
    split at he
    · rename_i hl
      split at he
      · rename_i hc
        injection he with he
        injection he with e1 e2
        subst e1 e2
        obtain ⟨g1, k1, k2, k3, _, k5, _⟩ := rd_fly h hx 0
        have k2' : RV g1 w (flyL 0 0) (a.eval x) (rd x' s).1 := by rw [← RT_ne (L := flyL 0) (bnd2_tup hc.1)]; exact k2
        obtain ⟨q1, q2, q3⟩ := k2'.cells hc.2
        obtain ⟨g', r1, r2, r3⟩ := newbox_ok (et := ty) (t := t) k1 (hRL t rfl) (by rw [rd_l]; exact hl) q1 q2 (fun d hd => by rw [rd_k]; exact bnd2_cells hc.1 d hd)
        rw [rd_k] at r2 r3
        refine ⟨.pointer (some ⟨w.heap.size, 0, none⟩), w.alloc (.cells (a.eval x).cells ty), g', ?_, r1, (show RP g' (w.alloc (.cells (a.eval x).cells ty)) _ (.ptr s.k t 0) from ⟨hRL t rfl, _, r2, rfl⟩), k3.trans r3, rd_k ..⟩
        simp [execOp, ho, Instr.box, newVar, run_newRow']
      · cases he
    · cases he
end
end Go.Proofs.Ytlhjdikklmkihaa.Ev
