/- Operations on variables: made, loaded, stored. Conditions: none. -/
import Derived.Test.YtlhjdikklmkihaaEvD
set_option linter.all false
namespace Go.Proofs.Ytlhjdikklmkihaa.Ev
open Go
variable {P : Program}

/-- A block that nothing of what is told lies in, written over. -/
structure Wr (g : G) (w : World) (b : Nat) (w' : World) : Prop where
  os : w'.os = w.os
  tape : w'.tape = w.tape
  output : w'.output = w.output
  size : w'.heap.size = w.heap.size
  same : ∀ b', b' ≠ b → w'.heap[b']? = w.heap[b']?
  base : g.base ≤ b
  fr : g.fr b = 0
  tk : g.tk b = none
  dm : g.dm b = false
theorem Wr.cell {g : G} {w w' : World} {b : Nat} (h : Wr g w b w') : ∀ b' o, o < g.fr b' → w'.cell? ⟨b', o, none⟩ = w.cell? ⟨b', o, none⟩ := fun b' o ho => cell_of_block (h.same b' fun e => by rw [e, h.fr] at ho; omega)
theorem Wr.keep {g : G} {w w' : World} {b : Nat} (h : Wr g w b w') (ℓ : Loc) : Keep g w ℓ g w' ℓ :=
  ⟨h.cell, fun _ => Nat.le_refl _, fun _ _ _ h => h, fun b' hb => ⟨hb, rfl, h.same b' fun e => by rw [e, h.tk] at hb; cases hb⟩⟩
theorem Wr.ext {g : G} {w w' : World} {b : Nat} (h : Wr g w b w') (k : Nat) : Ext k g w g w' :=
  ⟨rfl, h.os, h.tape, h.output, by rw [h.size]; exact Nat.le_refl _, fun b' hb => h.same b' fun e => by have := h.base; omega, fun _ => Nat.le_refl _, h.cell, fun _ _ _ => rfl, fun b' ℓ hb _ _ => ⟨hb, rfl, h.same b' fun e => by rw [e, h.tk] at hb; cases hb⟩, fun _ h => h⟩
theorem Wr.inv {g : G} {w w' : World} {b : Nat} (h : Wr g w b w') (hi : Inv g w) : Inv g w' where
  base := by rw [h.size]; exact hi.base
  fresh := fun b' hb => hi.fresh b' (by rw [h.size] at hb; exact hb)
  box := fun f s b' hb => by rw [h.size]; exact hi.box f s b' hb
  inj := hi.inj
  tk := hi.tk
  cells := fun b' o ho => by rw [h.cell b' o ho]; exact hi.cells b' o ho
  dm := fun b' hb => ⟨(hi.dm b' hb).1, (h.same b' fun e => by rw [e, h.dm] at hb; cases hb).trans (hi.dm b' hb).2⟩
  dt := hi.dt

theorem wr_setRow {g : G} {w : World} {b : Nat} (cs : Array Value) (hb : g.base ≤ b) (hf : g.fr b = 0) (ht : g.tk b = none) (hd : g.dm b = false) : Wr g w b (w.setRow b cs) :=
  ⟨rfl, rfl, rfl, by simp [World.setRow], fun b' hb' => setRow_other w b b' cs hb', hb, hf, ht, hd⟩

section
variable {o : Oper} {g : G} {w : World} {n : Nat} {a : Act} {s s' : S} {d : D} {call : Caller} {t : Option Nat}

theorem RF.toRC {x : Value} {d : D} (ℓ : Loc) (h : RF w g.fr x d) : RC g w ℓ x d := by
  cases h with
  | v x hx => exact rfl
  | nl z => exact (show RF w g.fr _ (.sl .nl z []) from .nl z)
  | z b z => exact (show RF w g.fr _ (.sl .ro z []) from .z b z)
  | ro b off cap z xs val h1 h2 h3 h4 h5 h6 => exact (show RF w g.fr _ (.sl .ro z xs) from .ro b off cap z xs val h1 h2 h3 h4 h5 h6)

theorem rd_ptr (h : SN g w n a.tmps s) {x : Operand} {x' : Opd} (hm : MOpd x x') {f b off : Nat} (hy : (rd x' s).1 = .ptr f b off) : b < RL ∧ ∃ blk, g.bx f b = some blk ∧ a.eval x = .pointer (some ⟨blk, off, none⟩) := by
  obtain ⟨L, hL⟩ := rd_at h hm
  rw [hy] at hL
  exact hL

theorem gives_ld {p : Operand} {p' : Opd} {ty : TypeId} {q : Option Nat} (ho : o.op = .load ty p) (hp : MOpd p p') (hs : Sz P ty q) (h : SN g w n a.tmps s) (he : evOp call t (.ld q p') s = some (d, s')) : Gives P o g w n a s d s' := by
  simp only [evOp] at he
  split at he
  · rename_i f b off hptr
    obtain ⟨hRL, blk, h1, h2⟩ := rd_ptr h hp hptr
    split at he
    · rename_i ds hds
      obtain ⟨d0, h3, h4⟩ := Option.map_eq_some_iff.1 he
      injection h4 with e1 e2
      subst e1 e2
      obtain ⟨blk', h5, h6⟩ := box_cell ((h.st.sb.rel f b ds (bx_bxl hds)).c hRL)
      rw [h1] at h5
      injection h5 with h5
      subst h5
      obtain ⟨x, h7, h8⟩ := load_ok hs h6 h3
      refine ⟨x, w, g, by simp [execOp, ho, Instr.loadAt, h2, Instr.sureAddr, h7], h, ?_, Ext.refl _ _ _, rfl⟩
      cases q with
      | none =>
        have : RC g w (flyL 0 0 0) x d0.strip1 := RC.strip _ h8
        rcases tup_or d0 with ⟨es, rfl⟩ | hd
        · exact (show False from h8).elim
        · rcases agg_or d0 with ⟨es, rfl⟩ | hd'
          · exact (show False from h8).elim
          · rw [strip_ne hd, strip2_ne hd', RT_ne strip1_tup, RV_ne strip1_agg]
            exact this
      | some m =>
        obtain ⟨cs, rfl, h9, es, rfl, h10, h11⟩ := h8
        refine ⟨cs, rfl, by simp [h9, h10], fun c e hc => ?_⟩
        rw [List.getElem?_map] at hc
        obtain ⟨e0, h12, rfl⟩ := Option.map_eq_some_iff.1 hc
        obtain ⟨_, y, h13, h14⟩ := h11 c e0 h12
        exact ⟨y, h13, h14.strip _⟩
    · cases he
  · rename_i cs0 off hptr
    obtain ⟨L, hL⟩ := rd_at h hp
    rw [hptr] at hL
    obtain ⟨blk, o0, val, h1, h2, h3⟩ := (show RP g w (a.eval p) (.fptr cs0 off) from hL)
    obtain ⟨d0, h4, h5⟩ := Option.map_eq_some_iff.1 he
    injection h5 with e1 e2
    subst e1 e2
    cases q with
    | none =>
      obtain ⟨u, h6, h7⟩ := hs
      obtain ⟨h8, h9⟩ := h3 off d0 h4
      refine ⟨val off, w, g, by simp [execOp, ho, Instr.loadAt, h1, Instr.sureAddr, run_load1 h6 h7 h8], h, ?_, Ext.refl _ _ _, rfl⟩
      exact RV.toRT (RC.toRV (h9.toRC _))
    | some m =>
      obtain ⟨u, i, h6, h7, h8, h9⟩ := hs
      simp only [pick] at h4
      split at h4
      · rename_i hle
        injection h4 with h4
        subst h4
        have hl : ((List.range m).map fun j => val (off + j)).length = i.size := by simp [h9]
        refine ⟨.agg ((List.range m).map fun j => val (off + j)).toArray, w, g, ?_, h, ?_, Ext.refl _ _ _, rfl⟩
        · have := run_loadN (P := P) h6 h7 h8 (w := w) (b := blk) (o := o0 + off) hl fun j v hj => by
            have hjl := getq_lt hj
            simp at hjl
            simp [hjl] at hj
            subst hj
            have hc := (h3 (off + j) _ (List.getElem?_eq_getElem (by omega))).1
            rw [Nat.add_assoc]; exact hc
          simp [execOp, ho, Instr.loadAt, h1, Instr.sureAddr, this]
        · refine ⟨_, rfl, by simp; omega, fun c e hc => ?_⟩
          rw [take_drop_get] at hc
          split at hc
          · rename_i hcm
            refine ⟨val (off + c), by simp [hcm], ?_⟩
            exact (h3 _ _ hc).2.toRC _
          · cases hc
      · cases h4
  · cases he

end

/-! ### A variable's cells written -/
theorem lk_sb {b b' : Nat} {ds : List D} {L : Bx} : lk b' (sb b ds L) = if b' = b then (lk b L).map fun _ => ds else lk b' L := by
  induction L with
  | nil => simp [sb, lk]
  | cons p r ih =>
    obtain ⟨c, es⟩ := p
    unfold sb
    by_cases h : b = c
    · subst h
      by_cases h' : b' = b
      · subst h'; simp [lk]
      · simp [lk, h']
    · simp only [if_neg h, lk]
      by_cases h' : b' = c
      · subst h'; simp; intro e; exact absurd e.symm h
      · simp only [if_neg h', ih]

theorem B_sbx {f b : Nat} {ds ds0 : List D} {s : S} (h : Ev.bx f b s = some ds0) (f' b' : Nat) : bxl (sbx f b ds s).B f' b' = if f' = f ∧ b' = b then some ds else bxl s.B f' b' := by
  unfold Ev.bx at h
  unfold sbx
  split at h
  · rename_i hf
    subst hf
    simp only [if_true, bxl, S.B, S.wl]
    by_cases e : f' = s.o.length
    · subst e
      simp only [List.getElem?_append_right (Nat.le_refl _), Nat.sub_self, List.getElem?_cons_zero, Option.bind_some, lk_sb, true_and]
      by_cases e' : b' = b
      · subst e'; simp [h]
      · simp [e']
    · simp only [e, false_and, if_false]
      rcases Nat.lt_or_ge f' s.o.length with hl | hl
      · rw [List.getElem?_append_left hl, List.getElem?_append_left hl]
      · rw [List.getElem?_append_right hl, List.getElem?_append_right hl]
        have : f' - s.o.length = (f' - s.o.length - 1) + 1 := by omega
        rw [this]; simp
  · rename_i hf
    cases ho : s.o[f]? with
    | none => rw [ho] at h; cases h
    | some L =>
      rw [ho] at h
      have hl := getq_lt ho
      simp only [if_neg hf, bxl, S.B, S.wo]
      by_cases e : f' = f
      · subst e
        rw [List.getElem?_append_left (by simpa using hl), List.getElem?_append_left hl, List.getElem?_modify, ho]
        simp only [Option.map_eq_map, Option.map_some, if_true, Option.bind_some, lk_sb, true_and]
        by_cases e' : b' = b
        · subst e'; simp only [if_true]; rw [show lk b' L = some ds0 from h]; rfl
        · simp [e']
      · simp only [e, false_and, if_false]
        rcases Nat.lt_or_ge f' s.o.length with hl | hl
        · rw [List.getElem?_append_left (by simpa using hl), List.getElem?_append_left hl, List.getElem?_modify]
          have : ¬ f = f' := fun e' => e e'.symm
          simp [this]
        · rw [List.getElem?_append_right (by simpa using hl), List.getElem?_append_right hl]; simp
theorem sbx_k (f b : Nat) (ds : List D) (s : S) : (sbx f b ds s).k = s.k := by
  unfold sbx
  split <;> simp [S.k, S.wl, S.wo]
theorem sbx_e (f b : Nat) (ds : List D) (s : S) : (sbx f b ds s).e = s.e := by
  unfold sbx
  split <;> rfl
end Go.Proofs.Ytlhjdikklmkihaa.Ev
