/- Operations on variables: stored into, moved out of, made. Conditions: none. -/
import Derived.Test.YtlhjdikklmkihaaEvE
set_option linter.all false
namespace Go.Proofs.Ytlhjdikklmkihaa.Ev
open Go
variable {P : Program}

theorem Keep.trans {g g1 g2 : G} {w w1 w2 : World} {ℓ ℓ1 ℓ2 : Loc} (h : Keep g w ℓ g1 w1 ℓ1) (h' : Keep g1 w1 ℓ1 g2 w2 ℓ2) : Keep g w ℓ g2 w2 ℓ2 where
  cell := fun b o ho => (h'.cell b o (Nat.lt_of_lt_of_le ho (h.fr b))).trans (h.cell b o ho)
  fr := fun b => Nat.le_trans (h.fr b) (h'.fr b)
  bx := fun f s b hb => h'.bx f s b (h.bx f s b hb)
  tk := fun b hb => by
    obtain ⟨a1, a2, a3⟩ := h.tk b hb
    obtain ⟨b1, b2, b3⟩ := h'.tk b a1
    exact ⟨b1, b2.trans a2, b3.trans a3⟩

theorem RC.one {g : G} {w : World} {ℓ : Loc} {x : Value} {d : D} (h : RC g w ℓ x d) (hs : d.sto1 = true) : x.oneCell' = true := by
  cases d with
  | v y => rw [show x = y from h]; exact hs
  | sl m z xs => obtain ⟨b, cap, rfl⟩ := h.slice; rfl
  | ptr f s off => obtain ⟨_, b, _, rfl⟩ := (show RP g w x (.ptr f s off) from h); rfl
  | yld f s => obtain ⟨_, l, _, rfl⟩ := h; rfl
  | ref f s off n z => obtain ⟨_, b, cap, _, _, rfl, _⟩ := h; rfl
  | fptr cs off => obtain ⟨b, o, val, rfl, _⟩ := (show RP g w x (.fptr cs off) from h); rfl
  | clo fn caps => obtain ⟨_, vs, rfl, _⟩ := h; rfl
  | _ => cases hs
theorem cells_one {x : Value} (h : x.oneCell' = true) : x.cells = #[x] := by cases x <;> first | rfl | cases h

theorem RV.cells {g : G} {w : World} {L : Nat → Loc} {x : Value} {d : D} (h : RV g w L x d) (hs : d.cells.all D.sto1 = true) :
    x.cells.size = d.cells.length ∧ (∀ (c : Nat) e, d.cells[c]? = some e → ∃ y, x.cells[c]? = some y ∧ RC g w (L c) y e) ∧ ∀ v ∈ x.cells.toList, v.oneCell' = true := by
  rcases agg_or d with ⟨ds, rfl⟩ | hd
  · obtain ⟨cs, rfl, h2, h3⟩ := h
    refine ⟨h2, h3, fun v hv => ?_⟩
    obtain ⟨c, hc⟩ := List.mem_iff_getElem?.1 hv
    have hl := getq_lt hc
    have hl' : c < ds.length := by rw [← h2]; simpa [Value.cells] using hl
    obtain ⟨y, h4, h5⟩ := h3 c _ (List.getElem?_eq_getElem hl')
    have : y = v := by
      have h6 : cs[c]? = some v := by simpa [Value.cells] using hc
      rw [h6] at h4; injection h4 with h4; exact h4.symm
    subst this
    exact h5.one (List.all_eq_true.1 hs _ (List.getElem_mem _))
  · rw [RV_ne hd] at h
    have hc : d.cells = [d] := by cases d <;> first | rfl | cases hd
    rw [hc] at hs ⊢
    have h1 := h.one (by simpa using hs)
    rw [cells_one h1]
    refine ⟨rfl, fun c e hce => ?_, fun v hv => by simp at hv; subst hv; exact h1⟩
    cases c with
    | zero => simp at hce; subst hce; exact ⟨x, rfl, h⟩
    | succ c => simp at hce

theorem over_get {ds cs : List D} {off c : Nat} (h : off + cs.length ≤ ds.length) : (over ds off cs)[c]? = if c < off then ds[c]? else if c < off + cs.length then cs[c - off]? else ds[c]? := by
  unfold over
  have h1 : (ds.take off).length = off := by simp; omega
  rw [List.append_assoc]
  by_cases a : c < off
  · rw [List.getElem?_append_left (by omega), List.getElem?_take, if_pos a, if_pos a]
  · rw [List.getElem?_append_right (by omega), h1, if_neg a]
    by_cases b : c < off + cs.length
    · rw [List.getElem?_append_left (by omega), if_pos b]
    · rw [List.getElem?_append_right (by omega), List.getElem?_drop, if_neg b]
      congr 1; omega
theorem over_length {ds cs : List D} {off : Nat} (h : off + cs.length ≤ ds.length) : (over ds off cs).length = ds.length := by
  unfold over; simp; omega
theorem overV_get {ds : Array Value} {cs : List Value} {off c : Nat} (h : off + cs.length ≤ ds.size) : (ds.toList.take off ++ cs ++ ds.toList.drop (off + cs.length)).toArray[c]? = if c < off then ds[c]? else if c < off + cs.length then cs[c - off]? else ds[c]? := by
  have h1 : (ds.toList.take off).length = off := by simp; omega
  rw [List.getElem?_toArray, List.append_assoc]
  by_cases a : c < off
  · rw [List.getElem?_append_left (by omega), List.getElem?_take, if_pos a, if_pos a, Array.getElem?_toList]
  · rw [List.getElem?_append_right (by omega), h1, if_neg a]
    by_cases b : c < off + cs.length
    · rw [List.getElem?_append_left (by omega), if_pos b]
    · rw [List.getElem?_append_right (by omega), List.getElem?_drop, if_neg b, Array.getElem?_toList]
      congr 1; omega
theorem mem_over {ds cs : List D} {off : Nat} {d : D} (h : d ∈ over ds off cs) : d ∈ ds ∨ d ∈ cs := by
  unfold over at h
  rcases List.mem_append.1 h with h | h
  · rcases List.mem_append.1 h with h | h
    · exact .inl (List.mem_of_mem_take h)
    · exact .inr h
  · exact .inl (List.mem_of_mem_drop h)

theorem bnd2_cells {k : Nat} {d : D} (h : d.bnd2 k = true) : ∀ c ∈ d.cells, c.bnd1 k = true := by
  cases d with
  | agg cs => exact List.all_eq_true.1 h
  | _ => intro c hc; simp [D.cells] at hc; subst hc; exact h
theorem bnd2_tup {k : Nat} {d : D} (h : d.bnd2 k = true) : d.tupB = false := by cases d <;> first | rfl | cases h

section
variable {o : Oper} {g : G} {w : World} {n : Nat} {a : Act} {s s' : S} {d : D} {call : Caller} {t : Option Nat}

/-- A write of what flies into a variable. -/
theorem write_ok {f b off : Nat} {ds : List D} {x : Value} {e : D} {tmps : Array Value} (h : SN g w n tmps s) (hds : Ev.bx f b s = some ds) (hx : RV g w (flyL 0 0) x e)
    (hRL : b < RL) (hlen : off + e.cells.length ≤ ds.length) (hb : e.bnd2 (f + 1) = true) (hs : e.cells.all D.sto1 = true) {blk : Nat} (hblk : g.bx f b = some blk) :
    ∃ g' w', (storeCells ⟨blk, off, none⟩ x.cells.toList).run P w = .ok () w' ∧ SN g' w' n tmps (sbx f b (over ds off e.cells) s) ∧ Ext s.k g w g' w' := by
  obtain ⟨b1, cs, et, h1, h2, h3, h4⟩ := (h.st.sb.rel f b ds (bx_bxl hds)).c hRL
  rw [hblk] at h1
  injection h1 with h1
  subst h1
  obtain ⟨h5, h6, h7⟩ := hx.cells hs
  obtain ⟨i1, i2, i3, i4⟩ := h.st.inv.box f b blk hblk
  have hxl : x.cells.toList.length = e.cells.length := by simpa using h5
  have hfit : off + x.cells.toList.length ≤ cs.size := by omega
  have hrun := run_storeCells_at P blk off et x.cells.toList 0 cs w h2 (by simpa using hfit) h7
  simp only [Nat.add_zero] at hrun
  have hget : ∀ c : Nat, (cs.toList.take off ++ x.cells.toList ++ cs.toList.drop (off + x.cells.toList.length)).toArray[c]? = if c < off then cs[c]? else if c < off + e.cells.length then x.cells[c - off]? else cs[c]? := fun c => by
    rw [overV_get hfit, hxl, Array.getElem?_toList]
  have hnsz : (cs.toList.take off ++ x.cells.toList ++ cs.toList.drop (off + x.cells.toList.length)).toArray.size = cs.size := by simp; omega
  generalize (cs.toList.take off ++ x.cells.toList ++ cs.toList.drop (off + x.cells.toList.length)).toArray = nc at hrun hget hnsz
  have hW := wr_setRow (w := w) nc i1 i3 i4 (h.st.inv.mkc h2)
  refine ⟨g.mv (fun ℓ => if ℓ = flyL 0 0 ℓ.c then boxL f b (off + ℓ.c) else ℓ), _, hrun, ?_, (hW.ext _).trans (g.mv_ext _ _ _ fun ℓ h0 _ => if_neg fun e => by rw [e] at h0; simp [flyL] at h0)⟩
  have keepf : ∀ ℓ : Loc, ℓ ≠ flyL 0 0 ℓ.c → Keep g w ℓ (g.mv (fun ℓ => if ℓ = flyL 0 0 ℓ.c then boxL f b (off + ℓ.c) else ℓ)) (w.setRow blk nc) ℓ :=
    fun ℓ hℓ => (hW.keep ℓ).trans (g.mv_keep' _ _ (if_neg hℓ))
  have keepx : ∀ c, Keep g w (flyL 0 0 c) (g.mv (fun ℓ => if ℓ = flyL 0 0 ℓ.c then boxL f b (off + ℓ.c) else ℓ)) (w.setRow blk nc) (boxL f b (off + c)) :=
    fun c => (hW.keep _).trans (g.mv_keep' _ _ (by simp [flyL]))
  refine ⟨⟨(hW.inv h.st.inv).mv _, ⟨fun f' b' ds' hds' => ?_, fun f' b' hd => ?_, fun f' b' ds' d' hds' hd' => ?_⟩, fun t' => ?_⟩, h.size⟩
  · rw [B_sbx hds] at hds'
    split at hds'
    · rename_i e'
      obtain ⟨rfl, rfl⟩ := e'
      injection hds' with hds'
      subst hds'
      refine .inl ⟨hRL, blk, _, et, hblk, setRow_heap w blk cs _ et _ h2, ?_, fun c d' hc => ?_⟩
      · rw [over_length hlen]; omega
      · rw [over_get hlen] at hc
        rw [hget]
        split at hc
        · rename_i hlt
          rw [if_pos hlt]
          obtain ⟨y, h8, h9⟩ := h4 c d' hc
          exact ⟨y, h8, h9.keep (keepf _ box_fly)⟩
        · rename_i hge
          rw [if_neg hge]
          split at hc
          · rename_i hlt
            rw [if_pos hlt]
            obtain ⟨y, h8, h9⟩ := h6 _ d' hc
            refine ⟨y, h8, ?_⟩
            have := h9.keep (keepx (c - off))
            rwa [show off + (c - off) = c by omega] at this
          · rename_i hge'
            rw [if_neg hge']
            obtain ⟨y, h8, h9⟩ := h4 c d' hc
            exact ⟨y, h8, h9.keep (keepf _ box_fly)⟩
    · rename_i hne
      refine (h.st.sb.rel f' b' ds' hds').keep (fun c => keepf _ box_fly) fun b1 hb1 => hW.same b1 fun e' => ?_
      subst e'
      exact hne (h.st.inv.inj _ _ _ _ _ hb1 hblk)
  · rw [B_sbx hds]
    split
    · rfl
    · exact h.st.sb.dom f' b' hd
  · rw [B_sbx hds] at hds'
    split at hds'
    · rename_i e'
      obtain ⟨rfl, rfl⟩ := e'
      injection hds' with hds'
      subst hds'
      rcases mem_over hd' with hd' | hd'
      · exact h.st.sb.bnd _ _ _ _ (bx_bxl hds) hd'
      · exact bnd2_cells hb d' hd'
    · exact h.st.sb.bnd _ _ _ _ hds' hd'
  · rw [sbx_k, sbx_e]
    exact (h.st.e t').keep fun i c => keepf _ slot_fly

theorem bx_rd (x : Opd) (f b : Nat) : Ev.bx f b (rd x s).2 = Ev.bx f b s := by unfold Ev.bx; rw [rd_o, rd_l]

theorem store_ok {p x : Operand} {p' x' : Opd} {ty : TypeId} {m : Nat} {i : TypeInfo} (ho : o.op = .store ty p x) (hp : MOpd p p') (hx : MOpd x x') (hi : P.info? ty = some i) (hm : i.size = m) (h : SN g w n a.tmps s) (he : evOp call t (.st m p' x') s = some (d, s')) :
    ∃ w' g', (execOp a.eval o).run P w = .ok .skip w' ∧ SN g' w' n a.tmps s' ∧ Ext s.k g w g' w' ∧ s'.k = s.k ∧ d = .u := by
  simp only [evOp] at he
  split at he
  · rename_i f b off hptr
    obtain ⟨hRL, blk, h1, h2⟩ := rd_ptr h hp hptr
    split at he
    · rename_i ds hds
      split at he
      · rename_i hc
        obtain ⟨c1, c2, c3, c4⟩ := hc
        injection he with he
        injection he with e1 e2
        subst e1 e2
        obtain ⟨g1, k1, k2, k3, _, k5, _⟩ := rd_fly h hx 0
        have k2' : RV g1 w (flyL 0 0) (a.eval x) (rd x' s).1 := by rw [← RT_ne (L := flyL 0) (bnd2_tup c3)]; exact k2
        obtain ⟨g2, w2, r1, r2, r3⟩ := write_ok (P := P) k1 (by rw [bx_rd]; exact hds) k2' hRL (by rw [c1]; exact c2) c3 c4 (by rw [k5]; exact h1)
        have hsz : (a.eval x).cells.size = i.size := by rw [(k2'.cells c4).1, c1, hm]
        refine ⟨w2, g2, ?_, r2, k3.trans (by rw [rd_k] at r3; exact r3), by rw [sbx_k, rd_k], rfl⟩
        simp [execOp, ho, Instr.storeAt, h2, Instr.sureAddr, storeVar, run_sizeOf' hi, hsz, r1]
      · cases he
    · cases he
  · cases he
end
end Go.Proofs.Ytlhjdikklmkihaa.Ev
