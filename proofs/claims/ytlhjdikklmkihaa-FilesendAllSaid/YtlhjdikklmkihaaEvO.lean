/- Lists and structs made, lists cut. Conditions: none. -/
import Derived.Test.YtlhjdikklmkihaaEvN
import Derived.Laws.Slices
import Derived.Great.BuildSlice
set_option linter.all false
namespace Go.Proofs.Ytlhjdikklmkihaa.Ev
open Go
variable {P : Program}

/-! ### Parts laid over cells -/
theorem overlay_get (v : List Value) : ∀ (j off : Nat) (cs : Array Value) (k : Nat), off + j + v.length ≤ cs.size →
    ((v.zipIdx j).foldl (fun cs (c, j) => cs.setIfInBounds (off + j) c) cs)[k]? = if off + j ≤ k ∧ k < off + j + v.length then v[k - (off + j)]? else cs[k]? := by
  induction v with
  | nil => intro j off cs k h; simp; intro h1 h2; omega
  | cons x v ih =>
    intro j off cs k h
    simp only [List.length_cons] at h
    simp only [List.zipIdx_cons, List.foldl_cons]
    rw [ih (j + 1) off _ k (by simp; omega)]
    by_cases e : k = off + j
    · subst e
      have h1 : ¬ (off + (j + 1) ≤ off + j ∧ off + j < off + (j + 1) + v.length) := by omega
      rw [if_neg h1, if_pos (by simp), Array.getElem?_setIfInBounds_self_of_lt (by omega)]
      simp
    · by_cases h2 : off + (j + 1) ≤ k ∧ k < off + (j + 1) + v.length
      · rw [if_pos h2, if_pos (by simp; omega), show k - (off + j) = (k - (off + (j + 1))) + 1 by omega]; simp
      · rw [if_neg h2, if_neg (by simp; omega)]
        rw [Array.getElem?_setIfInBounds_ne (by omega)]
theorem overlay_size (v : List Value) : ∀ (j off : Nat) (cs : Array Value), ((v.zipIdx j).foldl (fun cs (c, j) => cs.setIfInBounds (off + j) c) cs).size = cs.size := by
  induction v with
  | nil => intro j off cs; rfl
  | cons x v ih => intro j off cs; simp only [List.zipIdx_cons, List.foldl_cons]; rw [ih]; simp
theorem overlay_arr (v : Array Value) (off : Nat) (cs : Array Value) : v.zipIdx.foldl (fun cs (c, j) => cs.setIfInBounds (off + j) c) cs = (v.toList.zipIdx 0).foldl (fun cs (c, j) => cs.setIfInBounds (off + j) c) cs := by
  rw [← Array.foldl_toList, Array.toList_zipIdx]

section
variable {o : Oper} {g : G} {w : World} {n : Nat} {a : Act} {s s' : S} {d : D} {call : Caller} {t : Option Nat}

/-- A value's cells, copied: they take no token along, wherever they stand. -/
theorem RT.copied {L : Nat → Nat → Loc} {x : Value} {d : D} (h : RT g w L x d) (h1 : d.cells.all D.sto1 = true) (h2 : d.cells.all (fun d => d.strip1.sto1) = true) (ℓ : Nat → Loc) :
    x.cells.size = d.cells.length ∧ ∀ (c : Nat) e, d.cells[c]? = some e → ∃ y, x.cells[c]? = some y ∧ RC g w (ℓ c) y e.strip1 := by
  rcases tup_or d with ⟨ds, rfl⟩ | hd
  · simp [D.cells, D.sto1] at h1
  · rw [RT_ne hd] at h
    obtain ⟨q1, q2, _⟩ := h.cells h1
    exact ⟨q1, fun c e hc => by obtain ⟨y, r1, r2⟩ := q2 c e hc; exact ⟨y, r1, r2.strip _⟩⟩

theorem lay_ok (h : SN g w n a.tmps s) (place : Nat → Option (Nat × Nat)) (ℓ : Nat → Loc) {ps : List (Nat × Operand)} {ps' : List (Nat × Nat × Opd)} (hl : ps.length = ps'.length)
    (hm : ∀ (j : Nat) f x off sz y, ps[j]? = some (f, x) → ps'[j]? = some (off, sz, y) → MOpd x y ∧ place f = some (off, sz)) : ∀ {cs cs' : List D} {vs : Array Value}, lay s cs ps' = some cs' → vs.size = cs.length → (∀ (c : Nat) e, cs[c]? = some e → ∃ y, vs[c]? = some y ∧ RC g w (ℓ c) y e) →
    ∃ vs', Instr.fill place vs (ps.map fun p => (p.1, a.eval p.2)) = some vs' ∧ vs'.size = cs'.length ∧ ∀ (c : Nat) e, cs'[c]? = some e → ∃ y, vs'[c]? = some y ∧ RC g w (ℓ c) y e := by
  induction ps' generalizing ps with
  | nil =>
    intro cs cs' vs he hs hr
    simp only [lay] at he
    injection he with he
    subst he
    have : ps = [] := List.eq_nil_of_length_eq_zero (by simpa using hl)
    subst this
    exact ⟨vs, rfl, hs, hr⟩
  | cons p' ps' ih =>
    intro cs cs' vs he hs hr
    obtain ⟨off, sz, y⟩ := p'
    cases ps with
    | nil => simp at hl
    | cons p ps =>
      obtain ⟨f, x⟩ := p
      simp only [lay] at he
      split at he
      · rename_i hc
        obtain ⟨c1, c2, c3, c4⟩ := hc
        obtain ⟨hxy, hpl⟩ := hm 0 f x off sz y rfl rfl
        obtain ⟨L, hL⟩ := rd_at h hxy
        obtain ⟨q1, q2⟩ := hL.copied c3 c4 fun c => ℓ (off + c)
        have hsz : (a.eval x).cells.size = sz := by rw [q1, c1]
        have hlen : ((rd y s).1.cells.map D.strip1).length = sz := by simp [c1]
        obtain ⟨vs', r1, r2, r3⟩ := ih (ps := ps) (by simpa using hl) (fun j f x off sz y h1 h2 => hm (j + 1) f x off sz y (by simpa using h1) (by simpa using h2)) (cs := over cs off ((rd y s).1.cells.map D.strip1)) (cs' := cs')
          (vs := ((a.eval x).cells.toList.zipIdx 0).foldl (fun cs (c, j) => cs.setIfInBounds (off + j) c) vs) he (by rw [overlay_size, over_length (by rw [hlen]; exact c2), hs]) (fun c e hce => by
            rw [over_get (by rw [hlen]; exact c2), hlen] at hce
            have hln : (a.eval x).cells.toList.length = sz := by simp [hsz]
            rw [overlay_get _ _ _ _ _ (by rw [hln, hs]; omega)]
            rw [hln]
            split at hce
            · rename_i hlt0
              rw [if_neg (by omega)]; exact hr c e hce
            · rename_i hge
              split at hce
              · rename_i hlt
                rw [if_pos (by omega)]
                rw [List.getElem?_map] at hce
                obtain ⟨e0, h5, rfl⟩ := Option.map_eq_some_iff.1 hce
                obtain ⟨v, h6, h7⟩ := q2 _ e0 h5
                refine ⟨v, by simpa using h6, ?_⟩
                rwa [show off + (c - off) = c by omega] at h7
              · rename_i hge'
                rw [if_neg (by omega)]; exact hr c e hce)
        refine ⟨vs', ?_, r2, r3⟩
        simp only [List.map_cons, Instr.fill, hpl]
        have hno : ¬ ((decide ((a.eval x).cells.size ≠ sz) || decide (off + (a.eval x).cells.size > vs.size)) = true) := by rw [hsz, hs]; simp; omega
        rw [if_neg hno, overlay_arr]
        exact r1
      · cases he

theorem mapM_places {fs : Array Field} (hall : ∀ fd ∈ fs, (P.info? fd.type).isSome) (w : World) : ∃ pl : Array (Nat × Nat), (fs.mapM (fun f => do pure (f.offset, ← sizeOf f.type) : Field → Sem (Nat × Nat))).run P w = .ok pl w ∧ ∀ (f : Nat) fd (i : TypeInfo), fs[f]? = some fd → P.info? fd.type = some i → pl[f]? = some (fd.offset, i.size) := by
  have key : ∀ l : List Field, (∀ fd ∈ l, (P.info? fd.type).isSome) → ∃ pl : List (Nat × Nat), (l.mapM (fun f => do pure (f.offset, ← sizeOf f.type) : Field → Sem (Nat × Nat))).run P w = .ok pl w ∧ ∀ (f : Nat) fd (i : TypeInfo), l[f]? = some fd → P.info? fd.type = some i → pl[f]? = some (fd.offset, i.size) := by
    intro l
    induction l with
    | nil => intro _; exact ⟨[], rfl, fun f fd i h => by simp at h⟩
    | cons x l ih =>
      intro hx
      obtain ⟨pl, h1, h2⟩ := ih fun fd hfd => hx fd (by simp [hfd])
      obtain ⟨i, hi⟩ := Option.isSome_iff_exists.1 (hx x (by simp))
      refine ⟨(x.offset, i.size) :: pl, ?_, fun f fd j hf hj => ?_⟩
      · rw [List.mapM_cons]
        simp only [Sem.run_bind, run_sizeOf' hi, Result.andThen_ok, Sem.run_pure]
        rw [h1]; rfl
      · cases f with
        | zero => simp at hf; subst hf; rw [hi] at hj; injection hj with hj; subst hj; rfl
        | succ f => simpa using h2 f fd j (by simpa using hf) hj
  obtain ⟨pl, h1, h2⟩ := key fs.toList fun fd hfd => hall fd (by simpa using hfd)
  refine ⟨pl.toArray, ?_, fun f fd i hf hi => by simpa using h2 f fd i (by simpa using hf) hi⟩
  rw [Array.mapM_eq_mapM_toList, Sem.run_map, h1]
  rfl

theorem gives_bd {ty : TypeId} {zv : Value} {z : List Value} {fs : Array Field} {ps : List (Nat × Operand)} {ps' : List (Nat × Nat × Opd)} {i : TypeInfo} (ho : o.op = .build ty ps.toArray) (hu : P.underlying ty = some (.struct fs)) (hi : P.info? ty = some i) (hz : i.zero = some zv) (hzc : zv.cells.toList = z) (hl : ps.length = ps'.length)
    (hm : ∀ (j : Nat) f x off sz y, ps[j]? = some (f, x) → ps'[j]? = some (off, sz, y) → MOpd x y ∧ ∃ (fd : Field) (fi : TypeInfo), fs[f]? = some fd ∧ fd.offset = off ∧ P.info? fd.type = some fi ∧ fi.size = sz) (hall : ∀ fd ∈ fs, (P.info? fd.type).isSome)
    (h : SN g w n a.tmps s) (he : evOp call t (.bd z ps') s = some (d, s')) : Gives P o g w n a s d s' := by
  simp only [evOp] at he
  obtain ⟨cs, h1, h2⟩ := Option.map_eq_some_iff.1 he
  injection h2 with e1 e2
  subst e1 e2
  obtain ⟨pl, hpl, hplaces⟩ := mapM_places hall w
  obtain ⟨vs', r1, r2, r3⟩ := lay_ok h (pl[·]?) (flyL 0 0) hl (fun j f x off sz y q1 q2 => by
    obtain ⟨m1, fd, fi, m2, m3, m4, m5⟩ := hm j f x off sz y q1 q2
    exact ⟨m1, by rw [hplaces f fd fi m2 m4, m3, m5]⟩) (vs := zv.cells) h1 (by rw [← hzc]; simp) (fun c e hc => by
      rw [List.getElem?_map] at hc
      obtain ⟨v, q1, rfl⟩ := Option.map_eq_some_iff.1 hc
      exact ⟨v, by rw [← hzc] at q1; simpa using q1, zc_ok _ v⟩)
  refine ⟨.agg vs', w, g, ?_, h, ⟨vs', rfl, r2, r3⟩, Ext.refl _ _ _, rfl⟩
  have hps : ((ps.toArray.map fun (i, x) => (i, a.eval x)) : Array (Nat × Value)).toList = ps.map fun p => (p.1, a.eval p.2) := by simp
  unfold execOp
  simp only [ho, Instr.build, Sem.run_bind, zeroValue, typeInfo, show (program).run P w = .ok P w from rfl, Result.andThen_ok, hi, hz, Sem.run_pure, run_underlying hu, hpl, hps, r1]

theorem rf1_rf {ℓ : Loc} {x : Value} {d : D} (h : RC g w ℓ x d) (h1 : d.rf1 = true) : RF w g.fr x d := by
  cases d with
  | v y => obtain rfl : x = y := h; exact .v x h1
  | sl m z xs => cases m <;> first | exact h | cases h1
  | _ => cases h1
theorem rf1_sto {d : D} (h1 : d.rf1 = true) : d.sto1 = true := by
  cases d with
  | v y => exact h1
  | sl m z xs => rfl
  | _ => cases h1
theorem rds_el (h : SN g w n a.tmps s) {z : Nat} : ∀ {ps : List Operand} {ps' : List Opd}, ps.length = ps'.length → (∀ (j : Nat) x y, ps[j]? = some x → ps'[j]? = some y → MOpd x y) → (rds s ps').all (fun d => d.cells.length = z && d.cells.all D.rf1) = true →
    EL (RF w g.fr) z (rds s ps') (ps.flatMap fun x => (a.eval x).cells.toList) ∧ ∀ x ∈ ps, (a.eval x).cells.size = z := by
  intro ps ps'
  induction ps' generalizing ps with
  | nil =>
    intro hl hm hc
    have : ps = [] := List.eq_nil_of_length_eq_zero (by simpa using hl)
    subst this
    exact ⟨EL.nil _ _, fun x hx => by simp at hx⟩
  | cons y ys ih =>
    intro hl hm hc
    cases ps with
    | nil => simp at hl
    | cons x xs =>
      simp only [rds, List.all_cons, Bool.and_eq_true, decide_eq_true_eq] at hc
      obtain ⟨⟨c1, c2⟩, c3⟩ := hc
      obtain ⟨k1, k2⟩ := ih (ps := xs) (by simpa using hl) (fun j x' y' q1 q2 => hm (j + 1) x' y' (by simpa using q1) (by simpa using q2)) c3
      obtain ⟨L, hL⟩ := rd_at h (hm 0 x y rfl rfl)
      have htup : (rd y s).1.tupB = false := by
        cases hd : (rd y s).1 <;> first | rfl | (rw [hd] at c2; simp [D.cells, D.rf1] at c2)
      rw [RT_ne htup] at hL
      have hst : (rd y s).1.cells.all D.sto1 = true := List.all_eq_true.2 fun e he => rf1_sto (List.all_eq_true.1 c2 e he)
      obtain ⟨q1, q2, _⟩ := hL.cells hst
      have hone : EL (RF w g.fr) z [(rd y s).1] (a.eval x).cells.toList := by
        have := EL.one (R := RF w g.fr) (d := (rd y s).1) (vs := (a.eval x).cells.toList) (by simp [q1]) fun j c hj => by
          obtain ⟨v, r1, r2⟩ := q2 j c hj
          exact ⟨v, by simpa using r1, rf1_rf r2 (List.all_eq_true.1 c2 c (List.mem_of_getElem? hj))⟩
        rwa [c1] at this
      refine ⟨hone.append k1, fun x' hx' => ?_⟩
      rcases List.mem_cons.1 hx' with rfl | hx'
      · rw [q1, c1]
      · exact k2 x' hx'

theorem gives_bs {ty e : TypeId} {z : Nat} {zv : Value} {ps : List Operand} {ps' : List Opd} {i : TypeInfo} (ho : o.op = .buildSlice ty ps.length (((List.range ps.length).zip ps).toArray)) (hl : ps.length = ps'.length) (hm : ∀ (j : Nat) x y, ps[j]? = some x → ps'[j]? = some y → MOpd x y)
    (hu : P.underlying ty = some (.slice e)) (hi : P.info? e = some i) (hz : i.zero = some zv) (hs : i.size = z) (hzs : zv.cells.size = z) (h0 : 0 < z) (hlen : ps.length * z ≤ 16777216)
    (h : SN g w n a.tmps s) (he : evOp call t (.bs z ps') s = some (d, s')) : Gives P o g w n a s d s' := by
  subst hs
  simp only [evOp] at he
  split at he
  · rename_i hc
    injection he with he
    injection he with e1 e2
    subst e1 e2
    obtain ⟨hel, hsz⟩ := rds_el h hl hm hc
    have hln : (rds s ps').length = ps.length := by rw [(rds_at h hl hm).1, hl]
    have hM : ∀ (ob : Obj), More w (w.alloc ob) ob := fun ob => ⟨rfl, rfl, rfl, rfl⟩
    have hmap : (((List.range ps.length).zip ps).toArray.map fun (i, x) => (i, a.eval x)).toList = (List.range ps.length).zip (ps.map a.eval) := by
      rw [Array.toList_map]
      simp only [List.zip_map_right]
      rfl
    by_cases hp : ps = []
    · subst hp
      have hnil : rds s ps' = [] := List.eq_nil_of_length_eq_zero (by simpa using hln)
      rw [hnil]
      obtain ⟨g', k1, k2, k3⟩ := newlist_ok (xs := []) (vs := []) (z := i.size) (cap := 0) h (hM (.cells #[] e)) (EL.nil _ _) (fun k v hk => by simp at hk) (Nat.le_refl _) (by simp [maxLen]) (by simp) .app (.inl rfl)
      refine ⟨_, _, g', ?_, k1, k2, k3, rfl⟩
      unfold execOp
      simp only [ho, Instr.buildSlice, Sem.run_bind, run_underlying hu, Result.andThen_ok, run_sizeOf' hi]
      simp [newRow, Instr.fill]
      rw [show (Array.range 0).map (fun _ : Nat => (default : Value)) = #[] from by simp]
    · have hfill := Great.fill_whole h0 (ps.map a.eval) ((Array.range (ps.length * i.size)).map (zv.cells[· % zv.cells.size]!)) (fun v hv => by
        obtain ⟨x, hx, rfl⟩ := List.mem_map.1 hv
        exact hsz x hx) (by simp)
      have hzip : (List.range ps.length).zip (ps.map a.eval) = ((ps.map a.eval).zipIdx 0).map fun x => (x.2, x.1) := by
        apply List.ext_getElem?
        intro k
        simp only [List.getElem?_map, List.getElem?_zipIdx]
        by_cases hk : k < ps.length
        · rw [List.getElem?_eq_getElem (by simp [hk])]
          simp [hk]
        · rw [List.getElem?_eq_none (by simp; omega)]
          simp [List.getElem?_eq_none (Nat.le_of_not_lt hk)]
      have hpos : 0 < ps.length := List.length_pos_iff.2 hp
      have hn0 : ¬ ps.length * i.size = 0 := Nat.ne_of_gt (Nat.mul_pos hpos h0)
      have hrun := run_buildSlice (P := P) w ty e ps.length (((List.range ps.length).zip ps).toArray.map fun (i, x) => (i, a.eval x)) _ i zv hu hi hz (by omega) hn0 (by rw [hmap, hzip]; exact hfill)
      have hflat : ((ps.map a.eval).flatMap fun v => v.cells.toList) = ps.flatMap fun x => (a.eval x).cells.toList := by rw [List.flatMap_map]
      rw [hflat] at hrun
      have hfl := hel.len
      obtain ⟨g', k1, k2, k3⟩ := newlist_ok (cap := ps.length) h (hM (.cells (ps.flatMap fun x => (a.eval x).cells.toList).toArray e)) hel (fun k v hk => by simpa using hk) (by rw [hln]; exact Nat.le_refl _)
        (by have : ps.length * 1 ≤ ps.length * i.size := Nat.mul_le_mul_left _ h0
            simp only [maxLen]; omega) (by simp only [List.size_toArray, hfl, hln]; exact Nat.le_refl _) .app (.inl rfl)
      rw [hln] at k2
      exact ⟨_, _, g', by unfold execOp; simp only [ho, Sem.run_bind, hrun, Result.andThen_ok, Sem.run_pure], k1, k2, k3, rfl⟩
  · cases he
end
end Go.Proofs.Ytlhjdikklmkihaa.Ev
