/- Steps that may be taken in another order. Conditions: none. -/
import Derived.Test.YtfopbiiffiickaaEvN
import Derived.Laws.Slices
import Derived.Great.BuildSlice
import Derived.Laws.StructEq
import Derived.Test.YtfopbiiffiickaaEvC
set_option linter.all false
namespace Go.Proofs.Ytfopbiiffiickaa.Ev
open Go
variable {P : Program}

/-! ### Parts laid over cells -/
theorem overlay_get (v : List Value) : ∀ (j off : Nat) (cs : Array Value) (k : Nat), off + j + v.length ≤ cs.size →
    ((v.zipIdx j).foldl (fun cs (c, j) => cs.setIfInBounds (off + j) c) cs)[k]? = if off + j ≤ k ∧ k < off + j + v.length then v[k - (off + j)]? else cs[k]? := by
  induction v with
  | nil => intro j off cs k h; simp; intro h1 h2; omega
  | cons x v ih =>
    intro j off cs k h
    simp only [List.length_cons] at h
    simp only [List.zipIdx_cons, List.foldl_cons]
    rw [ih (j + 1) off _ k (by simp; omega)]
    by_cases e : k = off + j
    · subst e
      have h1 : ¬ (off + (j + 1) ≤ off + j ∧ off + j < off + (j + 1) + v.length) := by omega
      rw [if_neg h1, if_pos (by simp), Array.getElem?_setIfInBounds_self_of_lt (by omega)]
      simp
    · by_cases h2 : off + (j + 1) ≤ k ∧ k < off + (j + 1) + v.length
      · rw [if_pos h2, if_pos (by simp; omega), show k - (off + j) = (k - (off + (j + 1))) + 1 by omega]; simp
      · rw [if_neg h2, if_neg (by simp; omega)]
        rw [Array.getElem?_setIfInBounds_ne (by omega)]
theorem overlay_size (v : List Value) : ∀ (j off : Nat) (cs : Array Value), ((v.zipIdx j).foldl (fun cs (c, j) => cs.setIfInBounds (off + j) c) cs).size = cs.size := by
  induction v with
  | nil => intro j off cs; rfl
  | cons x v ih => intro j off cs; simp only [List.zipIdx_cons, List.foldl_cons]; rw [ih]; simp
theorem overlay_arr (v : Array Value) (off : Nat) (cs : Array Value) : v.zipIdx.foldl (fun cs (c, j) => cs.setIfInBounds (off + j) c) cs = (v.toList.zipIdx 0).foldl (fun cs (c, j) => cs.setIfInBounds (off + j) c) cs := by
  rw [← Array.foldl_toList, Array.toList_zipIdx]

section
variable {o : Oper} {g : G} {w : World} {n : Nat} {a : Act} {s s' : S} {d : D} {call : Caller} {t : Option Nat}

/-- A value's cells, copied: they take no token along, wherever they stand. -/
theorem RT.copied {L : Nat → Nat → Loc} {x : Value} {d : D} (h : RT g w L x d) (h1 : d.cells.all D.sto1 = true) (h2 : d.cells.all (fun d => d.strip1.sto1) = true) (ℓ : Nat → Loc) :
    x.cells.size = d.cells.length ∧ ∀ (c : Nat) e, d.cells[c]? = some e → ∃ y, x.cells[c]? = some y ∧ RC g w (ℓ c) y e.strip1 := by
  rcases tup_or d with ⟨ds, rfl⟩ | hd
  · simp [D.cells, D.sto1] at h1
  · rw [RT_ne hd] at h
    obtain ⟨q1, q2, _⟩ := h.cells h1
    exact ⟨q1, fun c e hc => by obtain ⟨y, r1, r2⟩ := q2 c e hc; exact ⟨y, r1, r2.strip _⟩⟩

theorem lay_ok (h : SN g w n a.tmps s) (place : Nat → Option (Nat × Nat)) (ℓ : Nat → Loc) {ps : List (Nat × Operand)} {ps' : List (Nat × Nat × Opd)} (hl : ps.length = ps'.length)
    (hm : ∀ (j : Nat) f x off sz y, ps[j]? = some (f, x) → ps'[j]? = some (off, sz, y) → MOpd x y ∧ place f = some (off, sz)) : ∀ {cs cs' : List D} {vs : Array Value}, lay s cs ps' = some cs' → vs.size = cs.length → (∀ (c : Nat) e, cs[c]? = some e → ∃ y, vs[c]? = some y ∧ RC g w (ℓ c) y e) →
    ∃ vs', Instr.fill place vs (ps.map fun p => (p.1, a.eval p.2)) = some vs' ∧ vs'.size = cs'.length ∧ ∀ (c : Nat) e, cs'[c]? = some e → ∃ y, vs'[c]? = some y ∧ RC g w (ℓ c) y e := by
  induction ps' generalizing ps with
  | nil =>
    intro cs cs' vs he hs hr
    simp only [lay] at he
    injection he with he
    subst he
    have : ps = [] := List.eq_nil_of_length_eq_zero (by simpa using hl)
    subst this
    exact ⟨vs, rfl, hs, hr⟩
  | cons p' ps' ih =>
    intro cs cs' vs he hs hr
    obtain ⟨off, sz, y⟩ := p'
    cases ps with
    | nil => simp at hl
    | cons p ps =>
      obtain ⟨f, x⟩ := p
      simp only [lay] at he
      split at he
      · rename_i hc
        obtain ⟨c1, c2, c3, c4⟩ := hc
        obtain ⟨hxy, hpl⟩ := hm 0 f x off sz y rfl rfl
        obtain ⟨L, hL⟩ := rd_at h hxy
        obtain ⟨q1, q2⟩ := hL.copied c3 c4 fun c => ℓ (off + c)
        have hsz : (a.eval x).cells.size = sz := by rw [q1, c1]
        have hlen : ((rd y s).1.cells.map D.strip1).length = sz := by simp [c1]
        obtain ⟨vs', r1, r2, r3⟩ := ih (ps := ps) (by simpa using hl) (fun j f x off sz y h1 h2 => hm (j + 1) f x off sz y (by simpa using h1) (by simpa using h2)) (cs := over cs off ((rd y s).1.cells.map D.strip1)) (cs' := cs')
          (vs := ((a.eval x).cells.toList.zipIdx 0).foldl (fun cs (c, j) => cs.setIfInBounds (off + j) c) vs) he (by rw [overlay_size, over_length (by rw [hlen]; exact c2), hs]) (fun c e hce => by
            rw [over_get (by rw [hlen]; exact c2), hlen] at hce
            have hln : (a.eval x).cells.toList.length = sz := by simp [hsz]
            rw [overlay_get _ _ _ _ _ (by rw [hln, hs]; omega)]
            rw [hln]
            split at hce
            · rename_i hlt0
              rw [if_neg (by omega)]; exact hr c e hce
            · rename_i hge
              split at hce
              · rename_i hlt
                rw [if_pos (by omega)]
                rw [List.getElem?_map] at hce
                obtain ⟨e0, h5, rfl⟩ := Option.map_eq_some_iff.1 hce
                obtain ⟨v, h6, h7⟩ := q2 _ e0 h5
                refine ⟨v, by simpa using h6, ?_⟩
                rwa [show off + (c - off) = c by omega] at h7
              · rename_i hge'
                rw [if_neg (by omega)]; exact hr c e hce)
        refine ⟨vs', ?_, r2, r3⟩
        simp only [List.map_cons, Instr.fill, hpl]
        have hno : ¬ ((decide ((a.eval x).cells.size ≠ sz) || decide (off + (a.eval x).cells.size > vs.size)) = true) := by rw [hsz, hs]; simp; omega
        rw [if_neg hno, overlay_arr]
        exact r1
      · cases he

theorem mapM_places {fs : Array Field} (hall : ∀ fd ∈ fs, (P.info? fd.type).isSome) (w : World) : ∃ pl : Array (Nat × Nat), (fs.mapM (fun f => do pure (f.offset, ← sizeOf f.type) : Field → Sem (Nat × Nat))).run P w = .ok pl w ∧ ∀ (f : Nat) fd (i : TypeInfo), fs[f]? = some fd → P.info? fd.type = some i → pl[f]? = some (fd.offset, i.size) := by
  have key : ∀ l : List Field, (∀ fd ∈ l, (P.info? fd.type).isSome) → ∃ pl : List (Nat × Nat), (l.mapM (fun f => do pure (f.offset, ← sizeOf f.type) : Field → Sem (Nat × Nat))).run P w = .ok pl w ∧ ∀ (f : Nat) fd (i : TypeInfo), l[f]? = some fd → P.info? fd.type = some i → pl[f]? = some (fd.offset, i.size) := by
    intro l
    induction l with
    | nil => intro _; exact ⟨[], rfl, fun f fd i h => by simp at h⟩
    | cons x l ih =>
      intro hx
      obtain ⟨pl, h1, h2⟩ := ih fun fd hfd => hx fd (by simp [hfd])
      obtain ⟨i, hi⟩ := Option.isSome_iff_exists.1 (hx x (by simp))
      refine ⟨(x.offset, i.size) :: pl, ?_, fun f fd j hf hj => ?_⟩
      · rw [List.mapM_cons]
        simp only [Sem.run_bind, run_sizeOf' hi, Result.andThen_ok, Sem.run_pure]
        rw [h1]; rfl
      · cases f with
        | zero => simp at hf; subst hf; rw [hi] at hj; injection hj with hj; subst hj; rfl
        | succ f => simpa using h2 f fd j (by simpa using hf) hj
  obtain ⟨pl, h1, h2⟩ := key fs.toList fun fd hfd => hall fd (by simpa using hfd)
  refine ⟨pl.toArray, ?_, fun f fd i hf hi => by simpa using h2 f fd i (by simpa using hf) hi⟩
  rw [Array.mapM_eq_mapM_toList, Sem.run_map, h1]
  rfl

theorem gives_bd {ty : TypeId} {zv : Value} {z : List Value} {fs : Array Field} {ps : List (Nat × Operand)} {ps' : List (Nat × Nat × Opd)} {i : TypeInfo} (ho : o.op = .build ty ps.toArray) (hu : P.underlying ty = some (.struct fs)) (hi : P.info? ty = some i) (hz : i.zero = some zv) (hzc : zv.cells.toList = z) (hl : ps.length = ps'.length)
    (hm : ∀ (j : Nat) f x off sz y, ps[j]? = some (f, x) → ps'[j]? = some (off, sz, y) → MOpd x y ∧ ∃ (fd : Field) (fi : TypeInfo), fs[f]? = some fd ∧ fd.offset = off ∧ P.info? fd.type = some fi ∧ fi.size = sz) (hall : ∀ fd ∈ fs, (P.info? fd.type).isSome)
    (h : SN g w n a.tmps s) (he : evOp call t (.bd z ps') s = some (d, s')) : Gives P o g w n a s d s' := by
  simp only [evOp] at he
  obtain ⟨cs, h1, h2⟩ := Option.map_eq_some_iff.1 he
  injection h2 with e1 e2
  subst e1 e2
  obtain ⟨pl, hpl, hplaces⟩ := mapM_places hall w
  obtain ⟨vs', r1, r2, r3⟩ := lay_ok h (pl[·]?) (flyL 0 0) hl (fun j f x off sz y q1 q2 => by
    obtain ⟨m1, fd, fi, m2, m3, m4, m5⟩ := hm j f x off sz y q1 q2
    exact ⟨m1, by rw [hplaces f fd fi m2 m4, m3, m5]⟩) (vs := zv.cells) h1 (by rw [← hzc]; simp) (fun c e hc => by
      rw [List.getElem?_map] at hc
      obtain ⟨v, q1, rfl⟩ := Option.map_eq_some_iff.1 hc
      exact ⟨v, by rw [← hzc] at q1; simpa using q1, zc_ok _ v⟩)
  refine ⟨.agg vs', w, g, ?_, h, ⟨vs', rfl, r2, r3⟩, Ext.refl _ _ _, rfl⟩
  have hps : ((ps.toArray.map fun (i, x) => (i, a.eval x)) : Array (Nat × Value)).toList = ps.map fun p => (p.1, a.eval p.2) := by simp
  unfold execOp
  simp only [ho, Instr.build, Sem.run_bind, zeroValue, typeInfo, show (program).run P w = .ok P w from rfl, Result.andThen_ok, hi, hz, Sem.run_pure, run_underlying hu, hpl, hps, r1]

theorem rf1_rf {ℓ : Loc} {x : Value} {d : D} (h : RC g w ℓ x d) (h1 : d.rf1 = true) : RF w g.fr x d := by
  cases d with
  | v y => obtain rfl : x = y := h; exact .v x h1
  | sl m z xs => cases m <;> first | exact h | cases h1
  | _ => cases h1
theorem rf1_sto {d : D} (h1 : d.rf1 = true) : d.sto1 = true := by
  cases d with
  | v y => exact h1
  | sl m z xs => rfl
  | _ => cases h1
theorem rds_el (h : SN g w n a.tmps s) {z : Nat} : ∀ {ps : List Operand} {ps' : List Opd}, ps.length = ps'.length → (∀ (j : Nat) x y, ps[j]? = some x → ps'[j]? = some y → MOpd x y) → (rds s ps').all (fun d => d.cells.length = z && d.cells.all D.rf1) = true →
    EL (RF w g.fr) z (rds s ps') (ps.flatMap fun x => (a.eval x).cells.toList) ∧ ∀ x ∈ ps, (a.eval x).cells.size = z := by
  intro ps ps'
  induction ps' generalizing ps with
  | nil =>
    intro hl hm hc
    have : ps = [] := List.eq_nil_of_length_eq_zero (by simpa using hl)
    subst this
    exact ⟨EL.nil _ _, fun x hx => by simp at hx⟩
  | cons y ys ih =>
    intro hl hm hc
    cases ps with
    | nil => simp at hl
    | cons x xs =>
      simp only [rds, List.all_cons, Bool.and_eq_true, decide_eq_true_eq] at hc
      obtain ⟨⟨c1, c2⟩, c3⟩ := hc
      obtain ⟨k1, k2⟩ := ih (ps := xs) (by simpa using hl) (fun j x' y' q1 q2 => hm (j + 1) x' y' (by simpa using q1) (by simpa using q2)) c3
      obtain ⟨L, hL⟩ := rd_at h (hm 0 x y rfl rfl)
      have htup : (rd y s).1.tupB = false := by
        cases hd : (rd y s).1 <;> first | rfl | (rw [hd] at c2; simp [D.cells, D.rf1] at c2)
      rw [RT_ne htup] at hL
      have hst : (rd y s).1.cells.all D.sto1 = true := List.all_eq_true.2 fun e he => rf1_sto (List.all_eq_true.1 c2 e he)
      obtain ⟨q1, q2, _⟩ := hL.cells hst
      have hone : EL (RF w g.fr) z [(rd y s).1] (a.eval x).cells.toList := by
        have := EL.one (R := RF w g.fr) (d := (rd y s).1) (vs := (a.eval x).cells.toList) (by simp [q1]) fun j c hj => by
          obtain ⟨v, r1, r2⟩ := q2 j c hj
          exact ⟨v, by simpa using r1, rf1_rf r2 (List.all_eq_true.1 c2 c (List.mem_of_getElem? hj))⟩
        rwa [c1] at this
      refine ⟨hone.append k1, fun x' hx' => ?_⟩
      rcases List.mem_cons.1 hx' with rfl | hx'
      · rw [q1, c1]
      · exact k2 x' hx'

theorem gives_bs {wm : Bool} {ty e : TypeId} {z : Nat} {zv : Value} {ps : List Operand} {ps' : List Opd} {i : TypeInfo} (ho : o.op = .buildSlice ty ps.length (((List.range ps.length).zip ps).toArray)) (hl : ps.length = ps'.length) (hm : ∀ (j : Nat) x y, ps[j]? = some x → ps'[j]? = some y → MOpd x y)
    (hu : P.underlying ty = some (.slice e)) (hi : P.info? e = some i) (hz : i.zero = some zv) (hs : i.size = z) (hzs : zv.cells.size = z) (h0 : 0 < z) (hlen : ps.length * z ≤ 16777216)
    (h : SN g w n a.tmps s) (he : evOp call t (.bs wm z ps') s = some (d, s')) : Gives P o g w n a s d s' := by
  subst hs
  simp only [evOp] at he
  split at he
  · rename_i hc
    injection he with he
    injection he with e1 e2
    subst e1 e2
    obtain ⟨hel, hsz⟩ := rds_el h hl hm hc
    have hln : (rds s ps').length = ps.length := by rw [(rds_at h hl hm).1, hl]
    have hM : ∀ (ob : Obj), More w (w.alloc ob) ob := fun ob => ⟨rfl, rfl, rfl, rfl⟩
    have hmap : (((List.range ps.length).zip ps).toArray.map fun (i, x) => (i, a.eval x)).toList = (List.range ps.length).zip (ps.map a.eval) := by
      rw [Array.toList_map]
      simp only [List.zip_map_right]
      rfl
    by_cases hp : ps = []
    · subst hp
      have hnil : rds s ps' = [] := List.eq_nil_of_length_eq_zero (by simpa using hln)
      rw [hnil]
      obtain ⟨g', k1, k2, k3⟩ := newlist_ok (xs := []) (vs := []) (z := i.size) (cap := 0) h (hM (.cells #[] e)) (EL.nil _ _) (fun k v hk => by simp at hk) (Nat.le_refl _) (by simp [maxLen]) (by simp) (if wm = true then .mu else .app) (by cases wm <;> simp)
      refine ⟨_, _, g', ?_, k1, k2, k3, rfl⟩
      unfold execOp
      simp only [ho, Instr.buildSlice, Sem.run_bind, run_underlying hu, Result.andThen_ok, run_sizeOf' hi]
      simp [newRow, Instr.fill]
      rw [show (Array.range 0).map (fun _ : Nat => (default : Value)) = #[] from by simp]
    · have hfill := Great.fill_whole h0 (ps.map a.eval) ((Array.range (ps.length * i.size)).map (zv.cells[· % zv.cells.size]!)) (fun v hv => by
        obtain ⟨x, hx, rfl⟩ := List.mem_map.1 hv
        exact hsz x hx) (by simp)
      have hzip : (List.range ps.length).zip (ps.map a.eval) = ((ps.map a.eval).zipIdx 0).map fun x => (x.2, x.1) := by
        apply List.ext_getElem?
        intro k
        simp only [List.getElem?_map, List.getElem?_zipIdx]
        by_cases hk : k < ps.length
        · rw [List.getElem?_eq_getElem (by simp [hk])]
          simp [hk]
        · rw [List.getElem?_eq_none (by simp; omega)]
          simp [List.getElem?_eq_none (Nat.le_of_not_lt hk)]
      have hpos : 0 < ps.length := List.length_pos_iff.2 hp
      have hn0 : ¬ ps.length * i.size = 0 := Nat.ne_of_gt (Nat.mul_pos hpos h0)
      have hrun := run_buildSlice (P := P) w ty e ps.length (((List.range ps.length).zip ps).toArray.map fun (i, x) => (i, a.eval x)) _ i zv hu hi hz (by omega) hn0 (by rw [hmap, hzip]; exact hfill)
      have hflat : ((ps.map a.eval).flatMap fun v => v.cells.toList) = ps.flatMap fun x => (a.eval x).cells.toList := by rw [List.flatMap_map]
      rw [hflat] at hrun
      have hfl := hel.len
      obtain ⟨g', k1, k2, k3⟩ := newlist_ok (cap := ps.length) h (hM (.cells (ps.flatMap fun x => (a.eval x).cells.toList).toArray e)) hel (fun k v hk => by simpa using hk) (by rw [hln]; exact Nat.le_refl _)
        (by have : ps.length * 1 ≤ ps.length * i.size := Nat.mul_le_mul_left _ h0
            simp only [maxLen]; omega) (by simp only [List.size_toArray, hfl, hln]; exact Nat.le_refl _) (if wm = true then .mu else .app) (by cases wm <;> simp)
      rw [hln] at k2
      exact ⟨_, _, g', by unfold execOp; simp only [ho, Sem.run_bind, hrun, Result.andThen_ok, Sem.run_pure], k1, k2, k3, rfl⟩
  · cases he
end
end Go.Proofs.Ytfopbiiffiickaa.Ev
namespace Go.Proofs.Ytfopbiiffiickaa.Ev
open Go
variable {P : Program}
section
variable {o : Oper} {g : G} {w : World} {n : Nat} {a : Act} {s s' : S} {d : D} {call : Caller} {t : Option Nat}

theorem made_get (z : Array Value) (n k : Nat) (hz : 0 < z.size) (hk : k < n) : (madeCells z n)[k]? = z[k % z.size]? := by
  have : k % z.size < z.size := Nat.mod_lt _ hz
  simp [madeCells, hk, this]

theorem zc_rf {v : Value} (h : v.oneCell' = true) : RF w g.fr v (zc v) := by
  unfold zc
  split
  · exact .nl 0
  · exact .v v h

theorem gives_mk {ty e : TypeId} {x y : Operand} {x' y' : Opd} {q0 : Bool} {z by_ : Nat} {zv : Value} {ze : D} {i : TypeInfo} (ho : o.op = .makeSlice ty x y) (hx : MOpd x x') (hy : MOpd y y') (hu : P.underlying ty = some (.slice e)) (hi : P.info? e = some i) (hz : i.zero = some zv) (hs : i.size = z) (hb : i.bytes = by_) (hzs : zv.cells.size = z) (h0 : 0 < z) (h1 : 1 ≤ by_)
    (hze : ze.cells = zv.cells.toList.map zc) (hze1 : zv.cells.toList.all Value.oneCell' = true) (h : SN g w n a.tmps s) (he : evOp call t (.mk q0 z by_ ze x' y') s = some (d, s')) : Gives P o g w n a s d s' := by
  simp only [evOp] at he
  split at he
  · rename_i kn l kc c e1 e2
    have hv1 := rd_v h hx e1
    have hv2 := rd_v h hy e2
    split at he
    · rename_i hc
      obtain ⟨c1, c2, c3⟩ := hc
      injection he with he
      injection he with f1 f2
      subst f1 f2
      obtain ⟨p, rfl⟩ := Int.eq_ofNat_of_zero_le c1
      obtain ⟨q, rfl⟩ := Int.eq_ofNat_of_zero_le (Int.le_trans c1 c2)
      have hpq : p ≤ q := by omega
      have hq47 : q ≤ 140737488355328 := by
        have h2 : (1 : Int) * q ≤ by_ * q := Int.mul_le_mul_of_nonneg_right (by omega) (by omega)
        omega
      have hrun := run_make (P := P) w ty e i zv hu hi hz kn kc p q c1 c2 (by rw [hb]; omega) (by omega)
      simp only [Int.toNat_natCast] at hrun
      have hM : More w (w.alloc (.cells (madeCells zv.cells (q * i.size)) e)) (.cells (madeCells zv.cells (q * i.size)) e) := ⟨rfl, rfl, rfl, rfl⟩
      have hpz : p * z ≤ q * z := Nat.mul_le_mul_right z hpq
      have hel : EL (RF w g.fr) z (List.replicate p ze) ((madeCells zv.cells (q * i.size)).toList.take (p * z)) := by
        refine ⟨by rw [List.length_take, Array.length_toList, size_madeCells, hs, Nat.min_eq_left hpz, List.length_replicate], fun j d hj => ?_, fun j d k c hj hk => ?_⟩
        · rw [List.getElem?_replicate] at hj
          split at hj
          · injection hj with hj; subst hj; rw [hze]; simp [hzs]
          · cases hj
        · have hjl : j < p := by have := getq_lt hj; simpa using this
          rw [List.getElem?_replicate, if_pos hjl] at hj
          injection hj with hj
          subst hj
          rw [hze, List.getElem?_map] at hk
          obtain ⟨v, q1, rfl⟩ := Option.map_eq_some_iff.1 hk
          have hkz : k < z := by have := getq_lt q1; simpa [hzs] using this
          have hlt : j * z + k < p * z := lt_of_el hjl hkz
          refine ⟨v, ?_, zc_rf (List.all_eq_true.1 hze1 v (List.mem_of_getElem? q1))⟩
          rw [List.getElem?_take, if_pos hlt, Array.getElem?_toList, hs, made_get _ _ _ (by omega) (by omega), hzs]
          rw [show (j * z + k) % z = k by rw [Nat.mul_comm, Nat.mul_add_mod]; exact Nat.mod_eq_of_lt hkz]
          simpa using q1
      obtain ⟨g', k1, k2, k3⟩ := newlist_ok (cap := q) h hM hel (fun k v hk => by
        rw [List.getElem?_take] at hk
        split at hk
        · simpa using hk
        · cases hk) (by simpa using hpq) (by simp only [maxLen]; omega) (by rw [size_madeCells, hs]; exact Nat.le_refl _) (if q0 then .mu else .app) (by cases q0 <;> simp)
      rw [List.length_replicate] at k2
      rw [Int.toNat_natCast]
      exact ⟨_, _, g', by unfold execOp; simp only [ho, hv1, hv2, Sem.run_bind, hrun, Result.andThen_ok, Sem.run_pure], k1, k2, k3, rfl⟩
    · cases he
  · cases he

theorem run_cut {ty e : TypeId} {i : TypeInfo} (hu : P.underlying ty = some (.slice e)) (hi : P.info? e = some i) (base : Option Addr) (len cap : Nat) (lo hi' : Option Value) (l q : Nat) (hlo : (lo = none ∧ l = 0) ∨ ∃ k, lo = some (.int k l)) (hhi : (hi' = none ∧ q = len) ∨ ∃ k, hi' = some (.int k q)) (h1 : l ≤ q) (h2 : q ≤ len) (h3 : len ≤ cap) :
    (Instr.sliceAt ty (.slice base len cap) lo hi' none).run P w = .ok (.slice (if cap = l then base else base.map (·.add (l * i.size))) (q - l) (cap - l)) w := by
  have e1 : q ≤ cap := by omega
  rcases hlo with ⟨rfl, rfl⟩ | ⟨k, rfl⟩ <;> rcases hhi with ⟨rfl, rfl⟩ | ⟨k', rfl⟩ <;>
    simp [Instr.sliceAt, Instr.slice, Instr.sliceBounds, Instr.sliceBound, asIntOf, run_underlying hu, run_sizeOf' hi, h1, e1]

theorem opt_int (h : SN g w n a.tmps s) {x : Option Operand} {x' : Option Opd} (hm : MOpt x x') {dflt r : Int} (he : optI s dflt x' = some r) :
    (x.map a.eval = none ∧ r = dflt) ∨ ∃ k, x.map a.eval = some (.int k r) := by
  cases hm with
  | n => injection he with he; exact .inl ⟨rfl, he.symm⟩
  | s hxy =>
    simp only [optI] at he
    split at he
    · rename_i k q e
      injection he with he
      subst he
      exact .inr ⟨k, by simp [rd_v h hxy e]⟩
    · cases he

theorem gives_slc {ty e : TypeId} {x : Operand} {x' : Opd} {z : Nat} {lo hg : Option Operand} {lo' hg' : Option Opd} {i : TypeInfo} (ho : o.op = .slice ty x lo hg none) (hx : MOpd x x') (hu : P.underlying ty = some (.slice e)) (hi : P.info? e = some i) (hs : i.size = z) (hlo : MOpt lo lo') (hhi : MOpt hg hg')
    (h : SN g w n a.tmps s) (he : evOp call t (.slc z x' lo' hg') s = some (d, s')) : Gives P o g w n a s d s' := by
  obtain ⟨L, hL⟩ := rd_at h hx
  simp only [evOp] at he
  split at he
  · rename_i m z' xs hxs
    rw [hxs] at hL
    split at he
    · rename_i l q hl hq
      split at he
      · rename_i hc
        obtain ⟨c0, c1, c2, c3⟩ := hc
        have il := opt_int h hlo hl
        have iq := opt_int h hhi hq
        obtain ⟨p, rfl⟩ := Int.eq_ofNat_of_zero_le c1
        obtain ⟨r, rfl⟩ := Int.eq_ofNat_of_zero_le (Int.le_trans c1 c2)
        have ilo : (lo.map a.eval = none ∧ p = 0) ∨ ∃ k, lo.map a.eval = some (.int k p) := by
          rcases il with ⟨q1, q2⟩ | q1
          · exact .inl ⟨q1, by omega⟩
          · exact .inr q1
        have ihi : (hg.map a.eval = none ∧ r = xs.length) ∨ ∃ k, hg.map a.eval = some (.int k r) := by
          rcases iq with ⟨q1, q2⟩ | q1
          · exact .inl ⟨q1, by omega⟩
          · exact .inr q1
        have hex : execOp a.eval o = (do pure (.value (← Instr.sliceAt ty (a.eval x) (lo.map a.eval) (hg.map a.eval) none))) := by
          unfold execOp; simp only [ho, Option.map_none]
        split at he
        · rename_i hm
          injection he with he
          injection he with f1 f2
          subst f1 f2
          have hnl : ∀ v : Value, RF w g.fr v (.sl .nl z' xs) → xs = [] ∧ v = .slice none 0 0 := fun v hv => by cases hv with | nl => exact ⟨rfl, rfl⟩
          obtain ⟨hx0, hv⟩ := hnl _ (show RF w g.fr (a.eval x) (.sl .nl z' xs) from hL)
          subst hx0
          simp only [List.length_nil] at c3 ihi
          have hr := run_cut (P := P) (w := w) hu hi none 0 0 _ _ p r ilo ihi (by omega) (by omega) (Nat.le_refl _)
          refine ⟨.slice none 0 0, w, g, ?_, h, (show RF w g.fr _ (.sl .nl 0 []) from .nl 0), Ext.refl _ _ _, rfl⟩
          rw [hex, hv]
          simp only [Sem.run_bind, hr, Result.andThen_ok, Sem.run_pure, Option.map_none]
          have e1 : r - p = 0 := by omega
          have e2 : 0 - p = 0 := by omega
          simp [e1, e2]
        · rename_i hm
          injection he with he
          injection he with f1 f2
          subst f1 f2
          rw [Int.toNat_natCast, Int.toNat_natCast]
          have hro : ∀ v : Value, RF w g.fr v (.sl .ro z' xs) → ∃ v', (Instr.sliceAt ty v (lo.map a.eval) (hg.map a.eval) none).run P w = .ok v' w ∧ RF w g.fr v' (.sl .ro z ((xs.take r).drop p)) := by
            intro v hv
            cases hv with
            | z b z' =>
              simp only [List.length_nil] at c3 ihi
              have hr := run_cut (P := P) (w := w) hu hi (some b) 0 0 _ _ p r ilo ihi (by omega) (by omega) (Nat.le_refl _)
              refine ⟨_, hr, ?_⟩
              have e1 : r - p = 0 := by omega
              have e2 : 0 = p := by omega
              rw [if_pos e2, e1]
              simp only [List.take_nil, List.drop_nil, Nat.zero_sub]
              exact .z b z
            | ro b off cap z' xs val h1 h2 h3 h4 h5 h6 =>
              have hr := run_cut (P := P) (w := w) hu hi (some ⟨b, off, none⟩) xs.length cap _ _ p r ilo ihi (by omega) (by omega) h1
              refine ⟨_, hr, ?_⟩
              have hlen : ((xs.take r).drop p).length = r - p := by simp; omega
              rw [hs]
              have mk : ∀ off', (r - p = 0 ∨ off' = off + p * z) → (r - p = 0 ∨ off' + (r - p) * z ≤ g.fr b) → RF w g.fr (.slice (some ⟨b, off', none⟩) (r - p) (cap - p)) (.sl .ro z ((xs.take r).drop p)) := by
                intro off' ho' hfr
                rw [← hlen]
                have hz : ∀ (j : Nat) d, ((xs.take r).drop p)[j]? = some d → xs[p + j]? = some d ∧ z = z' ∧ off' = off + p * z := by
                  intro j d hj
                  have hjl := getq_lt hj
                  rw [List.getElem?_drop, List.getElem?_take] at hj
                  split at hj
                  · refine ⟨hj, ?_, ?_⟩
                    · rcases c0 with c0 | c0
                      · exact c0
                      · rw [List.isEmpty_iff.1 c0] at hj; simp at hj
                    · rcases ho' with ho' | ho'
                      · omega
                      · exact ho'
                  · cases hj
                refine .ro b off' (cap - p) z _ (fun j k => val (p + j) k) (by omega) (by omega) (hfr.imp (fun q => List.eq_nil_of_length_eq_zero (by omega)) fun q => by rw [hlen]; exact q) (fun j d hj => ?_) (fun j d k c hj hk => ?_) (fun j d k c hj hk => ?_)
                · obtain ⟨q1, q2, _⟩ := hz j d hj; rw [q2]; exact h4 _ d q1
                · obtain ⟨q1, q2, q3⟩ := hz j d hj
                  have := h5 (p + j) d k c q1 hk
                  rw [← this, q3, q2, Nat.add_mul]; congr 2; omega
                · obtain ⟨q1, _, _⟩ := hz j d hj; exact h6 _ d k c q1 hk
              by_cases e : cap = p
              · rw [if_pos e]
                have e1 : r - p = 0 := by omega
                rw [e1]
                have := mk off (.inl e1) (.inl e1)
                rwa [e1] at this
              · rw [if_neg e]
                simp only [Option.map_some, add_lit]
                rcases Nat.eq_zero_or_pos (r - p) with e1 | e1
                · exact mk _ (.inl e1) (.inl e1)
                · rcases h3 with h3 | h3
                  · subst h3; simp at c3; omega
                  have hz' : z = z' := by
                    rcases c0 with c0 | c0
                    · exact c0
                    · have : xs = [] := List.isEmpty_iff.1 c0
                      subst this; simp at c3; omega
                  subst hz'
                  refine mk _ (.inr rfl) (.inr ?_)
                  have : p * z + (r - p) * z ≤ xs.length * z := by rw [← Nat.add_mul]; exact Nat.mul_le_mul_right _ (by omega)
                  omega
          obtain ⟨v', q1, q2⟩ := hro _ (show RF w g.fr (a.eval x) (.sl .ro z' xs) from hL)
          exact ⟨v', w, g, by rw [hex]; simp only [Sem.run_bind, q1, Result.andThen_ok, Sem.run_pure], h, q2, Ext.refl _ _ _, rfl⟩
        · cases he
      · cases he
    · cases he
  · rename_i f b off m z' hxs
    rw [hxs] at hL
    obtain ⟨hRL, blk, cap, off', g1, g2, g3, g4, g5, g6⟩ := (show RC g w (L 0 0) (a.eval x) (.ref f b off m z') from hL)
    split at he
    · rename_i l q hl hq
      split at he
      · rename_i hc
        obtain ⟨c0, c1, c2, c3⟩ := hc
        subst c0
        have il := opt_int h hlo hl
        have iq := opt_int h hhi hq
        obtain ⟨p, rfl⟩ := Int.eq_ofNat_of_zero_le c1
        obtain ⟨r, rfl⟩ := Int.eq_ofNat_of_zero_le (Int.le_trans c1 c2)
        have ilo : (lo.map a.eval = none ∧ p = 0) ∨ ∃ k, lo.map a.eval = some (.int k p) := by
          rcases il with ⟨q1, q2⟩ | q1
          · exact .inl ⟨q1, by omega⟩
          · exact .inr q1
        have ihi : (hg.map a.eval = none ∧ r = m) ∨ ∃ k, hg.map a.eval = some (.int k r) := by
          rcases iq with ⟨q1, q2⟩ | q1
          · exact .inl ⟨q1, by omega⟩
          · exact .inr q1
        have hex : execOp a.eval o = (do pure (.value (← Instr.sliceAt ty (a.eval x) (lo.map a.eval) (hg.map a.eval) none))) := by
          unfold execOp; simp only [ho, Option.map_none]
        injection he with he
        injection he with f1 f2
        subst f1 f2
        rw [Int.toNat_natCast, Int.toNat_natCast]
        have hr := run_cut (P := P) (w := w) hu hi (some ⟨blk, off', none⟩) m cap _ _ p r ilo ihi (by omega) (by omega) g3
        generalize hv' : Value.slice _ (r - p) (cap - p) = v' at hr
        refine ⟨v', w, g, by rw [hex, g2]; simp only [Sem.run_bind, hr, Result.andThen_ok, Sem.run_pure], h, ?_, Ext.refl _ _ _, rfl⟩
        rw [← hv']
        by_cases e : cap = p
        · rw [if_pos e]
          exact (show RC g w (L 0 0) _ (.ref f b (off + p * z) (r - p) z) from ⟨hRL, blk, cap - p, off', g1, rfl, by omega, by omega, (by
            rcases g5 with g5 | g5
            · exact .inl ⟨by omega, by omega⟩
            · rcases Nat.eq_zero_or_pos (p * z) with e' | e'
              · exact .inr (by omega)
              · exact .inl ⟨by omega, by omega⟩), fun o ho => by rw [e, Nat.sub_self, Nat.zero_mul] at ho; omega⟩)
        · rw [if_neg e]
          simp only [Option.map_some, add_lit]
          exact (show RC g w (L 0 0) _ (.ref f b (off + p * z) (r - p) z) from ⟨hRL, blk, cap - p, off' + p * i.size, g1, rfl, by omega, by omega, by
            rcases g5 with g5 | g5
            · omega
            · exact .inr (by rw [g5, hs]), fun o ho => by
            have h1 : p * i.size + o < cap * z := by
              rw [Nat.sub_mul] at ho
              have : p * z ≤ cap * z := Nat.mul_le_mul_right z (by omega)
              rw [hs]; omega
            rw [Nat.add_assoc]; exact g6 _ h1⟩)
      · cases he
    · cases he
  · cases he

theorem mm_ok (h : SN g w n a.tmps s) (mx : Bool) {k : IntKind} {xs : List Operand} {ys : List Opd} (hl : xs.length = ys.length) (hm : ∀ (i : Nat) x y, xs[i]? = some x → ys[i]? = some y → MOpd x y) : ∀ {p r : Int}, mnm mx k p s ys = some r →
    ((xs.map a.eval).foldlM (if mx then Builtin.max2 else Builtin.min2) (.int k p)).run P w = .ok (.int k r) w := by
  induction ys generalizing xs with
  | nil =>
    intro p r he
    have : xs = [] := List.eq_nil_of_length_eq_zero (by simpa using hl)
    subst this
    simp only [mnm] at he
    injection he with he
    subst he
    rfl
  | cons y ys ih =>
    intro p r he
    cases xs with
    | nil => simp at hl
    | cons x xs =>
      simp only [mnm] at he
      split at he
      · rename_i k' b e
        have hv := rd_v h (hm 0 x y rfl rfl) e
        have := ih (xs := xs) (by simpa using hl) (fun j x' y' q1 q2 => hm (j + 1) x' y' (by simpa using q1) (by simpa using q2)) he
        simp only [List.map_cons, List.foldlM_cons, hv]
        rw [Sem.run_bind]
        cases mx with
        | true => simp only [if_true] at this ⊢; simp only [Builtin.max2, Sem.run_pure, Result.andThen_ok]; exact this
        | false => simp only [Bool.false_eq_true, if_false] at this ⊢; simp only [Builtin.min2, Sem.run_pure, Result.andThen_ok]; exact this
      · cases he
theorem gives_mm {mx : Bool} {x : Operand} {x' : Opd} {xs : List Operand} {xs' : List Opd} {ts : Array TypeId} (ho : o.op = .call ⟨.builtin (if mx then .max else .min), (x :: xs).toArray, ts⟩) (hx : MOpd x x') (hl : xs.length = xs'.length) (hm : ∀ (i : Nat) x y, xs[i]? = some x → xs'[i]? = some y → MOpd x y)
    (h : SN g w n a.tmps s) (he : evOp call t (.mm mx x' xs') s = some (d, s')) : Gives P o g w n a s d s' := by
  simp only [evOp] at he
  split at he
  · rename_i k p e
    have hv := rd_v h hx e
    obtain ⟨r, h1, h2⟩ := Option.map_eq_some_iff.1 he
    injection h2 with e1 e2
    subst e1 e2
    have := mm_ok (P := P) h mx hl hm h1
    refine ⟨.int k r, w, g, ?_, h, rfl, Ext.refl _ _ _, rfl⟩
    cases mx with
    | true =>
      simp only [if_true] at ho this
      unfold execOp
      simp [ho, resolve, invoke, builtin, Builtin.max_, hv, this]
    | false =>
      simp only [Bool.false_eq_true, if_false] at ho this
      unfold execOp
      simp [ho, resolve, invoke, builtin, Builtin.min_, hv, this]
  · cases he
end
end Go.Proofs.Ytfopbiiffiickaa.Ev
namespace Go.Proofs.Ytfopbiiffiickaa.Ev
open Go
variable {P : Program}
section
variable {o : Oper} {g : G} {w : World} {n : Nat} {a : Act} {s s' : S} {d : D} {call : Caller} {t : Option Nat}
theorem gives_un {xr : Bool} {ty : TypeId} {x : Operand} {x' : Opd} (ho : o.op = .unOp (if xr then .xor else .neg) ty x) (hx : MOpd x x') (h : SN g w n a.tmps s) (he : evOp call t (.un xr x') s = some (d, s')) : Gives P o g w n a s d s' := by
  simp only [evOp] at he
  split at he
  · rename_i k i hi
    have hv := rd_v h hx hi
    obtain ⟨v, q1, q2⟩ := Option.map_eq_some_iff.1 he
    injection q2 with e1 e2
    subst e1 e2
    refine ⟨v, w, g, ?_, h, rfl, Ext.refl _ _ _, rfl⟩
    cases xr with
    | true =>
      simp only [if_true, bz] at q1
      injection q1 with q1
      subst q1
      simp [execOp, ho, hv, Go.Op.unary, Go.Op.intBits]
    | false =>
      simp only [Bool.false_eq_true, if_false, bz] at q1
      injection q1 with q1
      subst q1
      simp [execOp, ho, hv, Go.Op.unary, Go.Op.intArith]
  · cases he
theorem part_one {ty : TypeId} {u : TypeDesc} (hu : P.underlying ty = some u) (ha : aggT u = false) {cs : Array Value} {off : Nat} {v : Value} (hc : cs[off]? = some v) : (part ty cs off).run P w = .ok v w := by
  unfold part
  rw [Sem.run_bind, run_isAgg' hu, ha]
  simp [hc]
theorem equalIn_plain {ty : TypeId} {u : TypeDesc} (hu : P.underlying ty = some u) {z x y : Value} (hd : plainT u z = true) {q : Bool} (h : veq z x y = some q) (k : Nat) : (Go.Op.equalIn (k + 1) ty x y).run P w = .ok q w := by
  unfold veq at h
  split at h
  · cases u <;> first | (cases hd; done) | skip
    injection h with h; subst h
    simp [Go.Op.equalIn, run_underlying hu]
  · cases u <;> first | (cases hd; done) | skip
    injection h with h; subst h
    simp [Go.Op.equalIn, run_underlying hu, beq_toListBytes]
  · cases u <;> first | (cases hd; done) | skip
    split at h
    · rename_i hk
      injection h with h; subst h
      simp [Go.Op.equalIn, run_underlying hu, hk.1, hk.2]
    · cases h
  · cases h
theorem plainT_agg {u : TypeDesc} {z : Value} (h : plainT u z = true) : aggT u = false := by
  cases u <;> cases z <;> first | rfl | cases h
theorem eqFields_ok {k : Nat} {xs ys : Array Value} : ∀ {fl : List Field} {z : List Value} {as_ bs : List D} {j : Nat} {q : Bool}, PlainF P j fl z → veqs z as_ bs = some q → (∀ (i : Nat) v, as_[i]? = some (.v v) → xs[j + i]? = some v) → (∀ (i : Nat) v, bs[i]? = some (.v v) → ys[j + i]? = some v) →
    (Op.eqFields (k + 1) xs ys fl).run P w = .ok q w
  | [], _, as_, bs, j, q, .nil, h, _, _ => by
    cases as_ <;> cases bs <;> simp [veqs] at h
    subst h
    simp [Op.eqFields]
  | f :: fl, _, as_, bs, j, q, .cons ho hn hu hd hr, h, hx, hy => by
    unfold veqs at h
    split at h
    · contradiction
    · rename_i z' zs x r y r' e1
      injection e1 with e1 e1'
      subst e1 e1'
      split at h
      · rename_i q1 q2 h1 h2
        injection h with h
        subst h
        have hxx := hx 0 x rfl
        have hyy := hy 0 y rfl
        have hrec := eqFields_ok (xs := xs) (ys := ys) (k := k) hr h2 (fun i v hi => by have := hx (i + 1) v (by simpa using hi); rw [← this]; congr 1; omega) (fun i v hi => by have := hy (i + 1) v (by simpa using hi); rw [← this]; congr 1; omega)
        have hn' : f.name ≠ "_" := by simpa using hn
        subst ho
        have p1 := part_one (w := w) hu (plainT_agg hd) (by simpa using hxx)
        have p2 := part_one (w := w) hu (plainT_agg hd) (by simpa using hyy)
        have p3 := equalIn_plain (w := w) hu hd h1 k
        rw [Op.eqFields]
        simp only [if_pos hn', Sem.run_bind, p1, p2, p3, Result.andThen_ok]
        cases q1
        · simp
        · simpa using hrec
      · cases h
    · cases h
theorem gives_eqa {ne : Bool} {ty ty' : TypeId} {x y : Operand} {x' y' : Opd} {fs : Array Field} {z : List Value} (ho : o.op = .binOp (if ne then .neq else .eql) ty x y ty') (hx : MOpd x x') (hy : MOpd y y') (hu : P.underlying ty = some (.struct fs)) (hp : P.stoodInHeld ty = false) (hqt : P.eqGuardType P.depth ty = false) (hf : PlainF P 0 fs.toList z)
    (h : SN g w n a.tmps s) (he : evOp call t (.eqa ne z x' y') s = some (d, s')) : Gives P o g w n a s d s' := by
  obtain ⟨L, hL⟩ := rd_at h hx
  obtain ⟨L', hL'⟩ := rd_at h hy
  simp only [evOp] at he
  split at he
  · rename_i as_ bs h1 h2
    rw [h1] at hL
    rw [h2] at hL'
    obtain ⟨q, q1, q2⟩ := Option.map_eq_some_iff.1 he
    injection q2 with e1 e2
    subst e1 e2
    obtain ⟨xs, r1, r2, r3⟩ := (show RV g w (L 0) (a.eval x) (.agg as_) from hL)
    obtain ⟨ys, r4, r5, r6⟩ := (show RV g w (L' 0) (a.eval y) (.agg bs) from hL')
    have hfo : P.fieldsOf ty = fs := by simp [Program.fieldsOf, hu]
    have hE : (Go.Op.equalIn (9999 + 1) ty (.agg xs) (.agg ys)).run P w = .ok q w := by
      rw [run_equalIn_struct (P := P) w 9999 ty xs ys (by rw [hfo]; exact hu) hp, hfo]
      refine eqFields_ok (k := 9998) hf q1 (fun i v hi => ?_) (fun i v hi => ?_)
      · obtain ⟨y, k1, k2⟩ := r3 i _ hi
        rw [Nat.zero_add, k1, show y = v from k2]
      · obtain ⟨y, k1, k2⟩ := r6 i _ hi
        rw [Nat.zero_add, k1, show y = v from k2]
    have hG : ∀ op, (Go.eqGuard op ty x y (.agg xs) (.agg ys)).run P w = .ok () w := fun op => by
      unfold Go.eqGuard
      split <;> simp [Sem.run_bind, run_program, hqt]
    refine ⟨.bool (q != ne), w, g, ?_, h, rfl, Ext.refl _ _ _, rfl⟩
    unfold execOp
    have hB : (Go.binOp (if ne then .neq else .eql) ty (.agg xs) (.agg ys)).run P w = .ok (.bool (q != ne)) w := by
      cases ne with
      | false =>
        show ((do pure (Value.bool (← Go.Op.equalIn (9999 + 1) ty (.agg xs) (.agg ys))) : Sem Value)).run P w = _
        rw [Sem.run_bind, hE]; simp
      | true =>
        show ((do pure (Value.bool !(← Go.Op.equalIn (9999 + 1) ty (.agg xs) (.agg ys))) : Sem Value)).run P w = _
        rw [Sem.run_bind, hE]; simp
    simp only [ho, r1, r4, Sem.run_bind, hG, Result.andThen_ok, hB, Sem.run_pure]
  · cases he
end
end Go.Proofs.Ytfopbiiffiickaa.Ev
namespace Go.Proofs.Ytfopbiiffiickaa.Ev
open Go
variable {P : Program}
section
variable {o : Oper} {g : G} {w : World} {n : Nat} {a : Act} {s s' : S} {d : D} {call : Caller} {t : Option Nat}

/-! ### Calls that only look -/
/-- Of all that there is, nothing is ever written again. -/
def gz (w : World) : G := ⟨w.heap.size, fun _ _ => none, fun b => match w.heap[b]? with | some (.cells cs _ _) => cs.size | _ => 0, fun _ => none, fun _ => false⟩
theorem frz0 {w : World} (b o : Nat) (h : (w.cell? ⟨b, o, none⟩).isSome) : o < (gz w).fr b := by
  unfold World.cell? at h
  simp only [Option.isSome_none, Bool.false_eq_true, ↓reduceIte] at h
  simp only [gz]
  split at h
  · rename_i hb
    rw [hb]
    simp only
    exact (Array.getElem?_eq_some_iff.1 (Option.isSome_iff_exists.1 h).choose_spec).1
  · cases h
theorem invz (w : World) : Inv (gz w) w where
  base := Nat.le_refl _
  fresh b hb := by
    refine ⟨?_, rfl⟩
    simp only [gz]
    rw [Array.getElem?_eq_none hb]
  box f s b h := by cases h
  inj f s f' s' b h := by cases h
  tk b l h := by cases h
  cells b o h := by
    simp only [gz] at h
    split at h
    · rename_i hb
      unfold World.cell?
      simp only [hb, Option.isSome_none, Bool.false_eq_true, ↓reduceIte]
      rw [Array.getElem?_eq_getElem h]; rfl
    · cases h
  dm b h := by cases h
  dt b h := by cases h
theorem sbz (w : World) : SB (gz w) w [] where
  rel f s ds h := by simp [bxl] at h
  dom f s h := by cases h
  bnd f s ds d h := by simp [bxl] at h
theorem fr_le (h : Inv g w) (b : Nat) : g.fr b ≤ (gz w).fr b := by
  cases hq : g.fr b with
  | zero => exact Nat.zero_le _
  | succ q => exact frz0 b q (h.cells b q (by omega))
theorem RF.toz {x : Value} {d : D} (hi : Inv g w) (h : RF w g.fr x d) : RF w (gz w).fr x d := h.mono (fun _ _ _ => rfl) (fr_le hi)
theorem gz_fr {b : Nat} {cs : Array Value} {e : TypeId} {q : Nat × Nat} (h : w.heap[b]? = some (.cells cs e q)) : (gz w).fr b = cs.size := by simp only [gz, h]
theorem Own.toz {ℓ : Loc} {x : Value} {m : Mode} {z : Nat} {xs : List D} (hi : Inv g w) (h : Own g w ℓ x m z xs) : RF w (gz w).fr x (.sl .ro z xs) := by
  obtain ⟨b, off, cap, cur, e, val, rfl, h2, h3, h4, h5, h6, h7, h7', h8, h9, h10⟩ := h
  refine .ro b off cap z xs val h3 h4 (.inr ?_) h8 h9 fun i d j c p q => (h10 i d j c p q).toz hi
  rw [gz_fr h2]
  have : xs.length * z ≤ cap * z := Nat.mul_le_mul_right z h3
  omega
theorem snp1_ok (h : SN g w n a.tmps s) {ℓ ℓ' : Loc} {x : Value} {d d' : D} (hx : RC g w ℓ x d) (hd : d.snp1 s = some d') : RC (gz w) w ℓ' x d' := by
  have hi := h.st.inv
  cases d with
  | v y =>
    simp only [D.snp1] at hd
    split at hd
    · injection hd with hd; subst hd; exact hx
    · cases hd
  | sl m z xs => cases m with
    | nl => injection hd with hd; subst hd; exact RF.toz hi hx
    | ro => injection hd with hd; subst hd; exact RF.toz hi hx
    | app => injection hd with hd; subst hd; exact Own.toz hi (show Own g w ℓ x .app z xs from hx)
    | mu => injection hd with hd; subst hd; exact Own.toz hi (show Own g w ℓ x .mu z xs from hx)
  | ref f b off m z =>
    obtain ⟨hRL, blk, cap, off', k1, rfl, k3, k4, k5, _⟩ := hx
    simp only [D.snp1] at hd
    split at hd
    · rename_i hm0
      subst hm0
      injection hd with hd
      subst hd
      exact .ro blk off' cap z [] (fun _ _ => undef) (Nat.zero_le _) k4 (.inl rfl) (fun i d h => by simp at h) (fun i d j c h => by simp at h) (fun i d j c h => by simp at h)
    obtain ⟨cs, h1, h2⟩ := Option.bind_eq_some_iff.1 hd
    have hc : off + m * z ≤ cs.length ∧ cs.all D.rf1 = true := by
      by_cases hc : off + m * z ≤ cs.length ∧ cs.all D.rf1 = true
      · exact hc
      · rw [if_neg hc] at h2; cases h2
    rw [if_pos hc] at h2
    injection h2 with h2
    subst h2
    obtain ⟨b1, vs, et, q1, q2, q3, q4⟩ := (h.st.sb.rel f b cs (bx_bxl h1)).c hRL
    rw [k1] at q1
    injection q1 with q1
    subst q1
    exact ref_ro k3 k4 (k5.imp (fun q => by omega) id) q2 hc.2 (fun c d hcd => by
      obtain ⟨y, r1, r2⟩ := q4 c d hcd
      exact ⟨y, r1, (RC.toRF r2 (List.all_eq_true.1 hc.2 d (List.mem_of_getElem? hcd))).toz hi⟩) (by rw [gz_fr q2]; exact q3) hc.1
  | _ => cases hd
theorem snpL_len {ds : List D} : ∀ {ds' : List D}, snpL s ds = some ds' → ds'.length = ds.length ∧ ∀ (c : Nat) d', ds'[c]? = some d' → ∃ d, ds[c]? = some d ∧ d.snp1 s = some d' := by
  induction ds with
  | nil => intro ds' h; simp only [snpL] at h; injection h with h; subst h; exact ⟨rfl, fun c d h => by simp at h⟩
  | cons x xs ih =>
    intro ds' h
    simp only [snpL] at h
    split at h
    · rename_i d1 r1 h1 h2
      injection h with h
      subst h
      obtain ⟨k1, k2⟩ := ih h2
      refine ⟨by simp [k1], fun c d' hc => ?_⟩
      cases c with
      | zero => simp at hc; subst hc; exact ⟨x, rfl, h1⟩
      | succ c => obtain ⟨d, q1, q2⟩ := k2 c d' (by simpa using hc); exact ⟨d, by simpa using q1, q2⟩
    · cases h
theorem snp1_agg {d d' : D} (h : d.snp1 s = some d') : d'.aggB = false := by
  cases d with
  | v y =>
    simp only [D.snp1] at h
    split at h
    · injection h with h; subst h; rfl
    · cases h
  | sl m z xs => cases m <;> (injection h with h; subst h; rfl)
  | ref f b off m z =>
    simp only [D.snp1] at h
    split at h
    · injection h with h; subst h; rfl
    obtain ⟨cs, h1, h2⟩ := Option.bind_eq_some_iff.1 h
    split at h2
    · injection h2 with h2
      subst h2; rfl
    · cases h2
  | _ => cases h
theorem snp_ok (h : SN g w n a.tmps s) {L : Nat → Nat → Loc} {L' : Nat → Loc} {x : Value} {d d' : D} (hx : RT g w L x d) (hd : d.snp s = some d') : RV (gz w) w L' x d' := by
  rcases agg_or d with ⟨ds, rfl⟩ | ha
  · simp only [D.snp] at hd
    obtain ⟨ds', h1, rfl⟩ := Option.map_eq_some_iff.1 hd
    obtain ⟨cs, k1, k2, k3⟩ := (show RV g w (L 0) x (.agg ds) from hx)
    obtain ⟨k4, k5⟩ := snpL_len h1
    refine ⟨cs, k1, by rw [k2, k4], fun c d hc => ?_⟩
    obtain ⟨d0, q1, q2⟩ := k5 c d hc
    obtain ⟨y, q3, q4⟩ := k3 c d0 q1
    exact ⟨y, q3, snp1_ok h q4 q2⟩
  · have hd' : d.snp1 s = some d' := by cases d <;> first | exact hd | cases ha
    have ht : d.tupB = false := by cases d <;> first | rfl | cases hd'
    rw [RT_ne ht, RV_ne ha] at hx
    rw [RV_ne (snp1_agg hd')]
    exact snp1_ok h hx hd'
theorem snpA_len {ys : List Opd} : ∀ {ds : List D}, snpA s ys = some ds → ds.length = ys.length ∧ ∀ (i : Nat) d, ds[i]? = some d → ∃ y, ys[i]? = some y ∧ (rdR y s).snp s = some d := by
  induction ys with
  | nil => intro ds h; simp only [snpA] at h; injection h with h; subst h; exact ⟨rfl, fun c d h => by simp at h⟩
  | cons x xs ih =>
    intro ds h
    simp only [snpA] at h
    split at h
    · rename_i d1 r1 h1 h2
      injection h with h
      subst h
      obtain ⟨k1, k2⟩ := ih h2
      refine ⟨by simp [k1], fun c d' hc => ?_⟩
      cases c with
      | zero => simp at hc; subst hc; exact ⟨x, rfl, h1⟩
      | succ c => obtain ⟨d, q1, q2⟩ := k2 c d' (by simpa using hc); exact ⟨d, by simpa using q1, q2⟩
    · cases h
theorem rdR_at (h : SN g w n a.tmps s) {x : Operand} {x' : Opd} (hm : MOpd x x') : ∃ L, RT g w L (a.eval x) (rdR x' s) := by
  cases hm with
  | t n => exact ⟨_, h.st.e n⟩
  | m n => exact rd_at h (MOpd.m n)
  | c x => exact rd_at h (MOpd.c x)
  | cn => exact rd_at h MOpd.cn
  | f n hn => exact rd_at h (MOpd.f n hn)
/-- Nothing that was there is changed. -/
theorem same_ok {w' : World} (h : SN g w n a.tmps s) (ho : w'.os = w.os) (ht : w'.tape = w.tape) (hp : w'.output = w.output) (hs : w.heap.size ≤ w'.heap.size) (hold : ∀ b, b < w.heap.size → w'.heap[b]? = w.heap[b]?) : SN g w' n a.tmps s ∧ Ext s.k g w g w' := by
  have hi := h.st.inv
  have hfr : ∀ b o, o < g.fr b → b < w.heap.size := fun b o hb => by
    rcases Nat.lt_or_ge b w.heap.size with hl | hl
    · exact hl
    · rw [(hi.fresh b hl).1] at hb; omega
  have htk : ∀ b ℓ, g.tk b = some ℓ → b < w.heap.size := fun b ℓ hb => by
    rcases Nat.lt_or_ge b w.heap.size with hl | hl
    · exact hl
    · rw [(hi.fresh b hl).2] at hb; cases hb
  have hcell : ∀ b o, o < g.fr b → w'.cell? ⟨b, o, none⟩ = w.cell? ⟨b, o, none⟩ := fun b o hb => cell_of_block (hold b (hfr b o hb))
  have hkeep : ∀ ℓ, Keep g w ℓ g w' ℓ := fun ℓ => ⟨hcell, fun _ => Nat.le_refl _, fun _ _ _ q => q, fun b q => ⟨q, rfl, hold b (htk b _ q)⟩, Gr.old hold⟩
  refine ⟨⟨⟨⟨Nat.le_trans hi.base hs, fun b hb => hi.fresh b (by omega), fun f s b q => ?_, hi.inj, hi.tk, fun b o q => ?_, fun b q => ?_, hi.dt⟩, ⟨fun f s ds q => ?_, h.st.sb.dom, h.st.sb.bnd⟩, fun t => (h.st.e t).keep fun i c => hkeep _⟩, h.size⟩,
    ⟨rfl, ho, ht, hp, hs, fun b hb => hold b (Nat.lt_of_lt_of_le hb hi.base), fun _ => Nat.le_refl _, hcell, fun _ _ _ _ h => h, fun b ℓ q _ _ => ⟨q, rfl, hold b (htk b _ q)⟩, fun _ q => q, Gr.old hold⟩⟩
  · obtain ⟨q1, q2, q3⟩ := hi.box f s b q; exact ⟨q1, by omega, q3⟩
  · rw [hcell b o q]; exact hi.cells b o q
  · obtain ⟨q1, q2⟩ := hi.dm b q
    refine ⟨q1, ?_⟩
    have : b < w.heap.size := by
      rcases Nat.lt_or_ge b w.heap.size with hl | hl
      · exact hl
      · rw [Array.getElem?_eq_none hl] at q2; cases q2
    rw [hold b this]; exact q2
  · exact (h.st.sb.rel f s ds q).keep (fun c => hkeep _) fun b hb => hold b (hi.box f s b hb).2.1
theorem does_pcal {ro : Option Nat} (hg : Good P call) {f : Nat} (hf : f < RL) {args : Array Operand} {args' : List Opd} {ts : Array TypeId} (ho : o.op = .call ⟨.value (.func f), args, ts⟩) (hm : MArgs args args') (h : SN g w n a.tmps s) (he : evOp call t (.pcal f args') s = some (d, s')) : Does P ro o g w n a s d s' := by
  rcases hm with @⟨xs, ys, hl, hm⟩
  simp only [evOp] at he
  split at he
  · rename_i ds hds
    split at he
    · rename_i v hcall
      injection he with he
      injection he with e1 e2
      subst e1 e2
      obtain ⟨k1, k2⟩ := snpA_len hds
      obtain ⟨_, h1, h2⟩ := (hg _ _ _ _ _ hcall).1 hf
      have h3 := h2 (gz w) w (xs.toArray.map a.eval) (invz w) (sbz w) (by simp [k1, hl]) (fun i d hi => by
        obtain ⟨y, q1, q2⟩ := k2 i d hi
        have hlt : i < xs.length := by rw [hl]; exact getq_lt q1
        obtain ⟨L, hL⟩ := rdR_at h (hm i _ y (List.getElem?_eq_getElem hlt) q1)
        exact ⟨a.eval xs[i], by simp [hlt], snp_ok h hL q2⟩)
      refine does_enter (fun c => by rw [ho]; exact fun e => by cases e) ?_ h1 (h3.mono ?_)
      · simp [execOp, ho, resolve, Act.eval, Deferred.ofValue, invoke]
      · rintro e w' ⟨x, g', rfl, _, _, _, hx, hr⟩
        obtain ⟨q1, q2⟩ := same_ok h hx.os hx.tape hx.output hx.size hx.old
        exact ⟨x, g, rfl, q1, hr, q2, rfl⟩
    · cases he
  · cases he
/-! ### Steps -/
theorem does_op {ro : Option Nat} (hg : Good P call) {p : Op} (hm : MOp P o.op p) (hRL : ∀ t', t = some t' → t' < RL) (h : SN g w n a.tmps s) (he : evOp call t p s = some (d, s')) : Does P ro o g w n a s d s' := by
  generalize ho : o.op = q at hm
  have nd : ∀ q', o.op = q' → (∀ c, q' ≠ .defer c) → ∀ c, o.op ≠ .defer c := fun q' e hq c => by rw [e]; exact hq c
  cases hm with
  | mv hx => exact (gives_mv (.inl ho) hx h he).does (nd _ ho fun c e => by cases e)
  | asg hx => exact (gives_mv (.inr ho) hx h he).does (nd _ ho fun c e => by cases e)
  | pk hc ha hb => exact (gives_pk ho hc ha hb h he).does (nd _ ho fun c e => by cases e)
  | al hi hz hc h1 => exact (gives_al ho hi hz hc h1 hRL h he).does (nd _ ho fun c e => by cases e)
  | bx hx => exact (gives_bx ho hx hRL h he).does (nd _ ho fun c e => by cases e)
  | ld hp hs => exact (gives_ld ho hp hs h he).does (nd _ ho fun c e => by cases e)
  | ldm hp hs => exact (gives_ldm ho hp hs h he).does (nd _ ho fun c e => by cases e)
  | st hp hx hi hn => exact does_store ho hp hx hi hn h he
  | bin hop hx hy => exact (gives_bin ho hop hx hy h he).does (nd _ ho fun c e => by cases e)
  | no hx => exact (gives_no ho hx h he).does (nd _ ho fun c e => by cases e)
  | xr hx => exact (gives_un (xr := true) ho hx h he).does (nd _ ho fun c e => by cases e)
  | ng hx => exact (gives_un (xr := false) ho hx h he).does (nd _ ho fun c e => by cases e)
  | fa hx hu hf hoff hi h0 => exact (gives_fa ho hx hu hf hoff hi h0 h he).does (nd _ ho fun c e => by cases e)
  | fai hx hu hi h0 hq hoff => exact (gives_fai ho hx hu hi h0 hq hoff h he).does (nd _ ho fun c e => by cases e)
  | ia hx hy hu hi hz => exact (gives_ia ho hx hy hu hi hz h he).does (nd _ ho fun c e => by cases e)
  | ext hx => exact (gives_ext ho hx h he).does (nd _ ho fun c e => by cases e)
  | call hlt hargs => exact does_call hg hlt ho hargs h he
  | calf hlt hargs => exact does_calf hg hlt ho hargs h he
  | cv hf hargs => exact does_cv hg ho hf hargs h he
  | lenS hx hu => exact (gives_len ho hu hx h he).does (nd _ ho fun c e => by cases e)
  | ap hx hy hu hu' hi hz hs hb hzs h0 h1 => exact (gives_ap ho hx hy hu hu' hi hz hs hb hzs h0 h1 h he).does (nd _ ho fun c e => by cases e)
  | bs hl hm hu hi hz hs hzs h0 hlen => exact (gives_bs ho hl hm hu hi hz hs hzs h0 hlen h he).does (nd _ ho fun c e => by cases e)
  | mk hx hy hu hi hz hs hb hzs h0 h1 hze hze1 => exact (gives_mk ho hx hy hu hi hz hs hb hzs h0 h1 hze hze1 h he).does (nd _ ho fun c e => by cases e)
  | bd hu hi hz hzc hl hm hall => exact (gives_bd ho hu hi hz hzc hl hm hall h he).does (nd _ ho fun c e => by cases e)
  | slc hx hu hi hs hlo hhi => exact (gives_slc ho hx hu hi hs hlo hhi h he).does (nd _ ho fun c e => by cases e)
  | eqn hx hu => exact (gives_eqn (ne := false) ho hx hu h he).does (nd _ ho fun c e => by cases e)
  | nen hx hu => exact (gives_eqn (ne := true) ho hx hu h he).does (nd _ ho fun c e => by cases e)
  | eqs hx hy => exact (gives_eqs (ne := false) ho hx hy h he).does (nd _ ho fun c e => by cases e)
  | nes hx hy => exact (gives_eqs (ne := true) ho hx hy h he).does (nd _ ho fun c e => by cases e)
  | eqb hx hy hu => exact (gives_eqb (ne := false) ho hx hy hu h he).does (nd _ ho fun c e => by cases e)
  | neb hx hy hu => exact (gives_eqb (ne := true) ho hx hy hu h he).does (nd _ ho fun c e => by cases e)
  | eqa hx hy hu hp hq hf => exact (gives_eqa (ne := false) ho hx hy hu hp hq hf h he).does (nd _ ho fun c e => by cases e)
  | nea hx hy hu hp hq hf => exact (gives_eqa (ne := true) ho hx hy hu hp hq hf h he).does (nd _ ho fun c e => by cases e)
  | sh hop hx hy => exact (gives_sh ho hop hx hy h he).does (nd _ ho fun c e => by cases e)
  | ci hx hs hu => exact (gives_ci ho hx hs hu h he).does (nd _ ho fun c e => by cases e)
  | mf hlt hm => exact (gives_mf ho hlt hm h he).does (nd _ ho fun c e => by cases e)
  | nck hx => exact (gives_nck ho hx h he).does (nd _ ho fun c e => by cases e)
  | mn hx hl hm => exact (gives_mm (mx := false) ho hx hl hm h he).does (nd _ ho fun c e => by cases e)
  | mx hx hl hm => exact (gives_mm (mx := true) ho hx hl hm h he).does (nd _ ho fun c e => by cases e)
  | bxo hx hu => exact (gives_bxo ho hx hu h he).does (nd _ ho fun c e => by cases e)
  | mkm => exact (gives_mkm ho h he).does (nd _ ho fun c e => by cases e)
  | six hx hy hu => exact (gives_six ho hu hx hy h he).does (nd _ ho fun c e => by cases e)
  | lenT hx hu => exact (gives_lns ho hu hx h he).does (nd _ ho fun c e => by cases e)
  | bst hx hs he' ht => exact (gives_bst ho hx hs he' ht h he).does (nd _ ho fun c e => by cases e)
  | cpy hx hy hu hi hs => exact (gives_cpy ho hx hy hu hi hs h he).does (nd _ ho fun c e => by cases e)
  | pcal hlt hargs => exact does_pcal hg hlt ho hargs h he

structure MStp (P : Program) (n : Nat) (ops : Array Oper) (o : Oper) (p : Stp) : Prop where
  op : MOp P o.op p.op
  t : p.t = o.dst
  lt : ∀ t, p.t = some t → t < n
  rl : ∀ t, p.t = some t → t < RL
  g : match o.guard, p.g with
    | none, none => True
    | some (j, want), some (q, want') => want = want' ∧ (ops[j]?).bind (·.dst) = some q
    | _, _ => False

theorem putO_k (t : Option Nat) (d : D) (s : S) : (Ev.putO t d s).k = s.k := by cases t <;> rfl

theorem stp_ok {ro : Option Nat} (hg : Good P call) {ops : Array Oper} {p : Stp} (hm : MStp P n ops o p) (h : SN g w n a.tmps s) (he : evStp call p s = some s') {rest : Act → World → Prop} {Q : Exit → Act → World → Prop}
    (hn : ∀ a' w' g', SN g' w' n a'.tmps s' → Ext s.k g w g' w' → s'.k = s.k → a'.defers = a.defers → rest a' w') :
    if Region.wanted o (yielded ops a.tmps) then o.wpIn (W ro) 0 P a w rest Q else (∀ f, o.about P w a.eval = some f → (W ro).fn f) ∧ rest (a.put o.dst undef) w := by
  have put_def : ∀ (x : Value), (a.put o.dst x).defers = a.defers := fun x => by unfold Act.put; split <;> rfl
  have run : ∀ r, evOp call p.t p.op s = some r → s' = Ev.putO p.t r.1 r.2 → o.wpIn (W ro) 0 P a w rest Q := by
    intro r hr hs
    refine does_op (d := r.1) (s' := r.2) hg hm.op hm.rl h hr _ _ fun x w' g' r1 r2 r3 r4 => ?_
    obtain ⟨g2, r5, r6⟩ := r1.putO (a := a) (t := p.t) hm.lt r2
    rw [← hm.t]
    rw [r4] at r6
    exact hn _ w' g2 (hs ▸ r5) (r3.trans r6) (by rw [hs, putO_k, r4]) (by rw [hm.t]; exact put_def x)
  have skip : s' = Ev.putO p.t (.v undef) s → (∀ f, o.about P w a.eval = some f → (W ro).fn f) ∧ rest (a.put o.dst undef) w := by
    intro hs
    obtain ⟨g2, r5, r6⟩ := h.putO (a := a) (t := p.t) hm.lt (x := undef) (d := .v undef) (j := 0) rfl
    rw [← hm.t]
    exact ⟨fun _ _ => trivial, hn _ w g2 (hs ▸ r5) r6 (by rw [hs, putO_k]) (by rw [hm.t]; exact put_def undef)⟩
  have hgd := hm.g
  unfold evStp at he
  cases hpg : p.g with
  | none =>
    rw [hpg] at he hgd
    cases hog : o.guard with
    | some q => rw [hog] at hgd; exact hgd.elim
    | none =>
      simp only at he
      obtain ⟨r, h1, h2⟩ := Option.map_eq_some_iff.1 he
      simp only [Region.wanted, hog, if_true]
      exact run r h1 h2.symm
  | some qw =>
    obtain ⟨q, want⟩ := qw
    rw [hpg] at he hgd
    cases hog : o.guard with
    | none => rw [hog] at hgd; exact hgd.elim
    | some jw =>
      obtain ⟨j, want'⟩ := jw
      rw [hog] at hgd
      obtain ⟨rfl, hdst⟩ := hgd
      simp only at he
      have hq := h.st.e q
      split at he
      · rename_i b hb
        rw [hb] at hq
        have hv : a.tmps.getD q undef = .bool b := hq
        have hy : yielded ops a.tmps j = some b := by
          unfold yielded
          rw [hdst]
          simp only [Option.bind_some]
          have : a.tmps[q]? = some (.bool b) := by
            rw [Array.getD_eq_getD_getElem?] at hv
            cases h9 : a.tmps[q]? with
            | none => rw [h9] at hv; simp [undef] at hv
            | some v => rw [h9] at hv; simp at hv; rw [hv]
          rw [this]
        simp only [Region.wanted, hog, hy]
        by_cases e : b = want'
        · subst e
          rw [if_pos rfl] at he
          obtain ⟨r, h1, h2⟩ := Option.map_eq_some_iff.1 he
          simp only [beq_self_eq_true, if_true]
          exact run r h1 h2.symm
        · rw [if_neg e] at he
          injection he with he
          have : (some b == some want') = false := by simp [e]
          simp only [this, Bool.false_eq_true, if_false]
          exact skip he.symm
      · rename_i x hnb hx
        rw [hx] at hq
        have hv : a.tmps.getD q undef = x := hq
        have hy : yielded ops a.tmps j = none := by
          unfold yielded
          rw [hdst]
          simp only [Option.bind_some]
          split
          · rename_i b hb
            rw [Array.getD_eq_getD_getElem?, hb] at hv
            simp at hv
            exact absurd hv.symm (hnb b)
          · rfl
        injection he with he
        simp only [Region.wanted, hog, hy]
        simp only [show ((none : Option Bool) == some want') = false from rfl, Bool.false_eq_true, if_false]
        exact skip he.symm
      · cases he

/-- The operations of a region, in the order of the text. -/
inductive MOps (P : Program) (n : Nat) (ops : Array Oper) : List Nat → List Stp → Prop
  | nil : MOps P n ops [] []
  | cons {i r o p ps} (hi : ops[i]? = some o) (h : MStp P n ops o p) (hr : MOps P n ops r ps) : MOps P n ops (i :: r) (p :: ps)
theorem ops_ok {ro : Option Nat} (hg : Good P call) {ops : Array Oper} {l : List Nat} {ps : List Stp} (hm : MOps P n ops l ps) {Q : Exit → Act → World → Prop} : ∀ {g : G} {w : World} {a : Act} {s : S}, SN g w n a.tmps s → evOps call ps s = some s' →
    (∀ a' w' g', SN g' w' n a'.tmps s' → Ext s.k g w g' w' → s'.k = s.k → a'.defers = a.defers → Q .normal a' w') → wpOpsIn (W ro) 0 P ops Q l a w := by
  induction hm with
  | nil => intro g w a s h he hq; simp only [evOps] at he; injection he with he; subst he; exact hq a w g h (Ext.refl _ _ _) rfl rfl
  | cons hi hst hr ih =>
    intro g w a s h he hq
    simp only [evOps] at he
    obtain ⟨s1, h1, h2⟩ := Option.bind_eq_some_iff.1 he
    simp only [wpOpsIn, hi]
    exact stp_ok hg hst h h1 fun a' w' g' r1 r2 r3 r4 => ih r1 h2 fun a2 w2 g2 q1 q2 q3 q4 => hq a2 w2 g2 q1 (r2.trans (by rw [r3] at q2; exact q2)) (q3.trans r3) (q4.trans r4)
end
end Go.Proofs.Ytfopbiiffiickaa.Ev
set_option maxRecDepth 4000
namespace Go.Proofs.Ytfopbiiffiickaa.Ev
open Go
variable {P : Program}

def mkD (r : Nat) : Deferred := { target := .collected r, args := #[] }
/-- Which blocks for deferred calls have been laid. -/
def Marks (g g' : G) (ds ds' : List Deferred) : Prop := ∃ m : List Nat, ds' = m.map mkD ++ ds ∧ m.Nodup ∧ ∀ b ∈ m, g.dm b = false ∧ g'.dm b = true
theorem Marks.same {g g' : G} {ds ds' : List Deferred} (h : ds' = ds) : Marks g g' ds ds' := ⟨[], by simp [h], List.nodup_nil, fun b hb => by simp at hb⟩
theorem Marks.trans {k k' : Nat} {g g1 g2 : G} {w w1 w2 : World} {d d1 d2 : List Deferred} (h : Marks g g1 d d1) (h' : Marks g1 g2 d1 d2) (e : Ext k g w g1 w1) (e' : Ext k' g1 w1 g2 w2) : Marks g g2 d d2 := by
  obtain ⟨m, rfl, h2, h3⟩ := h
  obtain ⟨m', rfl, h5, h6⟩ := h'
  refine ⟨m' ++ m, by simp, List.nodup_append.2 ⟨h5, h2, fun a ha b hb hab => ?_⟩, fun b hb => ?_⟩
  · subst hab
    have := (h6 a ha).1
    rw [(h3 a hb).2] at this
    cases this
  · rcases List.mem_append.1 hb with hb | hb
    · obtain ⟨q1, q2⟩ := h6 b hb
      refine ⟨?_, q2⟩
      cases hq : g.dm b with
      | false => rfl
      | true => rw [e.dm b hq] at q1; cases q1
    · exact ⟨(h3 b hb).1, e'.dm b (h3 b hb).2⟩

section
variable {g : G} {w : World} {n : Nat} {tmps : Array Value} {s : S}

theorem wr_putObj {g : G} {w : World} {b : Nat} (ob : Obj) (hb : g.base ≤ b) (hf : g.fr b = 0) (ht : g.tk b = none) (hd : g.dm b = false) (h0 : ∀ o, w.cell? ⟨b, o, none⟩ = none) : Wr g w b (w.putObj b ob) :=
  ⟨rfl, rfl, rfl, World.putObj_size, fun b' hb' => World.putObj_heap_other hb', hb, hf, ht, hd, fun b' o q => by
    by_cases e : b' = b
    · subst e; rw [h0 o] at q; cases q
    · rw [cell_of_block (World.putObj_heap_other e)]; exact q⟩

/-- A record's state is written. -/
theorem wrec_ok (h : SN g w n tmps s) {f b l st j rid st' j' : Nat} {ks : List Nat} {caps : List D} {r : Loop} (hRL : RL ≤ b) (hbx : Ev.bx f b s = some (.rcd st j rid ks :: caps)) (hl : g.bx f b = some l) (hr : w.heap[l]? = some (.loop r)) (r' : Loop)
    (h1 : r'.params = r.params ∧ r'.assign = r.assign ∧ r'.body = r.body ∧ r'.tmps = r.tmps) (h2 : r'.state = stOf st') (h3 : r'.pending = jumpOf j') :
    SN g (w.putObj l (.loop r')) n tmps (sbx f b (.rcd st' j' rid ks :: caps) s) ∧ ∀ k, Ext k g w g (w.putObj l (.loop r')) := by
  obtain ⟨i1, i2, i3, i4⟩ := h.st.inv.box f b l hl
  have hW := wr_putObj (w := w) (.loop r') i1 i3 i4 (h.st.inv.mkl hr) fun o => by simp [World.cell?, hr]
  refine ⟨⟨⟨hW.inv h.st.inv, ⟨fun f' b' ds' hds' => ?_, fun f' b' hd => ?_, fun f' b' ds' d' hds' hd' => ?_⟩, fun t' => ?_⟩, h.size⟩, fun k => hW.ext k⟩
  · rw [B_sbx hbx] at hds'
    split at hds'
    · rename_i e'
      obtain ⟨rfl, rfl⟩ := e'
      injection hds' with hds'
      subst hds'
      obtain ⟨l0, r0, st0, j0, rid0, ks0, caps0, e1, e2, e3, e4, e5, e6, e7, e8, e9⟩ := (h.st.sb.rel f' b' _ (bx_bxl hbx)).r hRL
      rw [hl] at e1
      injection e1 with e1
      subst e1
      rw [hr] at e2
      injection e2 with e2
      injection e2 with e2
      subst e2
      injection e3 with e3 e3'
      injection e3 with x1 x2 x3 x4
      subst x1 x2 x3 x4 e3'
      refine .inr ⟨hRL, l, r', st', j', rid, ks, caps, hl, World.putObj_heap_same i2, rfl, e4, by rw [h1.1, h1.2.1, h1.2.2.1, h1.2.2.2]; exact e5, h2, h3, e8, fun c d t hc ht => ?_⟩
      rw [h1.2.2.2]
      exact (e9 c d t hc ht).keep (hW.keep _)
    · rename_i hne
      refine (h.st.sb.rel f' b' ds' hds').keep (fun c => hW.keep _) fun b1 hb1 => hW.same b1 fun e' => ?_
      subst e'
      exact hne (h.st.inv.inj _ _ _ _ _ hb1 hl)
  · rw [B_sbx hbx]
    split
    · rfl
    · exact h.st.sb.dom f' b' hd
  · rw [B_sbx hbx] at hds'
    split at hds'
    · rename_i e'
      obtain ⟨rfl, rfl⟩ := e'
      injection hds' with hds'
      subst hds'
      rcases List.mem_cons.1 hd' with rfl | hd'
      · rfl
      · exact h.st.sb.bnd _ _ _ _ (bx_bxl hbx) (List.mem_cons_of_mem _ hd')
    · exact h.st.sb.bnd _ _ _ _ hds' hd'
  · rw [sbx_k, sbx_e]
    exact (h.st.e t').keep fun i c => hW.keep _

/-- A block for deferred calls. -/
def G.mark (g : G) (r : Nat) : G := { g with dm := fun b => if b = r then true else g.dm b }
theorem newmark_ok (h : SN g w n tmps s) : SN (g.mark w.heap.size) (w.alloc (.deferred (some []))) n tmps s ∧ Ext s.k g w (g.mark w.heap.size) (w.alloc (.deferred (some []))) ∧ g.dm w.heap.size = false := by
  have hi := h.st.inv
  have hdm : g.dm w.heap.size = false := by
    cases hq : g.dm w.heap.size with
    | false => rfl
    | true => have := getq_lt' (hi.dm _ hq).2; omega
  have hK : ∀ ℓ, Keep g w ℓ (g.mark w.heap.size) (w.alloc (.deferred (some []))) ℓ := fun ℓ =>
    ⟨fun b o ho => cell_of_block (alloc_same _ _ _ (hi.frlt ho)), fun b => Nat.le_refl _, fun f s' b hb => hb, fun b hb => ⟨hb, rfl, alloc_same _ _ _ (hi.lt hb)⟩, gr_alloc _ _⟩
  refine ⟨⟨⟨⟨?_, ?_, ?_, hi.inj, hi.tk, ?_, ?_, fun b hb => ?_⟩, ⟨fun f b ds hds => ?_, h.st.sb.dom, h.st.sb.bnd⟩, fun t => ?_⟩, h.size⟩, ?_, hdm⟩
  · exact Nat.le_trans hi.base (by rw [alloc_size]; omega)
  · intro b hb
    exact hi.fresh b (by rw [alloc_size] at hb; omega)
  · intro f b b' hb
    obtain ⟨a1, a2, a3, a4⟩ := hi.box f b b' hb
    exact ⟨a1, by rw [alloc_size]; omega, a3, a4⟩
  · intro b o ho
    rw [cell_of_block (alloc_same _ _ _ (hi.frlt ho))]
    exact hi.cells b o ho
  · intro b hb
    have hb' : (if b = w.heap.size then true else g.dm b) = true := hb
    split at hb'
    · rename_i e; subst e; exact ⟨hi.base, alloc_new _ _⟩
    · exact ⟨(hi.dm b hb').1, (alloc_same _ _ _ (getq_lt' (hi.dm b hb').2)).trans (hi.dm b hb').2⟩
  · have hb' : (if b = w.heap.size then true else g.dm b) = true := hb
    split at hb'
    · rename_i e; subst e; exact (hi.fresh _ (Nat.le_refl _)).2
    · exact hi.dt b hb'
  · exact (h.st.sb.rel f b ds hds).keep (fun c => hK _) fun b' hb' => alloc_same _ _ _ (hi.box _ _ _ hb').2.1
  · exact (h.st.e t).keep fun i c => hK _
  · exact ⟨rfl, rfl, rfl, rfl, by rw [alloc_size]; omega, fun b hb => alloc_same _ _ _ (Nat.lt_of_lt_of_le hb hi.base), fun _ => Nat.le_refl _, (hK (boxL 0 0 0)).cell, fun _ _ _ _ h => h, fun b ℓ hb h0 hk => (hK ℓ).tk b hb, fun b hb => by
      show (if _ then _ else _) = _
      split
      · rfl
      · exact hb, gr_alloc _ _⟩

/-- A record. -/
theorem newrec_ok {b : Nat} (h : SN g w n tmps s) (hRL : RL ≤ b) (hl : lk b s.l = none) {r : Loop} {rid : Nat} {ks : List Nat} (hrid : RL ≤ rid) (hro : roundOf PP rid = some (r.tmps.size, r.params, r.assign, r.body)) (hst : r.state = .ready) (hpd : r.pending = none) (ht : r.tmps = tmps)
    (hb : ((ks.map fun t => (get t s.e).strip).all (D.cap (s.k + 1))) = true) :
    ∃ g', SN g' (w.alloc (.loop r)) n tmps (s.wl (ins b (.rcd 0 0 rid ks :: ks.map fun t => (get t s.e).strip) s.l)) ∧ g'.bx s.k b = some w.heap.size ∧ Ext s.k g w g' (w.alloc (.loop r)) ∧ (∀ f s' b', g.bx f s' = some b' → g'.bx f s' = some b') := by
  have hnone : g.bx s.k b = none := by
    cases hq : g.bx s.k b with
    | none => rfl
    | some x =>
      have := h.st.sb.dom s.k b (by rw [hq]; rfl)
      rw [← bx_eq _ _ _ (Nat.le_refl _)] at this
      unfold Ev.bx at this
      rw [if_pos (show s.k = s.o.length from rfl), hl] at this
      cases this
  have hi := h.st.inv
  have hK : ∀ ℓ, Keep g w ℓ (g.nbx s.k b w.heap.size) (w.alloc (.loop r)) ℓ := fun ℓ =>
    ⟨fun b o ho => cell_of_block (alloc_same _ _ _ (hi.frlt ho)), fun b => Nat.le_refl _, fun f s' b' hb => by
      show (if f = s.k ∧ s' = b then _ else _) = _
      rw [if_neg fun e => by rw [e.1, e.2, hnone] at hb; cases hb]
      exact hb, fun b hb => ⟨hb, rfl, alloc_same _ _ _ (hi.lt hb)⟩, gr_alloc _ _⟩
  refine ⟨g.nbx s.k b w.heap.size, ⟨⟨⟨?_, ?_, ?_, ?_, hi.tk, ?_, fun b hb => ⟨(hi.dm b hb).1, (alloc_same _ _ _ (getq_lt' (hi.dm b hb).2)).trans (hi.dm b hb).2⟩, hi.dt⟩, ⟨fun f' b' ds' hds' => ?_, fun f' b' hd => ?_, fun f' b' ds' d' hds' hd' => ?_⟩, fun t' => ?_⟩, h.size⟩, ?_, ?_, (hK (boxL 0 0 0)).bx⟩
  · exact Nat.le_trans hi.base (by rw [alloc_size]; omega)
  · intro b hb
    exact hi.fresh b (by rw [alloc_size] at hb; omega)
  · intro f' s' b' hb'
    have hb'' : (if f' = s.k ∧ s' = b then some w.heap.size else g.bx f' s') = some b' := hb'
    split at hb''
    · injection hb'' with hb''
      subst hb''
      exact ⟨hi.base, by rw [alloc_size]; omega, (hi.fresh _ (Nat.le_refl _)).1, (hi.fresh _ (Nat.le_refl _)).2⟩
    · obtain ⟨a1, a2, a3, a4⟩ := hi.box _ _ _ hb''
      exact ⟨a1, by rw [alloc_size]; omega, a3, a4⟩
  · intro f1 s1 f2 s2 b' h1 h2
    have h1' : (if f1 = s.k ∧ s1 = b then some w.heap.size else g.bx f1 s1) = some b' := h1
    have h2' : (if f2 = s.k ∧ s2 = b then some w.heap.size else g.bx f2 s2) = some b' := h2
    split at h1' <;> split at h2'
    · rename_i e1 e2; exact ⟨e1.1.trans e2.1.symm, e1.2.trans e2.2.symm⟩
    · injection h1' with h1'; have := (hi.box _ _ _ h2').2.1; omega
    · injection h2' with h2'; have := (hi.box _ _ _ h1').2.1; omega
    · exact hi.inj _ _ _ _ _ h1' h2'
  · intro b o ho
    rw [cell_of_block (alloc_same _ _ _ (hi.frlt ho))]
    exact hi.cells b o ho
  · rw [B_new _ hl] at hds'
    split at hds'
    · rename_i e'
      obtain ⟨rfl, rfl⟩ := e'
      injection hds' with hds'
      subst hds'
      refine .inr ⟨hRL, w.heap.size, r, 0, 0, rid, ks, _, by show (if _ then _ else _) = _; rw [if_pos ⟨rfl, rfl⟩], alloc_new _ _, rfl, hrid, hro, hst, hpd, by simp, fun c d t hc hk => ?_⟩
      rw [List.getElem?_map, hk] at hc
      simp only [Option.map_some] at hc
      injection hc with hc
      subst hc
      have hcap : D.cap (s.k + 1) (get t s.e).strip = true := List.all_eq_true.1 hb _ (List.mem_map.2 ⟨t, List.mem_of_getElem? hk, rfl⟩)
      simp only [D.cap, Bool.and_eq_true, Bool.not_eq_true'] at hcap
      have hx := ((h.st.e t).strip (fun _ c' => boxL s.k b' c)).keep fun i c' => hK (boxL s.k b' c)
      rw [RT_ne hcap.1.2, RV_ne hcap.1.1] at hx
      rw [ht]
      exact hx
    · exact (h.st.sb.rel f' b' ds' hds').keep (fun c => hK _) fun b hb => alloc_same _ _ _ (hi.box _ _ _ hb).2.1
  · rw [B_new _ hl]
    split
    · rfl
    · rename_i hne
      refine h.st.sb.dom f' b' ?_
      have : (if f' = s.k ∧ b' = b then some w.heap.size else g.bx f' b').isSome = true := hd
      rwa [if_neg hne] at this
  · rw [B_new _ hl] at hds'
    split at hds'
    · rename_i e'
      obtain ⟨rfl, rfl⟩ := e'
      injection hds' with hds'
      subst hds'
      rcases List.mem_cons.1 hd' with rfl | hd'
      · rfl
      · have hcap := List.all_eq_true.1 hb _ hd'
        simp only [D.cap, Bool.and_eq_true, Bool.not_eq_true'] at hcap
        exact hcap.2
    · exact h.st.sb.bnd _ _ _ _ hds' hd'
  · exact (h.st.e t').keep fun i c => hK _
  · show (if _ then _ else _) = _
    rw [if_pos ⟨rfl, rfl⟩]
  · exact ⟨rfl, rfl, rfl, rfl, by rw [alloc_size]; omega, fun b hb => alloc_same _ _ _ (Nat.lt_of_lt_of_le hb hi.base), fun _ => Nat.le_refl _, (hK (boxL 0 0 0)).cell, eqb (fun f' s' hf => by show (if _ then _ else _) = _; rw [if_neg fun e => by omega]), fun b ℓ hb h0 hk => (hK ℓ).tk b hb, fun _ h => h, gr_alloc _ _⟩

/-- A block for deferred calls is shut. -/
def G.shut (g : G) (r : Nat) : G := { g with dm := fun b => if b = r then false else g.dm b }
theorem shut_ok (h : SN g w n tmps s) {r : Nat} (hr : g.dm r = true) : SN (g.shut r) (w.putObj r (.deferred none)) n tmps s ∧ ∀ k g0 w0, Ext k g0 w0 g w → g0.dm r = false → Ext k g0 w0 (g.shut r) (w.putObj r (.deferred none)) := by
  have hi := h.st.inv
  obtain ⟨h1, h2⟩ := hi.dm r hr
  have hfr : g.fr r = 0 := by
    cases hq : g.fr r with
    | zero => rfl
    | succ q =>
      have := hi.cells r 0 (by omega)
      simp [World.cell?, h2] at this
  have htk := hi.dt r hr
  have hi' : Inv (g.shut r) w := ⟨hi.base, hi.fresh, hi.box, hi.inj, hi.tk, hi.cells, fun b hb => by
    have hb' : (if b = r then false else g.dm b) = true := hb
    split at hb'
    · cases hb'
    · exact hi.dm b hb', fun b hb => by
    have hb' : (if b = r then false else g.dm b) = true := hb
    split at hb'
    · cases hb'
    · exact hi.dt b hb'⟩
  have hW : Wr (g.shut r) w r (w.putObj r (.deferred none)) := wr_putObj _ h1 hfr htk (by show (if _ then _ else _) = _; rw [if_pos rfl]) fun o => by simp [World.cell?, h2]
  have hK : ∀ ℓ, Keep g w ℓ (g.shut r) (w.putObj r (.deferred none)) ℓ := fun ℓ => by have := hW.keep ℓ; exact ⟨this.cell, this.fr, this.bx, this.tk, this.sz⟩
  have hne : ∀ f b blk, g.bx f b = some blk → blk ≠ r := fun f b blk hb e => by
    subst e
    obtain ⟨ds, hds⟩ := Option.isSome_iff_exists.1 (h.st.sb.dom f b (by rw [hb]; rfl))
    rcases h.st.sb.rel f b ds hds with ⟨_, b', cs, et, q1, q2, _⟩ | ⟨_, l, r', st, j, rid, ks, caps, q1, q2, _⟩
    · rw [hb] at q1; injection q1 with q1; subst q1; rw [h2] at q2; cases q2
    · rw [hb] at q1; injection q1 with q1; subst q1; rw [h2] at q2; cases q2
  refine ⟨⟨⟨hW.inv hi', ⟨fun f b ds hds => (h.st.sb.rel f b ds hds).keep (fun c => hK _) fun b' hb' => hW.same b' (hne _ _ _ hb'), h.st.sb.dom, h.st.sb.bnd⟩, fun t => (h.st.e t).keep fun i c => hK _⟩, h.size⟩, fun k g0 w0 e hd => ?_⟩
  have e2 := hW.ext k
  refine ⟨e.base, e.os, e.tape, e.output, by rw [World.putObj_size]; exact e.size, fun b hb => (hW.same b fun x => ?_).trans (e.old b hb), e.fr, fun b o ho => (hW.cell b o (Nat.lt_of_lt_of_le ho (e.fr b))).trans (e.cell b o ho), e.bx, fun b ℓ hb h0 hk => ?_, fun b hb => ?_, e.sz.trans hW.sz⟩
  · rw [x] at hb
    have := e.base
    omega
  · obtain ⟨a1, a2, a3⟩ := e.tk b ℓ hb h0 hk
    exact ⟨a1, a2, (hW.same b fun x => by rw [x, htk] at a1; cases a1).trans a3⟩
  · show (if _ then _ else _) = _
    rw [if_neg fun x => by rw [x, hd] at hb; cases hb]
    exact e.dm b hb

theorem leaves_ok {fn : Func} {R : Ending → World → Prop} {k : Nat} {g0 : G} {w0 : World} : ∀ (m : List Nat) {g : G} {w : World}, SN g w n tmps s → m.Nodup → (∀ b ∈ m, g0.dm b = false ∧ g.dm b = true) → Ext k g0 w0 g w →
    (∀ g' w', SN g' w' n tmps s → Ext k g0 w0 g' w' → ∃ v, (results fn tmps).run P w' = .ok v w' ∧ R (.returned v) w') → LeavesInM (W none) 0 P fn tmps R (m.map mkD) .returning w
  | [], g, w, h, _, _, e, hq => by rw [List.map_nil, LeavesInM]; exact hq g w h e
  | r :: m, g, w, h, hnd, hm, e, hq => by
    obtain ⟨h1, h2⟩ := hm r (by simp)
    obtain ⟨q1, q2⟩ := shut_ok h h2
    rw [List.map_cons, LeavesInM]
    refine ⟨fun x => (by cases x), .inl ⟨r, _, rfl, run_takeDeferred (h.st.inv.dm r h2).2, leaves_ok m q1 (List.nodup_cons.1 hnd).2 (fun b hb => ?_) (q2 _ _ _ e h1) hq⟩⟩
    obtain ⟨h3, h4⟩ := hm b (by simp [hb])
    refine ⟨h3, ?_⟩
    show (if _ then _ else _) = _
    rw [if_neg fun (x : b = r) => (List.nodup_cons.1 hnd).1 (by rw [← x]; exact hb)]
    exact h4
end
end Go.Proofs.Ytfopbiiffiickaa.Ev
namespace Go.Proofs.Ytfopbiiffiickaa.Ev
open Go

/-! ### What a step does, as data -/
theorem qv_of {c : Caller} {n f : Nat} {ds : List D} {d : D} (h : ∀ B : List Bx, B.length = n → c f ds B = some (d, B)) : qv c n f ds = some d := by
  have hx : ∃ d, ∀ B : List Bx, B.length = n → c f ds B = some (d, B) := ⟨d, h⟩
  unfold qv
  rw [dif_pos hx]
  have := (hx.choose_spec (List.replicate n []) (by simp)).symm.trans (h (List.replicate n []) (by simp))
  injection this with this
  injection this with this
  rw [this]
theorem qv_some {c : Caller} {n f : Nat} {ds : List D} {d : D} (h : qv c n f ds = some d) (B : List Bx) (hB : B.length = n) : c f ds B = some (d, B) := by
  unfold qv at h
  split at h
  · rename_i hx
    injection h with h
    rw [← h]
    exact hx.choose_spec B hB
  · cases h

theorem SEq.refl (s : S) : SEq s s := ⟨rfl, rfl, fun _ => rfl⟩
theorem SEq.trans {s t u : S} (h : SEq s t) (h' : SEq t u) : SEq s u := ⟨h.1.trans h'.1, h.2.1.trans h'.2.1, fun n => (h.2.2 n).trans (h'.2.2 n)⟩
theorem SEq.symm {s t : S} (h : SEq s t) : SEq t s := ⟨h.1.symm, h.2.1.symm, fun n => (h.2.2 n).symm⟩

section
variable {c : Caller} {s s' : S}
theorem rd_same {x : Opd} (h : ∀ n ∈ x.rs, get n s.e = get n s'.e) : (rd x s).1 = (rd x s').1 := by
  cases x with
  | t n => simp only [rd]; rw [h n (by simp [Opd.rs])]
  | m n => simp only [rd]; rw [h n (by simp [Opd.rs])]
  | _ => rfl
theorem rd_ot {x : Opd} (h : x.ot = true) : (rd x s).2 = s := by cases x <;> first | rfl | cases h
theorem rd_moved {x : Opd} : (rd x s).2 = moved x.ms s := by cases x <;> rfl
theorem rds_same {xs : List Opd} (h : ∀ n ∈ xs.flatMap Opd.rs, get n s.e = get n s'.e) : rds s xs = rds s' xs := by
  induction xs with
  | nil => rfl
  | cons x r ih =>
    simp only [rds]
    rw [rd_same fun n hn => h n (by simp [hn]), ih fun n hn => h n (by simp only [List.flatMap_cons, List.mem_append]; exact .inr hn)]
theorem lay_same {ps : List (Nat × Nat × Opd)} (h : ∀ n ∈ ps.flatMap (fun p => p.2.2.rs), get n s.e = get n s'.e) (cs : List D) : lay s cs ps = lay s' cs ps := by
  induction ps generalizing cs with
  | nil => rfl
  | cons p r ih =>
    obtain ⟨a, b, x⟩ := p
    have e : (rd x s).1 = (rd x s').1 := rd_same fun n hn => h n (by simp [hn])
    simp only [lay]
    rw [e]
    split
    · exact ih (fun n hn => h n (by simp only [List.flatMap_cons, List.mem_append]; exact .inr hn)) _
    · rfl
theorem optI_same {o : Option Opd} {k : Int} (h : ∀ n ∈ Oop o, get n s.e = get n s'.e) : optI s k o = optI s' k o := by
  cases o with
  | none => rfl
  | some x => simp only [optI]; rw [rd_same (s' := s') fun n hn => h n (by simpa [Oop] using hn)]
theorem mnm_same {mx : Bool} {k : IntKind} {a : Int} {xs : List Opd} (h : ∀ n ∈ xs.flatMap Opd.rs, get n s.e = get n s'.e) : mnm mx k a s xs = mnm mx k a s' xs := by
  induction xs generalizing a with
  | nil => rfl
  | cons x r ih =>
    simp only [mnm]
    rw [rd_same (s' := s') fun n hn => h n (by simp [hn])]
    have ih' := fun a => ih (a := a) fun n hn => h n (by simp only [List.flatMap_cons, List.mem_append]; exact .inr hn)
    split
    · exact ih' _
    · rfl

/-- A step that looks at slots alone gives the same in another state that has these slots. -/
theorem neut_loc {t : Option Nat} {p : Op} {r : D × S} (hp : p.neut = true) (he : evOp c t p s = some r) (h : ∀ n ∈ p.rs, get n s.e = get n s'.e) : r.2 = moved p.ms s ∧ evOp c t p s' = some (r.1, moved p.ms s') := by
  cases p with
  | mv x =>
    simp only [evOp] at he ⊢
    injection he with he
    subst he
    exact ⟨rd_moved, by rw [rd_same (s := s) (s' := s') h]; exact congrArg some (Prod.ext rfl rd_moved)⟩
  | pk q a b =>
    simp only [Op.neut, Bool.and_eq_true] at hp
    have h0 : (rd q s).1 = (rd q s').1 := rd_same fun n hn => h n (by simp [Op.rs, hn])
    have h1 : (rd a s).1 = (rd a s').1 := rd_same fun n hn => h n (by simp [Op.rs, hn])
    have h2 : (rd b s).1 = (rd b s').1 := rd_same fun n hn => h n (by simp [Op.rs, hn])
    simp only [evOp] at he ⊢
    rw [← h0]
    split at he
    · rename_i v hv
      injection he with he
      subst he
      cases v with
      | true => simp only [if_true]; exact ⟨rd_ot hp.1, by rw [h1]; exact congrArg some (Prod.ext rfl (rd_ot hp.1))⟩
      | false => simp only [Bool.false_eq_true, if_false]; exact ⟨rd_ot hp.2, by rw [h2]; exact congrArg some (Prod.ext rfl (rd_ot hp.2))⟩
    · cases he
  | ap w z by_ x y =>
    have h1 : (rd x s).1 = (rd x s').1 := rd_same fun n hn => h n (by simp [Op.rs, hn])
    have h2 : (rd y s).1 = (rd y s').1 := rd_same fun n hn => h n (by simp [Op.rs, hn])
    simp only [evOp] at he ⊢
    rw [← h1, ← h2]
    have e : (rd x s').2 = moved (Op.ap w z by_ x y).ms s' := rd_moved
    have e0 : (rd x s).2 = moved (Op.ap w z by_ x y).ms s := rd_moved
    rw [e]
    rw [e0] at he
    split at he
    · split at he
      · rename_i hc
        rw [if_pos hc]
        injection he with he
        subst he
        exact ⟨rfl, rfl⟩
      · cases he
    · split at he
      · rename_i hc
        rw [if_pos hc]
        injection he with he
        subst he
        exact ⟨rfl, rfl⟩
      · cases he
    · split at he
      · rename_i hc
        rw [if_pos hc]
        injection he with he
        subst he
        exact ⟨rfl, rfl⟩
      · cases he
    · cases he
  | ext x i =>
    have h1 : (rd x s).1 = (rd x s').1 := rd_same fun n hn => h n (by simp [Op.rs, hn])
    cases x with
    | m n => cases hp
    | _ =>
      simp only [evOp] at he ⊢
      rw [← h1]
      split at he
      · obtain ⟨d, q1, q2⟩ := Option.map_eq_some_iff.1 he
        subst q2
        exact ⟨rfl, by rw [q1]; rfl⟩
      · cases he
  | bin op x y =>
    have h1 : (rd x s).1 = (rd x s').1 := rd_same fun n hn => h n (by simp [Op.rs, hn])
    have h2 : (rd y s).1 = (rd y s').1 := rd_same fun n hn => h n (by simp [Op.rs, hn])
    simp only [evOp] at he ⊢
    rw [← h1, ← h2]
    split at he
    · split at he
      · rename_i hk
        rw [if_pos hk]
        obtain ⟨d, q1, q2⟩ := Option.map_eq_some_iff.1 he
        subst q2
        exact ⟨rfl, by rw [q1]; rfl⟩
      · cases he
    · cases he
  | no x =>
    have h1 : (rd x s).1 = (rd x s').1 := rd_same h
    simp only [evOp] at he ⊢
    rw [← h1]
    split at he
    · injection he with he; subst he; exact ⟨rfl, rfl⟩
    · cases he
  | un xr x =>
    have h1 : (rd x s).1 = (rd x s').1 := rd_same h
    simp only [evOp] at he ⊢
    rw [← h1]
    split at he
    · obtain ⟨d, q1, q2⟩ := Option.map_eq_some_iff.1 he
      subst q2
      exact ⟨rfl, by rw [q1]; rfl⟩
    · cases he
  | fa x off =>
    have h1 : (rd x s).1 = (rd x s').1 := rd_same h
    simp only [evOp] at he ⊢
    rw [← h1]
    split at he
    · injection he with he; subst he; exact ⟨rfl, rfl⟩
    · injection he with he; subst he; exact ⟨rfl, rfl⟩
    · cases he
  | nck x =>
    have h1 : (rd x s).1 = (rd x s').1 := rd_same h
    simp only [evOp] at he ⊢
    rw [← h1]
    split at he
    · injection he with he; subst he; exact ⟨rfl, rfl⟩
    · injection he with he; subst he; exact ⟨rfl, rfl⟩
    · cases he
  | ia x i z =>
    have h1 : (rd x s).1 = (rd x s').1 := rd_same fun n hn => h n (by simp [Op.rs, hn])
    have h2 : (rd i s).1 = (rd i s').1 := rd_same fun n hn => h n (by simp [Op.rs, hn])
    simp only [evOp] at he ⊢
    rw [← h1, ← h2]
    split at he
    · split at he
      · rename_i hk
        rw [if_pos hk]
        obtain ⟨d, q1, q2⟩ := Option.map_eq_some_iff.1 he
        subst q2
        exact ⟨rfl, by rw [q1]; rfl⟩
      · cases he
    · split at he
      · rename_i hk
        rw [if_pos hk]
        injection he with he; subst he; exact ⟨rfl, rfl⟩
      · cases he
    · cases he
  | len x =>
    have h1 : (rd x s).1 = (rd x s').1 := rd_same h
    simp only [evOp] at he ⊢
    rw [← h1]
    split at he
    · injection he with he; subst he; exact ⟨rfl, rfl⟩
    · injection he with he; subst he; exact ⟨rfl, rfl⟩
    · cases he
  | six x y =>
    have h1 : (rd x s).1 = (rd x s').1 := rd_same fun n hn => h n (by simp [Op.rs, hn])
    have h2 : (rd y s).1 = (rd y s').1 := rd_same fun n hn => h n (by simp [Op.rs, hn])
    simp only [evOp] at he ⊢
    rw [← h1, ← h2]
    split at he
    · split at he
      · rename_i hc
        rw [if_pos hc]
        obtain ⟨c, q1, q2⟩ := Option.map_eq_some_iff.1 he
        subst q2
        rw [q1]
        exact ⟨rfl, rfl⟩
      · cases he
    · cases he
  | lns x =>
    have h1 : (rd x s).1 = (rd x s').1 := rd_same h
    simp only [evOp] at he ⊢
    rw [← h1]
    split at he
    · injection he with he; subst he; exact ⟨rfl, rfl⟩
    · cases he
  | ci k x =>
    have h1 : (rd x s).1 = (rd x s').1 := rd_same h
    simp only [evOp] at he ⊢
    rw [← h1]
    split at he
    · injection he with he; subst he; exact ⟨rfl, rfl⟩
    · cases he
  | eqn ne x =>
    have h1 : (rd x s).1 = (rd x s').1 := rd_same h
    simp only [evOp] at he ⊢
    rw [← h1]
    split at he
    · injection he with he; subst he; exact ⟨rfl, rfl⟩
    · injection he with he; subst he; exact ⟨rfl, rfl⟩
    · injection he with he; subst he; exact ⟨rfl, rfl⟩
    · cases he
  | mk w z by_ ze x y =>
    have h1 : (rd x s).1 = (rd x s').1 := rd_same fun n hn => h n (by simp [Op.rs, hn])
    have h2 : (rd y s).1 = (rd y s').1 := rd_same fun n hn => h n (by simp [Op.rs, hn])
    simp only [evOp] at he ⊢
    rw [← h1, ← h2]
    split at he
    · split at he
      · rename_i hk
        rw [if_pos hk]
        injection he with he; subst he; exact ⟨rfl, rfl⟩
      · cases he
    · cases he
  | eqs ne x y =>
    have h1 : (rd x s).1 = (rd x s').1 := rd_same fun n hn => h n (by simp [Op.rs, hn])
    have h2 : (rd y s).1 = (rd y s').1 := rd_same fun n hn => h n (by simp [Op.rs, hn])
    simp only [evOp] at he ⊢
    rw [← h1, ← h2]
    split at he
    · injection he with he; subst he; exact ⟨rfl, rfl⟩
    · cases he
  | eqb ne x y =>
    have h1 : (rd x s).1 = (rd x s').1 := rd_same fun n hn => h n (by simp [Op.rs, hn])
    have h2 : (rd y s).1 = (rd y s').1 := rd_same fun n hn => h n (by simp [Op.rs, hn])
    simp only [evOp] at he ⊢
    rw [← h1, ← h2]
    split at he
    · injection he with he; subst he; exact ⟨rfl, rfl⟩
    · cases he
  | eqa ne z x y =>
    have h1 : (rd x s).1 = (rd x s').1 := rd_same fun n hn => h n (by simp [Op.rs, hn])
    have h2 : (rd y s).1 = (rd y s').1 := rd_same fun n hn => h n (by simp [Op.rs, hn])
    simp only [evOp] at he ⊢
    rw [← h1, ← h2]
    split at he
    · obtain ⟨d, q1, q2⟩ := Option.map_eq_some_iff.1 he
      subst q2
      exact ⟨rfl, by rw [q1]; rfl⟩
    · cases he
  | sh op x y =>
    have h1 : (rd x s).1 = (rd x s').1 := rd_same fun n hn => h n (by simp [Op.rs, hn])
    have h2 : (rd y s).1 = (rd y s').1 := rd_same fun n hn => h n (by simp [Op.rs, hn])
    simp only [evOp] at he ⊢
    rw [← h1, ← h2]
    split at he
    · obtain ⟨d, q1, q2⟩ := Option.map_eq_some_iff.1 he
      subst q2
      exact ⟨rfl, by rw [q1]; rfl⟩
    · cases he
  | bs w z xs =>
    have h1 : rds s xs = rds s' xs := rds_same h
    simp only [evOp] at he ⊢
    rw [← h1]
    split at he
    · rename_i hk
      rw [if_pos hk]
      injection he with he; subst he; exact ⟨rfl, rfl⟩
    · cases he
  | mf f xs =>
    have h1 : rds s xs = rds s' xs := rds_same h
    simp only [evOp] at he ⊢
    rw [← h1]
    split at he
    · rename_i hk
      rw [if_pos hk]
      injection he with he; subst he; exact ⟨rfl, rfl⟩
    · cases he
  | bst x =>
    have h1 : (rd x s).1 = (rd x s').1 := rd_same h
    simp only [evOp] at he ⊢
    rw [← h1]
    split at he
    · split at he
      · rename_i hk
        rw [if_pos hk]
        obtain ⟨d, q1, q2⟩ := Option.map_eq_some_iff.1 he
        subst q2
        exact ⟨rfl, by rw [q1]; rfl⟩
      · cases he
    · cases he
  | bd z ps =>
    have h1 : lay s (z.map zc) ps = lay s' (z.map zc) ps := lay_same h _
    simp only [evOp] at he ⊢
    rw [← h1]
    obtain ⟨d, q1, q2⟩ := Option.map_eq_some_iff.1 he
    subst q2
    exact ⟨rfl, by rw [q1]; rfl⟩
  | mm mx x xs =>
    have h1 : (rd x s).1 = (rd x s').1 := rd_same fun n hn => h n (by simp [Op.rs, hn])
    have h2 : ∀ k a, mnm mx k a s xs = mnm mx k a s' xs := fun k a => mnm_same fun n hn => h n (by simp only [Op.rs, List.mem_append]; exact .inr hn)
    simp only [evOp] at he ⊢
    rw [← h1]
    split at he
    · rw [← h2]
      obtain ⟨d, q1, q2⟩ := Option.map_eq_some_iff.1 he
      subst q2
      exact ⟨rfl, by rw [q1]; rfl⟩
    · cases he
  | slc z x lo hi =>
    have h1 : (rd x s).1 = (rd x s').1 := rd_same fun n hn => h n (by simp [Op.rs, hn])
    have h2 : ∀ k, optI s k lo = optI s' k lo := fun k => optI_same fun n hn => h n (by simp [Op.rs, hn])
    have h3 : ∀ k, optI s k hi = optI s' k hi := fun k => optI_same fun n hn => h n (by simp [Op.rs, hn])
    simp only [evOp] at he ⊢
    rw [← h1]
    split at he
    · rw [← h2, ← h3]
      split at he
      · split at he
        · rename_i hk
          rw [if_pos hk]
          split at he
          · injection he with he; subst he; exact ⟨rfl, rfl⟩
          · injection he with he; subst he; exact ⟨rfl, rfl⟩
          · cases he
        · cases he
      · cases he
    · rw [← h2, ← h3]
      split at he
      · split at he
        · rename_i hk
          rw [if_pos hk]
          injection he with he; subst he; exact ⟨rfl, rfl⟩
        · cases he
      · cases he
    · cases he
  | _ => cases hp
end
end Go.Proofs.Ytfopbiiffiickaa.Ev
