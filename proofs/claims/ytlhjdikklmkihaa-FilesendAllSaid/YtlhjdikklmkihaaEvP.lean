/- Lists made of a length, lists cut, least and greatest. Conditions: none. -/
import Derived.Test.YtlhjdikklmkihaaEvO
set_option linter.all false
namespace Go.Proofs.Ytlhjdikklmkihaa.Ev
open Go
variable {P : Program}
section
variable {o : Oper} {g : G} {w : World} {n : Nat} {a : Act} {s s' : S} {d : D} {call : Caller} {t : Option Nat}

theorem made_get (z : Array Value) (n k : Nat) (hz : 0 < z.size) (hk : k < n) : (madeCells z n)[k]? = z[k % z.size]? := by
  have : k % z.size < z.size := Nat.mod_lt _ hz
  simp [madeCells, hk, this]

theorem zc_rf {v : Value} (h : v.oneCell' = true) : RF w g.fr v (zc v) := by
  unfold zc
  split
  · exact .nl 0
  · exact .v v h

theorem gives_mk {ty e : TypeId} {x y : Operand} {x' y' : Opd} {z by_ : Nat} {zv : Value} {ze : D} {i : TypeInfo} (ho : o.op = .makeSlice ty x y) (hx : MOpd x x') (hy : MOpd y y') (hu : P.underlying ty = some (.slice e)) (hi : P.info? e = some i) (hz : i.zero = some zv) (hs : i.size = z) (hb : i.bytes = by_) (hzs : zv.cells.size = z) (h0 : 0 < z) (h1 : 1 ≤ by_)
    (hze : ze.cells = zv.cells.toList.map zc) (hze1 : zv.cells.toList.all Value.oneCell' = true) (h : SN g w n a.tmps s) (he : evOp call t (.mk z by_ ze x' y') s = some (d, s')) : Gives P o g w n a s d s' := by
  simp only [evOp] at he
  split at he
  · rename_i kn l kc c e1 e2
    have hv1 := rd_v h hx e1
    have hv2 := rd_v h hy e2
    split at he
    · rename_i hc
      obtain ⟨c1, c2, c3⟩ := hc
      injection he with he
      injection he with f1 f2
      subst f1 f2
      obtain ⟨p, rfl⟩ := Int.eq_ofNat_of_zero_le c1
      obtain ⟨q, rfl⟩ := Int.eq_ofNat_of_zero_le (Int.le_trans c1 c2)
      have hpq : p ≤ q := by omega
      have hq47 : q ≤ 140737488355328 := by
        have h2 : (1 : Int) * q ≤ by_ * q := Int.mul_le_mul_of_nonneg_right (by omega) (by omega)
        omega
      have hrun := run_make (P := P) w ty e i zv hu hi hz kn kc p q c1 c2 (by rw [hb]; omega) (by omega)
      simp only [Int.toNat_natCast] at hrun
      have hM : More w (w.alloc (.cells (madeCells zv.cells (q * i.size)) e)) (.cells (madeCells zv.cells (q * i.size)) e) := ⟨rfl, rfl, rfl, rfl⟩
      have hpz : p * z ≤ q * z := Nat.mul_le_mul_right z hpq
      have hel : EL (RF w g.fr) z (List.replicate p ze) ((madeCells zv.cells (q * i.size)).toList.take (p * z)) := by
        refine ⟨by rw [List.length_take, Array.length_toList, size_madeCells, hs, Nat.min_eq_left hpz, List.length_replicate], fun j d hj => ?_, fun j d k c hj hk => ?_⟩
        · rw [List.getElem?_replicate] at hj
          split at hj
          · injection hj with hj; subst hj; rw [hze]; simp [hzs]
          · cases hj
        · have hjl : j < p := by have := getq_lt hj; simpa using this
          rw [List.getElem?_replicate, if_pos hjl] at hj
          injection hj with hj
          subst hj
          rw [hze, List.getElem?_map] at hk
          obtain ⟨v, q1, rfl⟩ := Option.map_eq_some_iff.1 hk
          have hkz : k < z := by have := getq_lt q1; simpa [hzs] using this
          have hlt : j * z + k < p * z := lt_of_el hjl hkz
          refine ⟨v, ?_, zc_rf (List.all_eq_true.1 hze1 v (List.mem_of_getElem? q1))⟩
          rw [List.getElem?_take, if_pos hlt, Array.getElem?_toList, hs, made_get _ _ _ (by omega) (by omega), hzs]
          rw [show (j * z + k) % z = k by rw [Nat.mul_comm, Nat.mul_add_mod]; exact Nat.mod_eq_of_lt hkz]
          simpa using q1
      obtain ⟨g', k1, k2, k3⟩ := newlist_ok (cap := q) h hM hel (fun k v hk => by
        rw [List.getElem?_take] at hk
        split at hk
        · simpa using hk
        · cases hk) (by simpa using hpq) (by simp only [maxLen]; omega) (by rw [size_madeCells, hs]; exact Nat.le_refl _) .app (.inl rfl)
      rw [List.length_replicate] at k2
      rw [Int.toNat_natCast]
      exact ⟨_, _, g', by unfold execOp; simp only [ho, hv1, hv2, Sem.run_bind, hrun, Result.andThen_ok, Sem.run_pure], k1, k2, k3, rfl⟩
    · cases he
  · cases he

theorem run_cut {ty e : TypeId} {i : TypeInfo} (hu : P.underlying ty = some (.slice e)) (hi : P.info? e = some i) (base : Option Addr) (len cap : Nat) (lo hi' : Option Value) (l q : Nat) (hlo : (lo = none ∧ l = 0) ∨ ∃ k, lo = some (.int k l)) (hhi : (hi' = none ∧ q = len) ∨ ∃ k, hi' = some (.int k q)) (h1 : l ≤ q) (h2 : q ≤ len) (h3 : len ≤ cap) :
    (Instr.sliceAt ty (.slice base len cap) lo hi' none).run P w = .ok (.slice (if cap = l then base else base.map (·.add (l * i.size))) (q - l) (cap - l)) w := by
  have e1 : q ≤ cap := by omega
  rcases hlo with ⟨rfl, rfl⟩ | ⟨k, rfl⟩ <;> rcases hhi with ⟨rfl, rfl⟩ | ⟨k', rfl⟩ <;>
    simp [Instr.sliceAt, Instr.slice, Instr.sliceBounds, Instr.sliceBound, asIntOf, run_underlying hu, run_sizeOf' hi, h1, e1]

theorem opt_int (h : SN g w n a.tmps s) {x : Option Operand} {x' : Option Opd} (hm : MOpt x x') {dflt r : Int} (he : optI s dflt x' = some r) :
    (x.map a.eval = none ∧ r = dflt) ∨ ∃ k, x.map a.eval = some (.int k r) := by
  cases hm with
  | n => injection he with he; exact .inl ⟨rfl, he.symm⟩
  | s hxy =>
    simp only [optI] at he
    split at he
    · rename_i k q e
      injection he with he
      subst he
      exact .inr ⟨k, by simp [rd_v h hxy e]⟩
    · cases he

theorem gives_slc {ty e : TypeId} {x : Operand} {x' : Opd} {z : Nat} {lo hg : Option Operand} {lo' hg' : Option Opd} {i : TypeInfo} (ho : o.op = .slice ty x lo hg none) (hx : MOpd x x') (hu : P.underlying ty = some (.slice e)) (hi : P.info? e = some i) (hs : i.size = z) (hlo : MOpt lo lo') (hhi : MOpt hg hg')
    (h : SN g w n a.tmps s) (he : evOp call t (.slc z x' lo' hg') s = some (d, s')) : Gives P o g w n a s d s' := by
  obtain ⟨L, hL⟩ := rd_at h hx
  simp only [evOp] at he
  split at he
  · rename_i m z' xs hxs
    rw [hxs] at hL
    split at he
    · rename_i l q hl hq
      split at he
      · rename_i hc
        obtain ⟨c0, c1, c2, c3⟩ := hc
        have il := opt_int h hlo hl
        have iq := opt_int h hhi hq
        obtain ⟨p, rfl⟩ := Int.eq_ofNat_of_zero_le c1
        obtain ⟨r, rfl⟩ := Int.eq_ofNat_of_zero_le (Int.le_trans c1 c2)
        have ilo : (lo.map a.eval = none ∧ p = 0) ∨ ∃ k, lo.map a.eval = some (.int k p) := by
          rcases il with ⟨q1, q2⟩ | q1
          · exact .inl ⟨q1, by omega⟩
          · exact .inr q1
        have ihi : (hg.map a.eval = none ∧ r = xs.length) ∨ ∃ k, hg.map a.eval = some (.int k r) := by
          rcases iq with ⟨q1, q2⟩ | q1
          · exact .inl ⟨q1, by omega⟩
          · exact .inr q1
        have hex : execOp a.eval o = (do pure (.value (← Instr.sliceAt ty (a.eval x) (lo.map a.eval) (hg.map a.eval) none))) := by
          unfold execOp; simp only [ho, Option.map_none]
        split at he
        · rename_i hm
          injection he with he
          injection he with f1 f2
          subst f1 f2
          have hnl : ∀ v : Value, RF w g.fr v (.sl .nl z' xs) → xs = [] ∧ v = .slice none 0 0 := fun v hv => by cases hv with | nl => exact ⟨rfl, rfl⟩
          obtain ⟨hx0, hv⟩ := hnl _ (show RF w g.fr (a.eval x) (.sl .nl z' xs) from hL)
          subst hx0
          simp only [List.length_nil] at c3 ihi
          have hr := run_cut (P := P) (w := w) hu hi none 0 0 _ _ p r ilo ihi (by omega) (by omega) (Nat.le_refl _)
          refine ⟨.slice none 0 0, w, g, ?_, h, (show RF w g.fr _ (.sl .nl 0 []) from .nl 0), Ext.refl _ _ _, rfl⟩
          rw [hex, hv]
          simp only [Sem.run_bind, hr, Result.andThen_ok, Sem.run_pure, Option.map_none]
          have e1 : r - p = 0 := by omega
          have e2 : 0 - p = 0 := by omega
          simp [e1, e2]
        · rename_i hm
          injection he with he
          injection he with f1 f2
          subst f1 f2
          rw [Int.toNat_natCast, Int.toNat_natCast]
          have hro : ∀ v : Value, RF w g.fr v (.sl .ro z' xs) → ∃ v', (Instr.sliceAt ty v (lo.map a.eval) (hg.map a.eval) none).run P w = .ok v' w ∧ RF w g.fr v' (.sl .ro z ((xs.take r).drop p)) := by
            intro v hv
            cases hv with
            | z b z' =>
              simp only [List.length_nil] at c3 ihi
              have hr := run_cut (P := P) (w := w) hu hi (some b) 0 0 _ _ p r ilo ihi (by omega) (by omega) (Nat.le_refl _)
              refine ⟨_, hr, ?_⟩
              have e1 : r - p = 0 := by omega
              have e2 : 0 = p := by omega
              rw [if_pos e2, e1]
              simp only [List.take_nil, List.drop_nil, Nat.zero_sub]
              exact .z b z
            | ro b off cap z' xs val h1 h2 h3 h4 h5 h6 =>
              have hr := run_cut (P := P) (w := w) hu hi (some ⟨b, off, none⟩) xs.length cap _ _ p r ilo ihi (by omega) (by omega) h1
              refine ⟨_, hr, ?_⟩
              have hlen : ((xs.take r).drop p).length = r - p := by simp; omega
              rw [hs]
              have mk : ∀ off', (r - p = 0 ∨ off' = off + p * z) → (r - p = 0 ∨ off' + (r - p) * z ≤ g.fr b) → RF w g.fr (.slice (some ⟨b, off', none⟩) (r - p) (cap - p)) (.sl .ro z ((xs.take r).drop p)) := by
                intro off' ho' hfr
                rw [← hlen]
                have hz : ∀ (j : Nat) d, ((xs.take r).drop p)[j]? = some d → xs[p + j]? = some d ∧ z = z' ∧ off' = off + p * z := by
                  intro j d hj
                  have hjl := getq_lt hj
                  rw [List.getElem?_drop, List.getElem?_take] at hj
                  split at hj
                  · refine ⟨hj, ?_, ?_⟩
                    · rcases c0 with c0 | c0
                      · exact c0
                      · rw [List.isEmpty_iff.1 c0] at hj; simp at hj
                    · rcases ho' with ho' | ho'
                      · omega
                      · exact ho'
                  · cases hj
                refine .ro b off' (cap - p) z _ (fun j k => val (p + j) k) (by omega) (by omega) (hfr.imp (fun q => List.eq_nil_of_length_eq_zero (by omega)) fun q => by rw [hlen]; exact q) (fun j d hj => ?_) (fun j d k c hj hk => ?_) (fun j d k c hj hk => ?_)
                · obtain ⟨q1, q2, _⟩ := hz j d hj; rw [q2]; exact h4 _ d q1
                · obtain ⟨q1, q2, q3⟩ := hz j d hj
                  have := h5 (p + j) d k c q1 hk
                  rw [← this, q3, q2, Nat.add_mul]; congr 2; omega
                · obtain ⟨q1, _, _⟩ := hz j d hj; exact h6 _ d k c q1 hk
              by_cases e : cap = p
              · rw [if_pos e]
                have e1 : r - p = 0 := by omega
                rw [e1]
                have := mk off (.inl e1) (.inl e1)
                rwa [e1] at this
              · rw [if_neg e]
                simp only [Option.map_some, add_lit]
                rcases Nat.eq_zero_or_pos (r - p) with e1 | e1
                · exact mk _ (.inl e1) (.inl e1)
                · rcases h3 with h3 | h3
                  · subst h3; simp at c3; omega
                  have hz' : z = z' := by
                    rcases c0 with c0 | c0
                    · exact c0
                    · have : xs = [] := List.isEmpty_iff.1 c0
                      subst this; simp at c3; omega
                  subst hz'
                  refine mk _ (.inr rfl) (.inr ?_)
                  have : p * z + (r - p) * z ≤ xs.length * z := by rw [← Nat.add_mul]; exact Nat.mul_le_mul_right _ (by omega)
                  omega
          obtain ⟨v', q1, q2⟩ := hro _ (show RF w g.fr (a.eval x) (.sl .ro z' xs) from hL)
          exact ⟨v', w, g, by rw [hex]; simp only [Sem.run_bind, q1, Result.andThen_ok, Sem.run_pure], h, q2, Ext.refl _ _ _, rfl⟩
        · cases he
      · cases he
    · cases he
  · rename_i f b off m z' hxs
    rw [hxs] at hL
    obtain ⟨hRL, blk, cap, off', g1, g2, g3, g4, g5⟩ := (show RC g w (L 0 0) (a.eval x) (.ref f b off m z') from hL)
    split at he
    · rename_i l q hl hq
      split at he
      · rename_i hc
        obtain ⟨c0, c1, c2, c3⟩ := hc
        subst c0
        have il := opt_int h hlo hl
        have iq := opt_int h hhi hq
        obtain ⟨p, rfl⟩ := Int.eq_ofNat_of_zero_le c1
        obtain ⟨r, rfl⟩ := Int.eq_ofNat_of_zero_le (Int.le_trans c1 c2)
        have ilo : (lo.map a.eval = none ∧ p = 0) ∨ ∃ k, lo.map a.eval = some (.int k p) := by
          rcases il with ⟨q1, q2⟩ | q1
          · exact .inl ⟨q1, by omega⟩
          · exact .inr q1
        have ihi : (hg.map a.eval = none ∧ r = m) ∨ ∃ k, hg.map a.eval = some (.int k r) := by
          rcases iq with ⟨q1, q2⟩ | q1
          · exact .inl ⟨q1, by omega⟩
          · exact .inr q1
        have hex : execOp a.eval o = (do pure (.value (← Instr.sliceAt ty (a.eval x) (lo.map a.eval) (hg.map a.eval) none))) := by
          unfold execOp; simp only [ho, Option.map_none]
        injection he with he
        injection he with f1 f2
        subst f1 f2
        rw [Int.toNat_natCast, Int.toNat_natCast]
        have hr := run_cut (P := P) (w := w) hu hi (some ⟨blk, off', none⟩) m cap _ _ p r ilo ihi (by omega) (by omega) g3
        generalize hv' : Value.slice _ (r - p) (cap - p) = v' at hr
        refine ⟨v', w, g, by rw [hex, g2]; simp only [Sem.run_bind, hr, Result.andThen_ok, Sem.run_pure], h, ?_, Ext.refl _ _ _, rfl⟩
        rw [← hv']
        by_cases e : cap = p
        · rw [if_pos e]
          exact (show RC g w (L 0 0) _ (.ref f b (off + p * z) (r - p) z) from ⟨hRL, blk, cap - p, off', g1, rfl, by omega, by omega, .inl (by omega)⟩)
        · rw [if_neg e]
          simp only [Option.map_some, add_lit]
          exact (show RC g w (L 0 0) _ (.ref f b (off + p * z) (r - p) z) from ⟨hRL, blk, cap - p, off' + p * i.size, g1, rfl, by omega, by omega, by
            rcases g5 with g5 | g5
            · exact .inl (by omega)
            · exact .inr (by rw [g5, hs])⟩)
      · cases he
    · cases he
  · cases he

theorem mm_ok (h : SN g w n a.tmps s) (mx : Bool) {k : IntKind} {xs : List Operand} {ys : List Opd} (hl : xs.length = ys.length) (hm : ∀ (i : Nat) x y, xs[i]? = some x → ys[i]? = some y → MOpd x y) : ∀ {p r : Int}, mnm mx k p s ys = some r →
    ((xs.map a.eval).foldlM (if mx then Builtin.max2 else Builtin.min2) (.int k p)).run P w = .ok (.int k r) w := by
  induction ys generalizing xs with
  | nil =>
    intro p r he
    have : xs = [] := List.eq_nil_of_length_eq_zero (by simpa using hl)
    subst this
    simp only [mnm] at he
    injection he with he
    subst he
    rfl
  | cons y ys ih =>
    intro p r he
    cases xs with
    | nil => simp at hl
    | cons x xs =>
      simp only [mnm] at he
      split at he
      · rename_i k' b e
        have hv := rd_v h (hm 0 x y rfl rfl) e
        have := ih (xs := xs) (by simpa using hl) (fun j x' y' q1 q2 => hm (j + 1) x' y' (by simpa using q1) (by simpa using q2)) he
        simp only [List.map_cons, List.foldlM_cons, hv]
        rw [Sem.run_bind]
        cases mx with
        | true => simp only [if_true] at this ⊢; simp only [Builtin.max2, Sem.run_pure, Result.andThen_ok]; exact this
        | false => simp only [Bool.false_eq_true, if_false] at this ⊢; simp only [Builtin.min2, Sem.run_pure, Result.andThen_ok]; exact this
      · cases he
theorem gives_mm {mx : Bool} {x : Operand} {x' : Opd} {xs : List Operand} {xs' : List Opd} {ts : Array TypeId} (ho : o.op = .call ⟨.builtin (if mx then .max else .min), (x :: xs).toArray, ts⟩) (hx : MOpd x x') (hl : xs.length = xs'.length) (hm : ∀ (i : Nat) x y, xs[i]? = some x → xs'[i]? = some y → MOpd x y)
    (h : SN g w n a.tmps s) (he : evOp call t (.mm mx x' xs') s = some (d, s')) : Gives P o g w n a s d s' := by
  simp only [evOp] at he
  split at he
  · rename_i k p e
    have hv := rd_v h hx e
    obtain ⟨r, h1, h2⟩ := Option.map_eq_some_iff.1 he
    injection h2 with e1 e2
    subst e1 e2
    have := mm_ok (P := P) h mx hl hm h1
    refine ⟨.int k r, w, g, ?_, h, rfl, Ext.refl _ _ _, rfl⟩
    cases mx with
    | true =>
      simp only [if_true] at ho this
      unfold execOp
      simp [ho, resolve, invoke, builtin, Builtin.max_, hv, this]
    | false =>
      simp only [Bool.false_eq_true, if_false] at ho this
      unfold execOp
      simp [ho, resolve, invoke, builtin, Builtin.min_, hv, this]
  · cases he
end
end Go.Proofs.Ytlhjdikklmkihaa.Ev
