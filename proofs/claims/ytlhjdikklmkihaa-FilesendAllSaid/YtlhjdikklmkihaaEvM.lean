/- 'append'. Conditions: none. -/
import Derived.Test.YtlhjdikklmkihaaEvL
import Derived.Deep.Upon
set_option linter.all false
namespace Go.Proofs.Ytlhjdikklmkihaa.Ev
open Go
variable {P : Program}

section
variable {g : G} {w W : World} {n : Nat} {tmps : Array Value} {s : S}

/-- A list's cells, in a row. -/
theorem RF.row {w : World} {fr : Nat → Nat} {x : Value} {m : Mode} {z : Nat} {xs : List D} (h : RF w fr x (.sl m z xs)) :
    ∃ base cap vs, x = .slice base xs.length cap ∧ EL (RF w fr) z xs vs ∧ (base = none → xs = []) ∧ ∀ a, base = some a → True ∧ ∀ (k : Nat) v, vs[k]? = some v → w.cell? (a.add k) = some v := by
  cases h with
  | nl z => exact ⟨none, 0, [], rfl, EL.nil _ _, (fun _ => rfl), (fun a h => by cases h)⟩
  | z a z => exact ⟨some a, 0, [], rfl, EL.nil _ _, (fun h => by cases h), fun a h => ⟨trivial, fun k v hk => by simp at hk⟩⟩
  | ro b off cap z xs val h1 h2 h3 h4 h5 h6 =>
    obtain ⟨vs, q1, q2⟩ := row_of h4 h5 h6
    refine ⟨_, cap, vs, rfl, q1, (fun h => by cases h), fun a ha => ?_⟩
    injection ha with ha
    subst ha
    exact ⟨trivial, fun k v hk => by rw [add_lit]; exact q2 k v hk⟩
theorem RF.src {ty e : TypeId} (hu : P.underlying ty = some (.slice e)) {w : World} {fr : Nat → Nat} {x : Value} {m : Mode} {z : Nat} {ys : List D} (h : RF w fr x (.sl m z ys)) :
    ∃ us, EL (RF w fr) z ys us ∧ Src P z ty x ys.length us w := by
  obtain ⟨base, cap, vs, rfl, h2, h3, h4⟩ := h.row
  cases base with
  | none =>
    obtain rfl := h3 rfl
    have : vs = [] := List.eq_nil_of_length_eq_zero (by rw [h2.len]; simp)
    subst this
    exact ⟨[], EL.nil _ _, Src.ofNil w hu cap⟩
  | some a => exact ⟨vs, h2, Src.ofSlice w hu a _ cap vs h2.len (h4 a rfl).2 h2.ones⟩

/-- A list of one's own, grown in its place. -/
theorem grow_ok (m : Mode) (hmode : m = .app ∨ m = .mu) {b off cap : Nat} {cur nc : Array Value} {et : TypeId} {z : Nat} {xs ys : List D} {vs us : List Value} (h : SN g w n tmps s) (hb : w.heap[b]? = some (.cells cur et (0, 0))) (htk : g.tk b = some (flyL 1 0 0)) (hmu : m = .mu → off = 0) (hfrb0 : g.fr b = (match (generalizing := false) m with | .app => off + xs.length * z | _ => 0))
    (hel : EL (RF w g.fr) z xs vs) (hel' : EL (RF w g.fr) z ys us) (hcur : ∀ (k : Nat) v, vs[k]? = some v → cur[off + k]? = some v) (hcap : xs.length + ys.length ≤ cap) (hmax : cap ≤ maxLen) (hsz : off + cap * z ≤ cur.size)
    (hnc : nc.size = cur.size) (hold : ∀ k, k < off + xs.length * z → nc[k]? = cur[k]?) (hnew : ∀ (k : Nat) v, us[k]? = some v → nc[off + xs.length * z + k]? = some v) :
    ∃ g', SN g' (w.setRow b nc) n tmps s ∧ RT g' (w.setRow b nc) (flyL 0) (.slice (some ⟨b, off, none⟩) (xs ++ ys).length cap) (.sl m z (xs ++ ys)) ∧ Ext s.k g w g' (w.setRow b nc) := by
  have hi := h.st.inv
  have hfrb : g.fr b ≤ off + xs.length * z := by rcases hmode with rfl | rfl <;> simp only at hfrb0 <;> omega
  have hblt := hi.lt htk
  have hbase := hi.tk b _ htk
  have hlen : (xs ++ ys).length = xs.length + ys.length := List.length_append
  let ext := match (generalizing := false) m with | .app => off + (xs ++ ys).length * z | _ => 0
  have hext : g.fr b ≤ ext := by rcases hmode with rfl | rfl <;> simp only [ext, hlen, Nat.add_mul] at hfrb0 ⊢ <;> omega
  have hfit : ext ≤ cur.size := by
    have : (xs ++ ys).length * z ≤ cap * z := Nat.mul_le_mul_right z (by omega)
    rcases hmode with rfl | rfl <;> simp only [ext] <;> omega
  have hself : (w.setRow b nc).heap[b]? = some (.cells nc et (0, 0)) := setRow_heap w b cur nc et _ hb
  have hother : ∀ b', b' ≠ b → (w.setRow b nc).heap[b']? = w.heap[b']? := fun b' hb' => setRow_other w b b' nc hb'
  have hcell : ∀ b' o, o < g.fr b' → (w.setRow b nc).cell? ⟨b', o, none⟩ = w.cell? ⟨b', o, none⟩ := fun b' o ho => by
    by_cases e : b' = b
    · subst e
      simp [World.cell?, hself, hb, hold o (Nat.lt_of_lt_of_le ho hfrb)]
    · exact cell_of_block (hother b' e)
  have hfr : ∀ b', g.fr b' ≤ (g.own b ext (flyL 0 0 0)).fr b' := fun b' => by
    show _ ≤ (if _ then _ else _)
    split
    · rename_i e; rw [e]; exact hext
    · exact Nat.le_refl _
  have hK : ∀ ℓ, ℓ ≠ flyL 1 0 0 → Keep g w ℓ (g.own b ext (flyL 0 0 0)) (w.setRow b nc) ℓ := fun ℓ hℓ => ⟨hcell, hfr, fun _ _ _ h => h, fun b' hb' => by
    have e : b' ≠ b := fun e => by rw [e, htk] at hb'; injection hb' with hb'; exact hℓ hb'.symm
    exact ⟨by show (if _ then _ else _) = _; rw [if_neg e]; exact hb', by show (if _ then _ else _) = _; rw [if_neg e], hother b' e⟩⟩
  have hsize : (w.setRow b nc).heap.size = w.heap.size := by simp [World.setRow]
  have nbox : ∀ f b' b1, g.bx f b' = some b1 → b1 ≠ b := fun f b' b1 h1 e => by have := (hi.box _ _ _ h1).2.2.2; rw [e, htk] at this; cases this
  refine ⟨g.own b ext (flyL 0 0 0), ⟨⟨⟨?_, ?_, ?_, hi.inj, ?_, ?_, fun b' hd => ⟨(hi.dm b' hd).1, (hother b' fun e => by have hd' : g.dm b' = true := hd; have := hi.mkc hb; rw [← e, hd'] at this; cases this).trans (hi.dm b' hd).2⟩, fun b' hd => by
    have hd' : g.dm b' = true := hd
    have e : b' ≠ b := fun e => by have := hi.mkc hb; rw [← e, hd'] at this; cases this
    show (if _ then _ else _) = _; rw [if_neg e]; exact hi.dt b' hd'⟩, ⟨fun f b' ds hds => ?_, h.st.sb.dom, h.st.sb.bnd⟩, fun t => ?_⟩, h.size⟩, ?_, ?_⟩
  · rw [hsize]; exact hi.base
  · intro b' hb'
    rw [hsize] at hb'
    have e : b' ≠ b := by omega
    have := hi.fresh b' hb'
    exact ⟨by show (if _ then _ else _) = _; rw [if_neg e]; exact this.1, by show (if _ then _ else _) = _; rw [if_neg e]; exact this.2⟩
  · intro f b' b1 h1
    obtain ⟨a1, a2, a3, a4⟩ := hi.box f b' b1 h1
    have e := nbox _ _ _ h1
    exact ⟨a1, by rw [hsize]; exact a2, by show (if _ then _ else _) = _; rw [if_neg e]; exact a3, by show (if _ then _ else _) = _; rw [if_neg e]; exact a4⟩
  · intro b' ℓ hb'
    have hb'' : (if b' = b then some (flyL 0 0 0) else g.tk b') = some ℓ := hb'
    split at hb''
    · rename_i e; rw [e]; exact hbase
    · exact hi.tk b' ℓ hb''
  · intro b' o ho
    have ho' : o < (if b' = b then ext else g.fr b') := ho
    split at ho'
    · rename_i e
      subst e
      have : o < nc.size := by omega
      simp [World.cell?, hself, this]
    · rename_i e
      rw [cell_of_block (hother b' e)]; exact hi.cells b' o ho'
  · exact (h.st.sb.rel f b' ds hds).keep (fun c => hK _ box_fly) fun b1 h1 => hother b1 (nbox _ _ _ h1)
  · exact (h.st.e t).keep fun i c => hK _ slot_fly
  · have hall : EL (RF (w.setRow b nc) (g.own b ext (flyL 0 0 0)).fr) z (xs ++ ys) (vs ++ us) := (hel.append hel').mono fun v c hv => hv.mono hcell hfr
    obtain ⟨val, h5, h6⟩ := of_row (w := w.setRow b nc) (b := b) (off := off) hall fun k v hk => by
      have : (w.setRow b nc).cell? ⟨b, off + k, none⟩ = nc[off + k]? := by simp [World.cell?, hself]
      rw [this]
      rcases Nat.lt_or_ge k vs.length with hl | hl
      · rw [List.getElem?_append_left hl] at hk
        rw [hold _ (by rw [hel.len] at hl; omega)]
        exact hcur k v hk
      · rw [List.getElem?_append_right hl] at hk
        have := hnew _ v hk
        rw [hel.len] at this hl
        rw [← this]; congr 1; omega
    have own : Own (g.own b ext (flyL 0 0 0)) (w.setRow b nc) (flyL 0 0 0) (.slice (some ⟨b, off, none⟩) (xs ++ ys).length cap) m z (xs ++ ys) := ⟨b, off, cap, nc, et, val, rfl, hself, by omega, hmax, by omega, if_pos rfl, if_pos rfl, hmu, hall.el, h5, h6⟩
    rcases hmode with rfl | rfl <;> exact own
  · exact ⟨rfl, rfl, rfl, rfl, by rw [hsize]; exact Nat.le_refl _, fun b' hb' => hother b' (by omega), hfr, hcell, fun _ _ _ => rfl, fun b' ℓ hb' h0 hk => (hK ℓ (fun e => by rw [e] at h0; cases h0)).tk b' hb', fun _ h => h⟩

theorem run_room (t tx ty e : TypeId) (i : TypeInfo) (ht : P.underlying t = some (.slice e)) (hi : P.info? e = some i) (b off sLen sCap : Nat) (cur : Array Value) (et : TypeId) (hg : w.heap[b]? = some (.cells cur et (0, 0)))
    (x : Value) (m : Nat) (news : List Value) (hs : Src P i.size tx x m news w) (hroom : sLen + m ≤ sCap) (hfit : off + sLen * i.size + news.length ≤ cur.size) :
    (Builtin.append_ #[t, tx] ty #[.slice (some ⟨b, off, none⟩) sLen sCap, x]).run P w =
      .ok (.slice (some ⟨b, off, none⟩) (sLen + m) sCap) (w.setRow b (cur.toList.take (off + sLen * i.size) ++ news ++ cur.toList.drop (off + sLen * i.size + news.length)).toArray) := by
  have hst := run_storeCells_at P b (off + sLen * i.size) et news 0 cur w hg (by simpa using hfit) hs.one
  simp only [Nat.add_zero] at hst
  rcases hs.kind with ⟨e', hk⟩ | hk <;> simp [Builtin.append_, run_underlying ht, run_underlying hk, sizeOf, typeInfo, hi, hs.len, hroom, hs.cells, add_lit, hst]

/-- What 'append' comes to. -/
theorem append_ok (wm : Bool) (t tx ty e : TypeId) (i : TypeInfo) (zv : Value) {z bytes : Nat} (ht : P.underlying t = some (.slice e)) (hi : P.info? e = some i) (hz : i.zero = some zv) (hsize : i.size = z) (hby : i.bytes = bytes) (hzs : zv.cells.size = z) (h0 : 0 < z)
    (h : SN g w n tmps s) {x y : Value} {m : Mode} {xs ys : List D} {us : List Value} (hx : RC g w (flyL 1 0 0) x (.sl m z xs)) (hm : m = .app ∨ m = .mu ∨ (m = .nl ∧ xs = [])) (hel' : EL (RF w g.fr) z ys us) (hs : Src P z tx y ys.length us w)
    (hlen : xs.length + ys.length ≤ maxLen) (hbytes : (xs.length + ys.length) * bytes ≤ 140737488355328) :
    ∃ v W g', (Builtin.append_ #[t, tx] ty #[x, y]).run P w = .ok v W ∧ SN g' W n tmps s ∧ RT g' W (flyL 0) v (.sl (if m = .nl then (if ys = [] then .nl else if wm = true then .mu else .app) else m) z (xs ++ ys)) ∧ Ext s.k g w g' W := by
  subst hsize
  subst hby
  have h63 : ((xs.length + ys.length : Nat) : Int) ≤ 9223372036854775807 := by simp only [maxLen] at hlen; omega
  -- a new row
  have fresh : ∀ (m : Mode) (hmode : m = .app ∨ m = .mu) (base : Option Addr) (sCap : Nat) (vs : List Value), (Builtin.firstCells i.size xs.length (.slice base xs.length sCap)).run P w.drew = .ok vs.toArray w.drew → EL (RF w g.fr) i.size xs vs → sCap < xs.length + ys.length →
      ∃ v W g', (Builtin.append_ #[t, tx] ty #[.slice base xs.length sCap, y]).run P w = .ok v W ∧ SN g' W n tmps s ∧ RT g' W (flyL 0) v (.sl m i.size (xs ++ ys)) ∧ Ext s.k g w g' W := by
    intro m hmode base sCap vs hold hel hg
    have hr := run_append_grow_src (P := P) w t tx ty e i zv ht hi hz base xs.length sCap vs hold y ys.length us hs hg h63 (growslice_fits (by omega) hbytes)
    have hge := grownCap_ge w (xs.length + ys.length) sCap e
    have hcm := grownCap_le_maxLen w (xs.length + ys.length) sCap e hlen
    have hM : More w (w.drew.alloc (.cells ((vs ++ us).toArray ++ Builtin.zeroCells zv.cells (grownCap w (xs.length + ys.length) sCap e - (xs.length + ys.length))) e)) (.cells ((vs ++ us).toArray ++ Builtin.zeroCells zv.cells (grownCap w (xs.length + ys.length) sCap e - (xs.length + ys.length))) e) := ⟨rfl, rfl, rfl, rfl⟩
    have hvl : (vs ++ us).length = (xs.length + ys.length) * i.size := by rw [List.length_append, hel.len, hel'.len, Nat.add_mul]
    obtain ⟨g', k1, k2, k3⟩ := newlist_ok h hM (hel.append hel') (cap := grownCap w (xs.length + ys.length) sCap e) (fun k v hk => by
      rw [Array.getElem?_append_left (by simpa using getq_lt hk)]
      simpa using hk) (by rw [List.length_append]; exact hge) hcm (by
        simp only [Array.size_append, List.size_toArray, size_zeroCells, hzs, hvl, ← Nat.add_mul]
        exact Nat.mul_le_mul_right _ (by omega)) m hmode
    rw [List.length_append] at k2
    exact ⟨_, _, g', hr, k1, k2, k3⟩
  have owned : ∀ m, (m = .app ∨ m = .mu) → Own g w (flyL 1 0 0) x m i.size xs → ∃ v W g', (Builtin.append_ #[t, tx] ty #[x, y]).run P w = .ok v W ∧ SN g' W n tmps s ∧ RT g' W (flyL 0) v (.sl m i.size (xs ++ ys)) ∧ Ext s.k g w g' W := by
    intro m hmode hx
    obtain ⟨b, off, cap, cur, et, val, rfl, q2, q3, q4, q5, q6, q7, q7', q8, q9, q10⟩ := hx
    obtain ⟨vs, hel, hcells⟩ := row_of q8 q9 q10
    have hcur : ∀ (k : Nat) v, vs[k]? = some v → cur[off + k]? = some v := fun k v hk => by
      have := hcells k v hk
      simpa [World.cell?, q2] using this
    by_cases hroom : xs.length + ys.length ≤ cap
    · have hfit : off + xs.length * i.size + us.length ≤ cur.size := by
        have : (xs.length + ys.length) * i.size ≤ cap * i.size := Nat.mul_le_mul_right _ hroom
        rw [Nat.add_mul] at this
        rw [hel'.len]; omega
      have hr := run_room (P := P) t tx ty e i ht hi b off xs.length cap cur et q2 y ys.length us hs hroom hfit
      have hget := fun c : Nat => overV_get (ds := cur) (cs := us) (off := off + xs.length * i.size) (c := c) hfit
      have hsz : (cur.toList.take (off + xs.length * i.size) ++ us ++ cur.toList.drop (off + xs.length * i.size + us.length)).toArray.size = cur.size := by simp; omega
      generalize (cur.toList.take (off + xs.length * i.size) ++ us ++ cur.toList.drop (off + xs.length * i.size + us.length)).toArray = nc at hr hget hsz
      obtain ⟨g', k1, k2, k3⟩ := grow_ok m hmode h q2 q6 q7' q7 hel hel' hcur hroom q4 q5 hsz (fun k hk => by rw [hget, if_pos hk]) (fun k v hk => by
        have := getq_lt hk
        rw [hget, if_neg (by omega), if_pos (by omega), Nat.add_sub_cancel_left]; exact hk)
      rw [List.length_append] at k2
      exact ⟨_, _, g', hr, k1, k2, k3⟩
    · refine fresh m hmode _ cap vs ?_ hel (by omega)
      exact run_firstCells_some w.drew i.size xs.length ⟨b, off, none⟩ xs.length cap vs hel.len (fun j v hj => by
        rw [add_lit]
        have := hcells j v hj
        simpa using this)
  rcases hm with rfl | rfl | ⟨rfl, rfl⟩
  · exact owned .app (.inl rfl) hx
  · exact owned .mu (.inr rfl) hx
  · cases (show RF w g.fr x (.sl .nl i.size []) from hx) with
    | nl =>
      by_cases hy : ys = []
      · subst hy
        have hus : us = [] := List.eq_nil_of_length_eq_zero (by rw [hel'.len]; simp)
        subst hus
        have hr := run_append_nothing (P := P) w t tx ty e i ht hi none 0 0 (Nat.le_refl _) y hs
        refine ⟨_, w, g, hr, h, ?_, Ext.refl _ _ _⟩
        simp only [if_true, List.append_nil]
        exact (show RF w g.fr _ (.sl .nl i.size []) from .nl _)
      · simp only [hy, if_false, if_true]
        have hpos : 0 < ys.length := List.length_pos_iff.2 hy
        exact fresh (if wm = true then .mu else .app) (by cases wm; · exact .inl rfl
                                                          · exact .inr rfl) none 0 [] (run_firstCells_none w.drew i.size 0 0 0) (EL.nil _ _) (by simpa using hpos)
end
end Go.Proofs.Ytlhjdikklmkihaa.Ev
