/- Lists that are built: made, and appended to. Conditions: none. -/
import Derived.Test.YtlhjdikklmkihaaEvG
import Derived.Deep.AppendSrc
import Derived.Laws.MakeOwn
set_option linter.all false
namespace Go.Proofs.Ytlhjdikklmkihaa.Ev
open Go
variable {P : Program}

/-- A row of values that reads as a list. -/
structure EL (R : Value → D → Prop) (z : Nat) (xs : List D) (vs : List Value) : Prop where
  len : vs.length = xs.length * z
  el : ∀ (i : Nat) d, xs[i]? = some d → d.cells.length = z
  rel : ∀ (i : Nat) d (j : Nat) c, xs[i]? = some d → d.cells[j]? = some c → ∃ v, vs[i * z + j]? = some v ∧ R v c
theorem EL.nil (R : Value → D → Prop) (z : Nat) : EL R z [] [] := ⟨by simp, fun i d h => by simp at h, fun i d j c h => by simp at h⟩
theorem EL.append {R : Value → D → Prop} {z : Nat} {xs ys : List D} {vs us : List Value} (h : EL R z xs vs) (h' : EL R z ys us) : EL R z (xs ++ ys) (vs ++ us) where
  len := by rw [List.length_append, List.length_append, h.len, h'.len, Nat.add_mul]
  el := fun i d hi => by
    rcases Nat.lt_or_ge i xs.length with hl | hl
    · rw [List.getElem?_append_left hl] at hi; exact h.el i d hi
    · rw [List.getElem?_append_right hl] at hi; exact h'.el _ d hi
  rel := fun i d j c hi hj => by
    rcases Nat.lt_or_ge i xs.length with hl | hl
    · rw [List.getElem?_append_left hl] at hi
      obtain ⟨v, h1, h2⟩ := h.rel i d j c hi hj
      exact ⟨v, by rw [List.getElem?_append_left (getq_lt h1)]; exact h1, h2⟩
    · rw [List.getElem?_append_right hl] at hi
      obtain ⟨v, h1, h2⟩ := h'.rel _ d j c hi hj
      have e : i * z + j = vs.length + ((i - xs.length) * z + j) := by
        rw [h.len, ← Nat.add_assoc, ← Nat.add_mul]; congr 2; omega
      exact ⟨v, by rw [e, List.getElem?_append_right (by omega), Nat.add_sub_cancel_left]; exact h1, h2⟩
theorem EL.mono {R R' : Value → D → Prop} {z : Nat} {xs : List D} {vs : List Value} (h : EL R z xs vs) (hr : ∀ v c, R v c → R' v c) : EL R' z xs vs :=
  ⟨h.len, h.el, fun i d j c hi hj => by obtain ⟨v, h1, h2⟩ := h.rel i d j c hi hj; exact ⟨v, h1, hr v c h2⟩⟩
theorem EL.one {R : Value → D → Prop} {d : D} {vs : List Value} (hl : vs.length = d.cells.length) (h : ∀ (j : Nat) c, d.cells[j]? = some c → ∃ v, vs[j]? = some v ∧ R v c) : EL R d.cells.length [d] vs where
  len := by simp [hl]
  el := fun i e hi => by cases i with | zero => simp at hi; rw [hi] | succ i => simp at hi
  rel := fun i e j c hi hj => by
    cases i with
    | zero => simp at hi; subst hi; simpa using h j c hj
    | succ i => simp at hi

theorem rf_one {w : World} {fr : Nat → Nat} {v : Value} {d : D} (h : RF w fr v d) : v.oneCell' = true := by
  cases h with
  | v x h => exact h
  | nl z => rfl
  | ro => rfl
  | z => rfl
/-- The cells of a row, in a row. -/
theorem row_of {w : World} {b off z : Nat} {xs : List D} {R : Value → D → Prop} {val : Nat → Nat → Value} (h4 : ∀ (i : Nat) d, xs[i]? = some d → d.cells.length = z)
    (h5 : ∀ (i : Nat) d (j : Nat) c, xs[i]? = some d → d.cells[j]? = some c → w.cell? ⟨b, off + i * z + j, none⟩ = some (val i j)) (h6 : ∀ (i : Nat) d (j : Nat) c, xs[i]? = some d → d.cells[j]? = some c → R (val i j) c) :
    ∃ vs, EL R z xs vs ∧ ∀ (k : Nat) v, vs[k]? = some v → w.cell? ⟨b, off + k, none⟩ = some v := by
  induction xs generalizing off val with
  | nil => exact ⟨[], EL.nil R z, fun k v h => by simp at h⟩
  | cons x xs ih =>
    obtain ⟨vs, h1, h2⟩ := ih (off := off + z) (val := fun i => val (i + 1)) (fun i d hi => h4 (i + 1) d (by simpa using hi)) (fun i d j c hi hj => by
      have := h5 (i + 1) d j c (by simpa using hi) hj
      rw [← this]; congr 2; rw [Nat.add_mul]; omega) (fun i d j c hi hj => h6 (i + 1) d j c (by simpa using hi) hj)
    have hx := h4 0 x rfl
    have hl : ((List.range z).map fun j => val 0 j).length = x.cells.length := by simp [hx]
    refine ⟨((List.range z).map fun j => val 0 j) ++ vs, ?_, fun k v hk => ?_⟩
    · have h0 : EL R z [x] ((List.range z).map fun j => val 0 j) := by
        have := EL.one (R := R) hl fun j c hj => ⟨val 0 j, by have := getq_lt hj; rw [hx] at this; simp [this], h6 0 x j c rfl hj⟩
        rwa [hx] at this
      exact h0.append h1
    · rcases Nat.lt_or_ge k z with hlt | hge
      · rw [List.getElem?_append_left (by simpa using hlt)] at hk
        simp [hlt] at hk
        subst hk
        have := h5 0 x k _ rfl (List.getElem?_eq_getElem (by rw [hx]; exact hlt))
        simpa using this
      · rw [List.getElem?_append_right (by simpa using hge)] at hk
        have := h2 _ _ hk
        simp only [List.length_map, List.length_range] at this
        rw [← this]; congr 2; omega
/-- And the other way. -/
theorem of_row {w : World} {b off z : Nat} {xs : List D} {R : Value → D → Prop} {vs : List Value} (h : EL R z xs vs) (hc : ∀ (k : Nat) v, vs[k]? = some v → w.cell? ⟨b, off + k, none⟩ = some v) :
    ∃ val : Nat → Nat → Value, (∀ (i : Nat) d (j : Nat) c, xs[i]? = some d → d.cells[j]? = some c → w.cell? ⟨b, off + i * z + j, none⟩ = some (val i j)) ∧ (∀ (i : Nat) d (j : Nat) c, xs[i]? = some d → d.cells[j]? = some c → R (val i j) c) := by
  refine ⟨fun i j => vs.getD (i * z + j) undef, fun i d j c hi hj => ?_, fun i d j c hi hj => ?_⟩
  · obtain ⟨v, h1, h2⟩ := h.rel i d j c hi hj
    have := hc _ _ h1
    rw [show off + i * z + j = off + (i * z + j) by omega, this]
    simp [List.getD, h1]
  · obtain ⟨v, h1, h2⟩ := h.rel i d j c hi hj
    have : vs.getD (i * z + j) undef = v := by simp [List.getD, h1]
    simp only [this]; exact h2
theorem EL.ones {w : World} {fr : Nat → Nat} {z : Nat} {xs : List D} {vs : List Value} (h : EL (RF w fr) z xs vs) : ∀ v ∈ vs, v.oneCell' = true := by
  intro v hv
  obtain ⟨k, hk⟩ := List.mem_iff_getElem?.1 hv
  have hl := getq_lt hk
  rw [h.len] at hl
  have hz : 0 < z := by rcases Nat.eq_zero_or_pos z with h0 | h0; · rw [h0] at hl; simp at hl
                        · exact h0
  have hi : k / z < xs.length := Nat.div_lt_of_lt_mul (by rw [Nat.mul_comm]; exact hl)
  have he := h.el (k / z) _ (List.getElem?_eq_getElem hi)
  obtain ⟨v', h1, h2⟩ := h.rel (k / z) _ (k % z) _ (List.getElem?_eq_getElem hi) (List.getElem?_eq_getElem (by rw [he]; exact Nat.mod_lt _ hz))
  rw [Nat.div_add_mod' k z, hk] at h1
  injection h1 with h1
  rw [h1]; exact rf_one h2

/-- A world with one block more. -/
structure More (w W : World) (ob : Obj) : Prop where
  heap : W.heap = w.heap.push ob
  os : W.os = w.os
  tape : W.tape = w.tape
  output : W.output = w.output
theorem More.old {w W : World} {ob : Obj} (h : More w W ob) {b : Nat} (hb : b < w.heap.size) : W.heap[b]? = w.heap[b]? := by rw [h.heap]; simp [Array.getElem?_push, Nat.ne_of_lt hb]
theorem More.new {w W : World} {ob : Obj} (h : More w W ob) : W.heap[w.heap.size]? = some ob := by rw [h.heap]; simp
theorem More.size {w W : World} {ob : Obj} (h : More w W ob) : W.heap.size = w.heap.size + 1 := by rw [h.heap]; simp

def G.own (g : G) (b ext : Nat) (ℓ : Loc) : G := { g with fr := fun b' => if b' = b then ext else g.fr b', tk := fun b' => if b' = b then some ℓ else g.tk b' }

section
variable {g : G} {w W : World} {n : Nat} {tmps : Array Value} {s : S}

/-- A block more that is a list of one's own. -/
theorem newlist_ok {cur : Array Value} {et : TypeId} (h : SN g w n tmps s) (hm : More w W (.cells cur et)) {z : Nat} {xs : List D} {vs : List Value} {cap : Nat} (hel : EL (RF w g.fr) z xs vs) (hcur : ∀ (k : Nat) v, vs[k]? = some v → cur[k]? = some v)
    (hcap : xs.length ≤ cap) (hmax : cap ≤ maxLen) (hsz : cap * z ≤ cur.size) (m : Mode) (hmode : m = .app ∨ m = .mu) :
    ∃ g', SN g' W n tmps s ∧ RT g' W (flyL 0) (.slice (some ⟨w.heap.size, 0, none⟩) xs.length cap) (.sl m z xs) ∧ Ext s.k g w g' W := by
  have hi := h.st.inv
  let ext := match m with | .app => 0 + xs.length * z | _ => 0
  have hle : ext ≤ xs.length * z := by rcases hmode with rfl | rfl <;> simp [ext]
  have hfresh := hi.fresh w.heap.size (Nat.le_refl _)
  have hle' : xs.length * z ≤ cur.size := Nat.le_trans (Nat.mul_le_mul_right z hcap) hsz
  have ne : ∀ b, b < w.heap.size → b ≠ w.heap.size := fun b hb => Nat.ne_of_lt hb
  have hcell : ∀ b o, o < g.fr b → W.cell? ⟨b, o, none⟩ = w.cell? ⟨b, o, none⟩ := fun b o ho => cell_of_block (hm.old (hi.frlt ho))
  have hfr : ∀ b, g.fr b ≤ (g.own w.heap.size ext (flyL 0 0 0)).fr b := fun b => by
    show _ ≤ (if _ then _ else _)
    split
    · rename_i e; rw [e, hfresh.1]; omega
    · exact Nat.le_refl _
  have hK : ∀ ℓ, Keep g w ℓ (g.own w.heap.size ext (flyL 0 0 0)) W ℓ := fun ℓ => ⟨hcell, hfr, fun _ _ _ h => h, fun b hb => by
    have hb' := hi.lt hb
    refine ⟨?_, ?_, hm.old hb'⟩
    · show (if _ then _ else _) = _; rw [if_neg (ne b hb')]; exact hb
    · show (if _ then _ else _) = _; rw [if_neg (ne b hb')]⟩
  have hnew : ∀ k : Nat, W.cell? ⟨w.heap.size, k, none⟩ = cur[k]? := fun k => by simp [World.cell?, hm.new]
  refine ⟨g.own w.heap.size ext (flyL 0 0 0), ⟨⟨⟨?_, ?_, ?_, hi.inj, ?_, ?_, fun b hb => ⟨(hi.dm b hb).1, (hm.old (getq_lt' (hi.dm b hb).2)).trans (hi.dm b hb).2⟩, fun b hb => by show (if _ then _ else _) = _; rw [if_neg (ne b (getq_lt' (hi.dm b hb).2))]; exact hi.dt b hb⟩, ⟨fun f b ds hds => ?_, h.st.sb.dom, h.st.sb.bnd⟩, fun t => ?_⟩, h.size⟩, ?_, ?_⟩
  · exact Nat.le_trans hi.base (by rw [hm.size]; omega)
  · intro b hb
    rw [hm.size] at hb
    have hb' : b ≠ w.heap.size := by omega
    have := hi.fresh b (by omega)
    exact ⟨by show (if _ then _ else _) = _; rw [if_neg hb']; exact this.1, by show (if _ then _ else _) = _; rw [if_neg hb']; exact this.2⟩
  · intro f b' b hb
    obtain ⟨a1, a2, a3, a4⟩ := hi.box f b' b hb
    exact ⟨a1, by rw [hm.size]; omega, by show (if _ then _ else _) = _; rw [if_neg (ne b a2)]; exact a3, by show (if _ then _ else _) = _; rw [if_neg (ne b a2)]; exact a4⟩
  · intro b ℓ hb
    have hb' : (if b = w.heap.size then some (flyL 0 0 0) else g.tk b) = some ℓ := hb
    split at hb'
    · rename_i e; rw [e]; exact hi.base
    · exact hi.tk b ℓ hb'
  · intro b o ho
    have ho' : o < (if b = w.heap.size then ext else g.fr b) := ho
    split at ho'
    · rename_i e
      rw [e, hnew]
      have : o < cur.size := by omega
      simp [this]
    · rw [hcell b o ho']; exact hi.cells b o ho'
  · exact (h.st.sb.rel f b ds hds).keep (fun c => hK _) fun b' hb' => hm.old (hi.box _ _ _ hb').2.1
  · exact (h.st.e t).keep fun i c => hK _
  · obtain ⟨val, h5, h6⟩ := of_row (w := W) (b := w.heap.size) (off := 0) (hel.mono fun v c hv => hv.mono hcell hfr) fun k v hk => by rw [Nat.zero_add, hnew]; exact hcur k v hk
    have own : Own (g.own w.heap.size ext (flyL 0 0 0)) W (flyL 0 0 0) (.slice (some ⟨w.heap.size, 0, none⟩) xs.length cap) m z xs :=
      ⟨w.heap.size, 0, cap, cur, et, val, rfl, hm.new, hcap, hmax, by omega, if_pos rfl, if_pos rfl, (fun _ => rfl), hel.el, h5, h6⟩
    rcases hmode with rfl | rfl <;> exact own
  · exact ⟨rfl, hm.os, hm.tape, hm.output, by rw [hm.size]; omega, fun b hb => hm.old (Nat.lt_of_lt_of_le hb hi.base), hfr, hcell, fun _ _ _ => rfl, fun b ℓ hb _ _ => (hK ℓ).tk b hb, fun _ h => h⟩
end
end Go.Proofs.Ytlhjdikklmkihaa.Ev
