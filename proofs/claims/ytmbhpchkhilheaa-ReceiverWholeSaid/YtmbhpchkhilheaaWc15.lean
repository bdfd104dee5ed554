/- The law ReceiverWhole, as it is given: it returns true whatever it is given, and leaves it as it was. Conditions: none. -/
import Derived.Test.YtmbhpchkhilheaaU1
import Derived.Test.YtmbhpchkhilheaaEvS
import Derived.ProofKit
import Derived.WalkKit
import Derived.OpenShut
import Derived.ShutString
import Derived.ChangeOld
import Derived.Below
import Derived.SizedLaws
import Derived.Test.YtmbhpchkhilheaaUi
import Derived.Test.YtmbhpchkhilheaaFt15
import Derived.Test.YtmbhpchkhilheaaRows
import Derived.KernelRfl
import Derived.Test.YtmbhpchkhilheaaWb15
set_option linter.all false
namespace Go.Proofs.Ytmbhpchkhilheaa.Ev
open Go

/-- A list in a mode; q: it is nil as long as it is empty. -/
def lst (m : Mode) (z : Nat) (q : Bool) (xs : List D) : D := if (q && xs.isEmpty) = true then .sl .nl 0 [] else .sl m z xs
theorem lst_f {m : Mode} {z : Nat} {xs : List D} : lst m z false xs = .sl m z xs := by simp [lst]
def aggE (P : Program) (t : TypeId) : Bool := match P.underlying t with
  | some (.struct _) => true
  | some (.array _ _) => true
  | _ => false
/-- A value of a type, of its cells. -/
def mkV (P : Program) (t : TypeId) (ds : List D) : D := if aggE P t = true then .agg ds else ds.headD .u

/-- The cells of a value of a type. -/
inductive RD (P : Program) : TypeId → List D → Prop
  | bool (t : TypeId) (b : Bool) (h : P.underlying t = some .bool) : RD P t [.v (.bool b)]
  | int (t : TypeId) (k : IntKind) (n : Int) (h : P.underlying t = some (.int k)) (hw : (Lit.int k n).wf = true) : RD P t [.v (.int k n)]
  | str (t : TypeId) (s : ByteArray) (h : P.underlying t = some .string) (hs : s.size ≤ maxLen) : RD P t [.v (.string s)]
  | sl (t e : TypeId) (q : Bool) (xs : List (List D)) (h : P.underlying t = some (.slice e)) (hn : xs.length ≤ maxLen) (hx : ∀ (i : Nat) x, xs[i]? = some x → RD P e x) : RD P t [lst .ro (P.cellsOf e) q (xs.map (mkV P e))]
  | st (t : TypeId) (fs : Array Field) (xs : List (List D)) (h : P.underlying t = some (.struct fs)) (hl : xs.length = fs.size) (hx : ∀ (i : Nat) f x, fs[i]? = some f → xs[i]? = some x → RD P f.type x) : RD P t xs.flatten
  | arr (t e : TypeId) (n : Nat) (xs : List (List D)) (h : P.underlying t = some (.array n e)) (hl : xs.length = n) (hx : ∀ (i : Nat) x, xs[i]? = some x → RD P e x) : RD P t xs.flatten

section
variable {P : Program} {t e : TypeId} {ds : List D}
theorem RD.und (h : RD P t ds) : (∃ b, P.underlying t = some .bool ∧ ds = [.v (.bool b)]) ∨ (∃ k n, P.underlying t = some (.int k) ∧ (Lit.int k n).wf = true ∧ ds = [.v (.int k n)]) ∨ (∃ s, P.underlying t = some .string ∧ s.size ≤ maxLen ∧ ds = [.v (.string s)]) ∨
    (∃ (e : TypeId) (q : Bool) (xs : List (List D)), P.underlying t = some (.slice e) ∧ (xs.length ≤ maxLen ∧ ∀ (i : Nat) x, xs[i]? = some x → RD P e x) ∧ ds = [lst .ro (P.cellsOf e) q (xs.map (mkV P e))]) ∨
    (∃ (fs : Array Field) (xs : List (List D)), P.underlying t = some (.struct fs) ∧ xs.length = fs.size ∧ (∀ (i : Nat) f x, fs[i]? = some f → xs[i]? = some x → RD P f.type x) ∧ ds = xs.flatten) ∨
    (∃ (n : Nat) (e : TypeId) (xs : List (List D)), P.underlying t = some (.array n e) ∧ xs.length = n ∧ (∀ (i : Nat) x, xs[i]? = some x → RD P e x) ∧ ds = xs.flatten) := by
  cases h with
  | bool _ b h => exact .inl ⟨b, h, rfl⟩
  | int _ k n h hw => exact .inr (.inl ⟨k, n, h, hw, rfl⟩)
  | str _ s h hs => exact .inr (.inr (.inl ⟨s, h, hs, rfl⟩))
  | sl _ e q xs h hn hx => exact .inr (.inr (.inr (.inl ⟨e, q, xs, h, ⟨hn, hx⟩, rfl⟩)))
  | st _ fs xs h hl hx => exact .inr (.inr (.inr (.inr (.inl ⟨fs, xs, h, hl, hx, rfl⟩))))
  | arr _ e n xs h hl hx => exact .inr (.inr (.inr (.inr (.inr ⟨n, e, xs, h, hl, hx, rfl⟩))))
theorem RD.bool' (hu : P.underlying t = some .bool) (hh : RD P t ds) : ∃ b, ds = [.v (.bool b)] := by
  rcases hh.und with ⟨b, h, hw⟩ | ⟨k', n, h, hw⟩ | ⟨s, h, hw⟩ | ⟨e', q, xs, h, hw⟩ | ⟨fs', xs, h, hw⟩ | ⟨n', e', xs, h, hw⟩ <;> rw [hu] at h <;> cases h
  exact ⟨b, hw⟩
theorem RD.int' {k : IntKind} (hu : P.underlying t = some (.int k)) (hh : RD P t ds) : ∃ n, (Lit.int k n).wf = true ∧ ds = [.v (.int k n)] := by
  rcases hh.und with ⟨b, h, hw⟩ | ⟨k', n, h, hw⟩ | ⟨s, h, hw⟩ | ⟨e', q, xs, h, hw⟩ | ⟨fs', xs, h, hw⟩ | ⟨n', e', xs, h, hw⟩ <;> rw [hu] at h <;> cases h
  exact ⟨n, hw⟩
theorem RD.str' (hu : P.underlying t = some .string) (hh : RD P t ds) : ∃ s, s.size ≤ maxLen ∧ ds = [.v (.string s)] := by
  rcases hh.und with ⟨b, h, hw⟩ | ⟨k', n, h, hw⟩ | ⟨s, h, hw⟩ | ⟨e', q, xs, h, hw⟩ | ⟨fs', xs, h, hw⟩ | ⟨n', e', xs, h, hw⟩ <;> rw [hu] at h <;> cases h
  exact ⟨s, hw⟩
theorem RD.sl' (hu : P.underlying t = some (.slice e)) (hh : RD P t ds) : ∃ (q : Bool) (xs : List (List D)), (xs.length ≤ maxLen ∧ ∀ x, x ∈ xs → RD P e x) ∧ ds = [lst .ro (P.cellsOf e) q (xs.map (mkV P e))] := by
  rcases hh.und with ⟨b, h, hw⟩ | ⟨k', n, h, hw⟩ | ⟨s, h, hw⟩ | ⟨e', q, xs, h, hw⟩ | ⟨fs', xs, h, hw⟩ | ⟨n', e', xs, h, hw⟩ <;> rw [hu] at h <;> cases h
  exact ⟨q, xs, ⟨hw.1.1, fun x hm => by obtain ⟨i, hi⟩ := List.mem_iff_getElem?.1 hm; exact hw.1.2 i x hi⟩, hw.2⟩
theorem RD.st' {fs : Array Field} (hu : P.underlying t = some (.struct fs)) (hh : RD P t ds) : ∃ xs : List (List D), xs.length = fs.size ∧ (∀ (i : Nat) f x, fs[i]? = some f → xs[i]? = some x → RD P f.type x) ∧ ds = xs.flatten := by
  rcases hh.und with ⟨b, h, hw⟩ | ⟨k', n, h, hw⟩ | ⟨s, h, hw⟩ | ⟨e', q, xs, h, hw⟩ | ⟨fs', xs, h, hw⟩ | ⟨n', e', xs, h, hw⟩ <;> rw [hu] at h <;> cases h
  exact ⟨xs, hw⟩
theorem RD.arr' {n : Nat} (hu : P.underlying t = some (.array n e)) (hh : RD P t ds) : ∃ xs : List (List D), xs.length = n ∧ (∀ (i : Nat) x, xs[i]? = some x → RD P e x) ∧ ds = xs.flatten := by
  rcases hh.und with ⟨b, h, hw⟩ | ⟨k', n, h, hw⟩ | ⟨s, h, hw⟩ | ⟨e', q, xs, h, hw⟩ | ⟨fs', xs, h, hw⟩ | ⟨n', e', xs, h, hw⟩ <;> rw [hu] at h <;> cases h
  exact ⟨xs, hw⟩
theorem lst_cells {m : Mode} {z : Nat} {q : Bool} {xs : List D} : (lst m z q xs).cells = [lst m z q xs] := by unfold lst; split <;> rfl
theorem mkV_cells (hh : RD P t ds) : (mkV P t ds).cells = ds := by
  rcases hh.und with ⟨_, h, rfl⟩ | ⟨k', n, h, hw, rfl⟩ | ⟨_, h, _, rfl⟩ | ⟨_, q, xs, h, hx, rfl⟩ | ⟨_, xs, h, hl, hx, rfl⟩ | ⟨_, _, xs, h, hl, hx, rfl⟩ <;> simp only [mkV, aggE, h, Bool.false_eq_true, ↓reduceIte, List.headD_cons]
  · rfl
  · rfl
  · rfl
  · exact lst_cells
  · rfl
  · rfl
end

/-- The types that are read. -/
def contig (P : Program) : Nat → List Field → Nat → Bool
  | o, [], n => o == n
  | o, f :: fs, n => f.offset == o && contig P (o + P.cellsOf f.type) fs n
def okTy (P : Program) : Nat → TypeId → Bool
  | 0, _ => false
  | k + 1, t => match P.underlying t with
    | some .bool => true
    | some (.int _) => true
    | some .string => true
    | some (.slice e) => okTy P k e && decide (0 < P.cellsOf e)
    | some (.struct fs) => contig P 0 fs.toList (P.cellsOf t) && fs.toList.all fun f => okTy P k f.type
    | some (.array n e) => okTy P k e && P.cellsOf t == n * P.cellsOf e
    | _ => false

section
variable {H : Type} {enc : TypeId × Value → H} {P : Program} {w : World} {base : Nat} {sp : Nat → Bool} {held : Bool} {fr : Nat → Nat}
/-- Cells, told. -/
def Tl (w : World) (fr : Nat → Nat) (cs : List Value) (ds : List D) : Prop := ds.length = cs.length ∧ ∀ (i : Nat) v c, cs[i]? = some v → ds[i]? = some c → RF w fr v c
theorem Tl.one {v : Value} {d : D} (h : RF w fr v d) : Tl w fr [v] [d] := ⟨rfl, fun i v' c h1 h2 => by
  cases i with
  | zero => simp at h1 h2; subst h1 h2; exact h
  | succ i => simp at h1⟩
theorem Tl.app {a b : List Value} {x y : List D} (h : Tl w fr a x) (k : Tl w fr b y) : Tl w fr (a ++ b) (x ++ y) := by
  refine ⟨by rw [List.length_append, List.length_append, h.1, k.1], fun i v c h1 h2 => ?_⟩
  rcases Nat.lt_or_ge i a.length with hi | hi
  · rw [List.getElem?_append_left hi] at h1
    rw [List.getElem?_append_left (by rw [h.1]; exact hi)] at h2
    exact h.2 i v c h1 h2
  · rw [List.getElem?_append_right hi] at h1
    rw [List.getElem?_append_right (by rw [h.1]; exact hi), h.1] at h2
    exact k.2 _ v c h1 h2
theorem tl_fields {Q : TypeId → List D → Prop} {cs : List Value} : ∀ (fs : List Field) (o : Nat), contig P o fs cs.length = true → (∀ f ∈ fs, ∃ ds, Q f.type ds ∧ Tl w fr ((cs.drop f.offset).take (P.cellsOf f.type)) ds) →
    ∃ xs : List (List D), xs.length = fs.length ∧ (∀ (i : Nat) f x, fs[i]? = some f → xs[i]? = some x → Q f.type x) ∧ Tl w fr (cs.drop o) xs.flatten
  | [], o, h, _ => by
    simp only [contig, beq_iff_eq] at h
    refine ⟨[], rfl, fun i f x h => by simp at h, ?_⟩
    rw [h, List.drop_length]
    exact ⟨rfl, fun i v c h => by simp at h⟩
  | f :: fs, o, h, hf => by
    simp only [contig, Bool.and_eq_true, beq_iff_eq] at h
    obtain ⟨ho, h⟩ := h
    obtain ⟨ds, h1, h2⟩ := hf f (List.mem_cons_self ..)
    obtain ⟨xs, h3, h4, h5⟩ := tl_fields fs _ h (fun g hg => hf g (List.mem_cons_of_mem _ hg))
    refine ⟨ds :: xs, by simp [h3], fun i g x hg hx => ?_, ?_⟩
    · cases i with
      | zero => simp at hg hx; subst hg hx; exact h1
      | succ i => simp at hg hx; exact h4 i g x hg hx
    · rw [ho] at h2
      have e : cs.drop o = (cs.drop o).take (P.cellsOf f.type) ++ cs.drop (o + P.cellsOf f.type) := by rw [← List.drop_drop, List.take_append_drop]
      rw [e, List.flatten_cons]
      exact h2.app h5
theorem tl_elems {Q : List D → Prop} {cs : List Value} {z : Nat} : ∀ (m o : Nat), cs.length = (o + m) * z → (∀ i, o ≤ i → i < o + m → ∃ ds, Q ds ∧ Tl w fr ((cs.drop (i * z)).take z) ds) →
    ∃ xs : List (List D), xs.length = m ∧ (∀ (i : Nat) x, xs[i]? = some x → Q x) ∧ Tl w fr (cs.drop (o * z)) xs.flatten
  | 0, o, h, _ => by
    refine ⟨[], rfl, fun i x h => by simp at h, ?_⟩
    rw [Nat.add_zero] at h
    rw [← h, List.drop_length]
    exact ⟨rfl, fun i v c h => by simp at h⟩
  | m + 1, o, h, hf => by
    obtain ⟨ds, h1, h2⟩ := hf o (Nat.le_refl _) (by omega)
    obtain ⟨xs, h3, h4, h5⟩ := tl_elems m (o + 1) (by rw [h]; congr 1; omega) (fun i h1 h2 => hf i (by omega) (by omega))
    refine ⟨ds :: xs, by simp [h3], fun i x hx => ?_, ?_⟩
    · cases i with
      | zero => simp at hx; subst hx; exact h1
      | succ i => simp at hx; exact h4 i x hx
    · have e : cs.drop (o * z) = (cs.drop (o * z)).take z ++ cs.drop ((o + 1) * z) := by rw [Nat.add_mul, Nat.one_mul, ← List.drop_drop, List.take_append_drop]
      rw [e, List.flatten_cons]
      exact h2.app h5

theorem cells?_get {base : Nat} {a : Addr} {n : Nat} {vs : List Value} (h : w.cells? base a n = some vs) : vs.length = n ∧ ∀ i, i < n → w.cell? (a.add i) = vs[i]? := by
  unfold World.cells? at h
  split at h
  · refine ⟨by simpa using mapM_some_length h, fun i hi => ?_⟩
    exact mapM_some_get h i i (by rw [List.getElem?_range hi])
  · cases h
theorem spot_of {a : Addr} {k : Nat} {v : Value} (h : w.cell? (a.add 0) = some v) : a.spot = none := by
  simp only [Addr.add, ↓reduceIte] at h
  unfold World.cell? at h
  split at h
  · split at h
    · cases h
    · rename_i hs
      cases hq : a.spot with
      | none => rfl
      | some _ => rw [hq] at hs; exact absurd rfl hs
  · cases h

/-- What is read, is told. -/
theorem read_tl (hsp : ∀ b, sp b = true) (hfr : ∀ b o, (w.cell? ⟨b, o, none⟩).isSome → o < fr b) : ∀ (k : Nat) (t : TypeId), okTy P k t = true → ∀ (n : Nat) (cs : List Value) (x : DataW H × List MemPlace), DataW.trod enc P w base sp held n t cs = some x → ∃ ds, RD P t ds ∧ Tl w fr cs ds
  | 0, _, h => by cases h
  | k + 1, t, h => by
    intro n cs x hx
    unfold okTy at h
    split at h
    · rename_i hu
      obtain ⟨b, rfl, _⟩ := DataW.trod_bool hu hx
      exact ⟨_, .bool t b hu, .one (.v _ rfl)⟩
    · rename_i hu
      obtain ⟨m, rfl, _, hw⟩ := DataW.trod_int hu hx
      exact ⟨_, .int t _ m hu hw, .one (.v _ rfl)⟩
    · rename_i hu
      obtain ⟨s, rfl, _, hs⟩ := DataW.trod_string hu hx
      exact ⟨_, .str t s hu hs, .one (.v _ rfl)⟩
    · rename_i e hu
      rw [Bool.and_eq_true, decide_eq_true_eq] at h
      obtain ⟨h, hz⟩ := h
      rcases DataW.trod_slice hu hx with ⟨rfl, _⟩ | ⟨a, len, cap, elems, rest, m, _, rfl, _, _, hlc, hcap, hlen, hel, hrest, _⟩
      · refine ⟨_, .sl t e true [] hu (Nat.zero_le _) (fun i x h => by simp at h), .one ?_⟩
        exact .nl 0
      · have each : ∀ i, i < len → ∃ vs ds, (∀ j, j < P.cellsOf e → w.cell? ((a.add (i * P.cellsOf e)).add j) = vs[j]?) ∧ vs.length = P.cellsOf e ∧ RD P e ds ∧ Tl w fr vs ds := by
          intro i hi
          have h1 := hel i hi
          rw [List.getElem?_eq_getElem (by omega)] at h1
          cases hc : w.cells? base (a.add (i * P.cellsOf e)) (P.cellsOf e) with
          | none => rw [hc] at h1; cases h1
          | some vs =>
            rw [hc] at h1
            obtain ⟨ds, h2, h3⟩ := read_tl hsp hfr k e h m vs _ h1
            obtain ⟨h4, h5⟩ := cells?_get hc
            exact ⟨vs, ds, h5, h4, h2, h3⟩
        have all : ∃ xs : List (List D), xs.length = len ∧ ∀ (i : Nat) x, xs[i]? = some x → RD P e x ∧ ∃ vs : List Value, (∀ j, j < P.cellsOf e → w.cell? ((a.add (i * P.cellsOf e)).add j) = vs[j]?) ∧ vs.length = P.cellsOf e ∧ Tl w fr vs x := by
          clear hx hel hlen hlc hcap hrest
          induction len with
          | zero => exact ⟨[], rfl, fun i x h => by simp at h⟩
          | succ len ih =>
            obtain ⟨xs, h1, h2⟩ := ih (fun i hi => each i (by omega))
            obtain ⟨vs, ds, h3, h4, h5, h6⟩ := each len (by omega)
            refine ⟨xs ++ [ds], by simp [h1], fun i x hx => ?_⟩
            rcases Nat.lt_trichotomy i xs.length with hi | hi | hi
            · rw [List.getElem?_append_left hi] at hx; exact h2 i x hx
            · rw [List.getElem?_append_right (by omega), hi, Nat.sub_self] at hx
              simp at hx
              subst hx
              rw [hi, h1]
              exact ⟨h5, vs, h3, h4, h6⟩
            · rw [List.getElem?_append_right (by omega)] at hx
              have : i - xs.length ≠ 0 := by omega
              cases hk : i - xs.length with
              | zero => omega
              | succ q => rw [hk] at hx; simp at hx
        obtain ⟨xs, h1, h2⟩ := all
        refine ⟨_, .sl t e false xs hu (by omega) (fun i x hx => (h2 i x hx).1), .one ?_⟩
        rw [lst_f]
        rcases Nat.eq_zero_or_pos len with h0 | h0
        · subst h0
          obtain rfl : xs = [] := List.eq_nil_of_length_eq_zero h1
          rcases Nat.eq_zero_or_pos cap with c0 | c0
          · subst c0
            exact .z a _
          · obtain ⟨r1, r2⟩ := hrest (hsp _)
            have r3 := r2 0 (by omega)
            rw [List.getElem?_eq_getElem (by omega)] at r3
            cases hc : w.cells? base (a.add ((0 + 0) * P.cellsOf e)) (P.cellsOf e) with
            | none => rw [hc] at r3; cases r3
            | some vs =>
              obtain ⟨h4, h5⟩ := cells?_get hc
              have h6 := h5 0 hz
              rw [List.getElem?_eq_getElem (by omega), Nat.add_zero, Nat.zero_mul] at h6
              have hsp' : a.spot = none := spot_of (k := 0) (by simpa [Addr.add] using h6)
              obtain ⟨b, off, s⟩ := a
              simp only at hsp'
              subst hsp'
              exact .ro b off cap _ [] (fun _ _ => undef) (Nat.zero_le _) hcap (.inl rfl) (fun i d h => by simp at h) (fun i d j c h => by simp at h) (fun i d j c h => by simp at h)
        obtain ⟨x0, hx0⟩ : ∃ x0, xs[0]? = some x0 := ⟨_, List.getElem?_eq_getElem (by omega)⟩
        obtain ⟨_, v0, h3, h4, _⟩ := h2 0 x0 hx0
        have hsp : a.spot = none := by
          have := h3 0 hz
          rw [List.getElem?_eq_getElem (by omega), Nat.zero_mul] at this
          exact spot_of (k := 0) (by simpa [Addr.add] using this)
        obtain ⟨b, off, s⟩ := a
        simp only at hsp
        subst hsp
        simp only [add_lit] at h2
        have hcell : ∀ (i : Nat) d (j : Nat) c, (xs.map (mkV P e))[i]? = some d → d.cells[j]? = some c → ∃ v, w.cell? ⟨b, off + i * P.cellsOf e + j, none⟩ = some v ∧ RF w fr v c := by
          intro i d j c hd hj
          rw [List.getElem?_map] at hd
          cases hxi : xs[i]? with
          | none => rw [hxi] at hd; cases hd
          | some x =>
            rw [hxi] at hd
            injection hd with hd
            subst hd
            obtain ⟨g1, vs, g2, g3, g4⟩ := h2 i x hxi
            rw [mkV_cells g1] at hj
            have hjl := getq_lt hj
            rw [g4.1, g3] at hjl
            have hv : vs[j]? = some vs[j] := List.getElem?_eq_getElem (by omega)
            exact ⟨vs[j], by rw [g2 j hjl, hv], g4.2 j _ c hv hj⟩
        have hcl : ∀ (i : Nat) d, (xs.map (mkV P e))[i]? = some d → d.cells.length = P.cellsOf e := by
          intro i d hd
          rw [List.getElem?_map] at hd
          cases hxi : xs[i]? with
          | none => rw [hxi] at hd; cases hd
          | some x =>
            rw [hxi] at hd
            injection hd with hd
            subst hd
            obtain ⟨g1, vs, g2, g3, g4⟩ := h2 i x hxi
            rw [mkV_cells g1, g4.1, g3]
        have hml : (xs.map (mkV P e)).length = len := by rw [List.length_map, h1]
        rw [← hml]
        refine .ro b off cap _ _ (fun i j => (w.cell? ⟨b, off + i * P.cellsOf e + j, none⟩).getD undef) (by omega) hcap (.inr ?_) hcl (fun i d j c hd hj => ?_) (fun i d j c hd hj => ?_)
        · rw [hml]
          obtain ⟨d, hd⟩ : ∃ d, (xs.map (mkV P e))[len - 1]? = some d := ⟨_, List.getElem?_eq_getElem (by omega)⟩
          obtain ⟨c, hc⟩ : ∃ c, d.cells[P.cellsOf e - 1]? = some c := ⟨_, List.getElem?_eq_getElem (by rw [hcl _ _ hd]; omega)⟩
          obtain ⟨v, hv, _⟩ := hcell _ _ _ _ hd hc
          have := hfr b (off + (len - 1) * P.cellsOf e + (P.cellsOf e - 1)) (by rw [hv]; rfl)
          have e1 : len * P.cellsOf e = (len - 1) * P.cellsOf e + P.cellsOf e := by
            conv => lhs; rw [show len = (len - 1) + 1 by omega, Nat.add_mul, Nat.one_mul]
          omega
        · obtain ⟨v, hv, _⟩ := hcell _ _ _ _ hd hj
          rw [hv]; rfl
        · obtain ⟨v, hv, hr⟩ := hcell _ _ _ _ hd hj
          rw [hv]; exact hr
    · rename_i fs hu
      rw [Bool.and_eq_true] at h
      obtain ⟨hc, hall⟩ := h
      obtain ⟨ys, m, _, _, hl, hys, hf⟩ := DataW.trod_struct hu hx
      rw [← hl] at hc
      obtain ⟨xs, h1, h2, h3⟩ := tl_fields (P := P) (w := w) (fr := fr) (Q := RD P) (cs := cs) fs.toList 0 hc (fun f hm => by
        obtain ⟨i, hi⟩ := List.mem_iff_getElem?.1 hm
        have hi' : fs[i]? = some f := by rw [← Array.getElem?_toList]; exact hi
        have h4 := hf i f hi'
        rw [List.getElem?_eq_getElem (by rw [hys]; exact (Array.getElem?_eq_some_iff.1 hi').1)] at h4
        exact read_tl hsp hfr k f.type (List.all_eq_true.1 hall f hm) m _ _ h4)
      refine ⟨_, .st t fs xs hu (by rw [h1]; rfl) (fun i f x hf hx => h2 i f x (by rw [Array.getElem?_toList]; exact hf) hx), ?_⟩
      simpa using h3
    · rename_i m e hu
      rw [Bool.and_eq_true, beq_iff_eq] at h
      obtain ⟨h, hz⟩ := h
      obtain ⟨ys, m', _, _, hl, hys, hf⟩ := DataW.trod_array hu hx
      obtain ⟨xs, h1, h2, h3⟩ := tl_elems (w := w) (fr := fr) (Q := RD P e) (cs := cs) (z := P.cellsOf e) m 0 (by rw [hl, hz, Nat.zero_add]) (fun i _ hi => by
        have h4 := hf i (by omega)
        rw [List.getElem?_eq_getElem (by omega)] at h4
        exact read_tl hsp hfr k e h m' _ _ h4)
      refine ⟨_, .arr t e m xs hu h1 h2, ?_⟩
      simpa using h3
    · cases h
end
end Go.Proofs.Ytmbhpchkhilheaa.Ev
namespace Go.Proofs.Ytmbhpchkhilheaa.Ev
open Go Go.RowKit

def g0 (w : World) : G := ⟨w.heap.size, fun _ _ => none, fun b => match w.heap[b]? with | some (.cells cs _ _) => cs.size | _ => 0, fun _ => none, fun _ => false⟩
theorem fr0 {w : World} (b o : Nat) (h : (w.cell? ⟨b, o, none⟩).isSome) : o < (g0 w).fr b := by
  unfold World.cell? at h
  simp only [Option.isSome_none, Bool.false_eq_true, ↓reduceIte] at h
  simp only [g0]
  split at h
  · rename_i hb
    rw [hb]
    simp only
    exact (Array.getElem?_eq_some_iff.1 (Option.isSome_iff_exists.1 h).choose_spec).1
  · cases h
theorem inv0 (w : World) : Inv (g0 w) w where
  base := Nat.le_refl _
  fresh b hb := by
    refine ⟨?_, rfl⟩
    simp only [g0]
    rw [Array.getElem?_eq_none hb]
  box f s b h := by cases h
  inj f s f' s' b h := by cases h
  tk b l h := by cases h
  cells b o h := by
    simp only [g0] at h
    split at h
    · rename_i hb
      unfold World.cell?
      simp only [hb, Option.isSome_none, Bool.false_eq_true, ↓reduceIte]
      rw [Array.getElem?_eq_getElem h]; rfl
    · cases h
  dm b h := by cases h
  dt b h := by cases h
theorem sb0 (w : World) : SB (g0 w) w [] where
  rel f s ds h := by simp [bxl] at h
  dom f s h := by cases h
  bnd f s ds d h := by simp [bxl] at h

section
variable {H : Type} {enc : TypeId × Value → H} {w : World} {base b0 k : Nat} {sp : Nat → Bool} {held : Bool} {t : TypeId} {v : Value} {d : DataW H} {ps : List MemPlace}
theorem open_arg (hsp : ∀ b, sp b = true) (hk : okTy PP k t = true) (hval : Value.okWide PP w .any b0 t v) (h : DataW.Trod enc PP w base sp held t v d ps) : ∃ ds, RD PP t ds ∧ ∀ L, RV (g0 w) w L v (mkV PP t ds) := by
  obtain ⟨n, h⟩ := h
  obtain ⟨ds, h1, h2⟩ := read_tl hsp (fr := (g0 w).fr) fr0 k t hk n _ _ h
  refine ⟨ds, h1, fun L => ?_⟩
  have agg : ∀ cs : Array Value, v = .agg cs → RV (g0 w) w L v (.agg ds) := by
    intro cs e
    subst e
    have e : (Value.agg cs).cells.toList = cs.toList := rfl
    rw [e] at h2
    refine ⟨cs, rfl, h2.1.symm, fun c d hc => ?_⟩
    have hl := getq_lt hc
    rw [h2.1] at hl
    have hv : cs[c]? = some cs[c] := Array.getElem?_eq_getElem hl
    exact ⟨_, hv, (h2.2 c _ _ (by rw [Array.getElem?_toList]; exact hv) hc).toRC _⟩
  have one : v.cells.toList = [v] → ∀ d', ds = [d'] → d'.aggB = false → RV (g0 w) w L v d' := by
    intro e d' e' ha
    subst e'
    rw [e] at h2
    rw [RV_ne ha]
    exact (h2.2 0 v d' rfl rfl).toRC _
  rcases h1.und with ⟨b, hu, e⟩ | ⟨k', m, hu, _, e⟩ | ⟨s, hu, _, e⟩ | ⟨e', q, xs, hu, _, e⟩ | ⟨fs, xs, hu, _, _, e⟩ | ⟨m, e', xs, hu, _, _, e⟩ <;> simp only [mkV, aggE, hu, Bool.false_eq_true, ↓reduceIte]
  · obtain ⟨x, rfl⟩ := WideShapes.okWide_bool hu hval
    rw [e]; exact one rfl _ e rfl
  · obtain ⟨x, rfl⟩ := WideShapes.okWide_int hu hval
    rw [e]; exact one rfl _ e rfl
  · obtain ⟨x, rfl⟩ := WideShapes.okWide_string hu hval
    rw [e]; exact one rfl _ e rfl
  · obtain ⟨x, l, c, rfl⟩ := WideShapes.okWide_slice hu hval
    rw [e]; exact one rfl _ e (by unfold lst; split <;> rfl)
  · simp only [Value.okWide, hu] at hval
    obtain ⟨cs, rfl, _⟩ := hval
    exact agg cs rfl
  · simp only [Value.okWide, hu] at hval
    obtain ⟨cs, rfl, _⟩ := hval
    exact agg cs rfl
end

theorem run0 {prog : Nat → Option Fn} (hp : MProg PP prog) {f : Nat} {ds : List D} {r : D} (hf : f < RL) (h : EF prog f ds [] = some (r, [])) {W : World} {vs : Array Value} (hs : vs.size = ds.length)
    (hv : ∀ (i : Nat) d, ds[i]? = some d → ∃ x, vs[i]? = some x ∧ ∀ L, RV (g0 W) W L x d) :
    Calls PP f vs W fun e W' => ∃ x g', e = .returned x ∧ RT g' W' retL x r ∧ Below W.heap.size W W' := by
  obtain ⟨_, _, h2⟩ := (EF_good hp f ds [] r [] h).1 hf
  have h3 := h2 (g0 W) W vs (inv0 W) (sb0 W) hs (fun i d hi => by
    obtain ⟨x, hx, hr⟩ := hv i d hi
    exact ⟨x, hx, hr _⟩)
  refine ((callsIn_wide (n := 0)).1 h3).mono fun e W' ⟨x, g', he, hi, _, _, hx, hr⟩ => ⟨x, g', he, hr, hx.os, hx.tape, hx.output, hx.size, hx.old⟩
end Go.Proofs.Ytmbhpchkhilheaa.Ev
namespace Go.Proofs.Ytmbhpchkhilheaa.Ev.U
open Go
/-- A cell is of a type. -/
def CellOk (P : Caller) (τ : Ty) (d : D) : Prop := τ.one = true ∧ ∃ x : τ.T, RepL P τ [] x [d]
def rowL : Ty → List Ty
  | .p a r => a :: rowL r
  | τ => [τ]
def rowKk : Ty → Bool
  | .p a r => a.one && (r.rowk && rowKk r)
  | τ => τ.one
theorem row_of {P : Caller} : ∀ (r : Ty) (ds : List D), rowKk r = true → All2 (CellOk P) (rowL r) ds → ∃ x : r.T, RepL P r [] x ds := by
  have base : ∀ (r : Ty) (ds : List D), All2 (CellOk P) [r] ds → ∃ x : r.T, RepL P r [] x ds := fun r ds h => by
    obtain ⟨d, q, rfl, ⟨_, x, hx⟩, h2⟩ := h.cons_l
    obtain rfl := h2.nil_l
    exact ⟨x, hx⟩
  intro r
  induction r with
  | p a r _ ih =>
    intro ds hk h
    simp only [rowKk, Bool.and_eq_true] at hk
    obtain ⟨d, q, rfl, ⟨_, x, hx⟩, h2⟩ := h.cons_l
    obtain ⟨y, hy⟩ := ih q hk.2.2 h2
    exact ⟨(x, y), ⟨hk.1, hk.2.1⟩, d, q, rfl, hx, hy⟩
  | _ => intro ds _ h; exact base _ ds h
/-- Types of cells, eaten from the front. -/
def manyM (cM : TypeId → List Ty → Option (List Ty)) : List TypeId → List Ty → Option (List Ty)
  | [], ts => some ts
  | t :: l, ts => (cM t ts).bind (manyM cM l)
def endM : Option (List Ty) → Bool
  | some [] => true
  | _ => false
def valM (P : Program) (cM : TypeId → List Ty → Option (List Ty)) (e : TypeId) (τ : Ty) : Bool := bif aggE P e then (match τ with
  | .g r => r.rowk && rowKk r && endM (cM e (rowL r))
  | _ => false) else τ.one && endM (cM e [τ])
def cellM (P : Program) : Nat → TypeId → List Ty → Option (List Ty)
  | 0, _, _ => none
  | k + 1, t, ts => match P.underlying t with
    | some .bool => match ts with
      | .b :: q => some q
      | _ => none
    | some (.int k1) => match ts with
      | .i k2 :: q => bif decide (k1 = k2) then some q else none
      | _ => none
    | some .string => match ts with
      | .s :: q => some q
      | _ => none
    | some (.slice e) => match ts with
      | .l .ro τ :: q => bif valM P (cellM P k) e τ && (csz τ == P.cellsOf e) then some q else none
      | _ => none
    | some (.struct fs) => manyM (cellM P k) (fs.toList.map (·.type)) ts
    | some (.array n e) => manyM (cellM P k) (List.replicate n e) ts
    | _ => none
section
variable {P : Caller}
def CM (P : Caller) (cM : TypeId → List Ty → Option (List Ty)) : Prop := ∀ t ts q, cM t ts = some q → ∀ ds, RD PP t ds → ∃ us, ts = us ++ q ∧ All2 (CellOk P) us ds
theorem many_ok {cM : TypeId → List Ty → Option (List Ty)} (h : CM P cM) : ∀ (l : List TypeId) (ts q : List Ty), manyM cM l ts = some q → ∀ xs : List (List D), xs.length = l.length → (∀ (i : Nat) t x, l[i]? = some t → xs[i]? = some x → RD PP t x) → ∃ us, ts = us ++ q ∧ All2 (CellOk P) us xs.flatten
  | [], ts, q, hm, xs, hl, hx => by
    obtain rfl : ts = q := by injection hm
    obtain rfl : xs = [] := List.eq_nil_of_length_eq_zero hl
    exact ⟨[], rfl, trivial⟩
  | t :: l, ts, q, hm, [], hl, hx => by simp at hl
  | t :: l, ts, q, hm, x :: xs, hl, hx => by
    obtain ⟨r, h1, h2⟩ := Option.bind_eq_some_iff.1 hm
    obtain ⟨us, rfl, h3⟩ := h t ts r h1 x (hx 0 t x rfl rfl)
    obtain ⟨vs, rfl, h4⟩ := many_ok h l r q h2 xs (by simpa using hl) fun i t x ht hq => hx (i + 1) t x (by simpa using ht) (by simpa using hq)
    exact ⟨us ++ vs, by simp, by rw [List.flatten_cons]; exact h3.app h4⟩
theorem end_ok {o : Option (List Ty)} (h : endM o = true) : o = some [] := by
  cases o with
  | none => cases h
  | some l => cases l with
    | nil => rfl
    | cons => cases h
theorem val_ok {cM : TypeId → List Ty → Option (List Ty)} (h : CM P cM) {e : TypeId} {τ : Ty} (hm : valM PP cM e τ = true) {ds : List D} (hr : RD PP e ds) : τ.val = true ∧ ∃ x : τ.T, RepL P τ [] x [mkV PP e ds] := by
  unfold valM at hm
  cases ha : aggE PP e with
  | true =>
    rw [ha, cond_true] at hm
    have hv : mkV PP e ds = .agg ds := by unfold mkV; rw [if_pos ha]
    rw [hv]
    cases τ with
    | g r =>
      simp only [Bool.and_eq_true] at hm
      obtain ⟨us, h1, h2⟩ := h e (rowL r) [] (end_ok hm.2) ds hr
      rw [List.append_nil] at h1
      subst h1
      obtain ⟨x, hx⟩ := row_of r ds hm.1.2 h2
      exact ⟨rfl, x, hm.1.1, ds, rfl, hx⟩
    | _ => cases hm
  | false =>
    rw [ha, cond_false, Bool.and_eq_true] at hm
    have hv : mkV PP e ds = ds.headD .u := by unfold mkV; rw [if_neg (by rw [ha]; simp)]
    obtain ⟨us, h1, h2⟩ := h e [τ] [] (end_ok hm.2) ds hr
    rw [List.append_nil] at h1
    subst h1
    obtain ⟨d, q, rfl, ⟨h3, x, hx⟩, h4⟩ := h2.cons_l
    obtain rfl := h4.nil_l
    rw [hv]
    refine ⟨?_, x, hx⟩
    cases τ <;> first | exact h3 | rfl
theorem list_ok {cM : TypeId → List Ty → Option (List Ty)} (h : CM P cM) {e : TypeId} {τ : Ty} (hm : valM PP cM e τ = true) : ∀ {xs : List (List D)}, (∀ x, x ∈ xs → RD PP e x) → ∃ l : List τ.T, l.length = xs.length ∧ All2 (fun y d => RepL P τ [] y [d]) l (xs.map (mkV PP e))
  | [], _ => ⟨[], rfl, trivial⟩
  | x :: xs, hx => by
    obtain ⟨l, h1, h2⟩ := list_ok h hm (xs := xs) fun y hy => hx y (List.mem_cons_of_mem _ hy)
    obtain ⟨_, y, hy⟩ := val_ok h hm (hx x (List.mem_cons_self ..))
    exact ⟨y :: l, by simp [h1], hy, h2⟩
theorem str_ok (s : ByteArray) : strV (s.data.toList.map fun u => ((u.toNat : Nat) : Int)) = s := by
  have : ∀ l : List UInt8, (l.map fun u => ((u.toNat : Nat) : Int)).map (fun c => UInt8.ofNat c.toNat) = l := by
    intro l
    induction l with
    | nil => rfl
    | cons u l ih => simp only [List.map_cons, ih, Int.toNat_natCast, UInt8.ofNat_toNat]
  unfold strV
  rw [this]
theorem wf_in {k : IntKind} {n : Int} (h : (Lit.int k n).wf = true) : inK k n = true := by
  simp only [Lit.wf, Bool.and_eq_true, decide_eq_true_eq] at h
  cases k <;> exact decide_eq_true h
theorem cell_ok : ∀ k, CM P (cellM PP k)
  | 0 => fun t ts q h => by cases h
  | k + 1 => fun t ts q h ds hr => by
    have ih := cell_ok k
    unfold cellM at h
    split at h
    · rename_i hu
      obtain ⟨b, rfl⟩ := hr.bool' hu
      split at h
      · injection h with h; subst h
        exact ⟨[.b], rfl, ⟨rfl, b, rfl⟩, trivial⟩
      · cases h
    · rename_i k1 hu
      obtain ⟨n, hw, rfl⟩ := hr.int' hu
      split at h
      · rename_i k2 q'
        by_cases e : k1 = k2
        · rw [decide_eq_true e, cond_true] at h
          injection h with h; subst h; subst e
          exact ⟨[.i k1], rfl, ⟨rfl, n, rfl, wf_in hw⟩, trivial⟩
        · rw [decide_eq_false e, cond_false] at h; cases h
      · cases h
    · rename_i hu
      obtain ⟨s, hs, rfl⟩ := hr.str' hu
      split at h
      · injection h with h; subst h
        refine ⟨[.s], rfl, ⟨rfl, s.data.toList.map fun u => ((u.toNat : Nat) : Int), by rw [str_ok], ?_, fun c hc => ?_⟩, trivial⟩
        · rw [List.length_map]; exact hs
        · obtain ⟨u, _, rfl⟩ := List.mem_map.1 hc
          have := u.toNat_lt
          omega
      · cases h
    · rename_i e hu
      obtain ⟨b, xs, ⟨hn, hx⟩, rfl⟩ := hr.sl' hu
      split at h
      · rename_i τ q'
        cases hc : (valM PP (cellM PP k) e τ && (csz τ == PP.cellsOf e)) with
        | false => rw [hc, cond_false] at h; cases h
        | true =>
          rw [hc, cond_true] at h
          injection h with h; subst h
          rw [Bool.and_eq_true, beq_iff_eq] at hc
          obtain ⟨l, h1, h2⟩ := list_ok ih hc.1 hx
          refine ⟨[.l .ro τ], rfl, ⟨rfl, l, by rw [h1]; exact hn, _, h2, ?_⟩, trivial⟩
          unfold lst
          rw [hc.2]
          split
          · rename_i hq
            simp only [Bool.and_eq_true, List.isEmpty_iff] at hq
            exact .inr ⟨hq.2, 0, rfl⟩
          · exact .inl rfl
      · cases h
    · rename_i fs hu
      obtain ⟨xs, hl, hx, rfl⟩ := hr.st' hu
      refine many_ok ih _ ts q h xs (by simpa using hl) fun i t x ht hq => ?_
      rw [List.getElem?_map] at ht
      cases hf : fs.toList[i]? with
      | none => rw [hf] at ht; cases ht
      | some f =>
        rw [hf] at ht
        injection ht with ht; subst ht
        exact hx i f x (by rw [← Array.getElem?_toList]; exact hf) hq
    · rename_i n e hu
      obtain ⟨xs, hl, hx, rfl⟩ := hr.arr' hu
      refine many_ok ih _ ts q h xs (by simpa using hl) fun i t x ht hq => ?_
      have := List.mem_of_getElem? ht
      obtain ⟨_, rfl⟩ := List.mem_replicate.1 this
      exact hx i x hq
    · cases h
end
/-- A value of a type, read as one. -/
theorem arg_u {P : Caller} (k : Nat) {t : TypeId} (τ : Ty) (hm : valM PP (cellM PP k) t τ = true) {ds : List D} (hr : RD PP t ds) : ∃ x : τ.T, RepL P τ [] x [mkV PP t ds] := (val_ok (cell_ok k) hm hr).2
/-- The numbers of a value are of their kinds. -/
def Wf : (τ : Ty) → τ.T → Prop
  | .i k, x => inK k x = true
  | .b, _ => True
  | .s, x => ∀ c : Int, List.Mem (α := Int) c x → 0 ≤ c ∧ c < 256
  | .l _ t, x => ∀ y : t.T, List.Mem (α := t.T) y x → Wf t y
  | .p a r, x => Wf a x.1 ∧ Wf r x.2
  | .g r, x => Wf r x
  | .t a r, x => Wf a x.1 ∧ Wf r x.2
  | .n, _ => True
  | .o _ _, _ => True
  | .fn _ _, _ => True
theorem All2.mem_l {α β : Type} {R : α → β → Prop} : ∀ {xs : List α} {ys : List β}, All2 R xs ys → ∀ x ∈ xs, ∃ y, R x y
  | [], _, _, x, h => by cases h
  | a :: xs, [], h, _, _ => h.elim
  | a :: xs, b :: ys, h, x, hx => by
    rcases List.mem_cons.1 hx with rfl | hx
    · exact ⟨b, h.1⟩
    · exact All2.mem_l h.2 x hx
theorem wf_rep {P : Caller} {F : List Fx} : ∀ {τ : Ty} {x : τ.T} {ds : List D}, RepL P τ F x ds → Wf τ x
  | .i k, x, ds, h => h.2
  | .b, x, ds, h => trivial
  | .s, x, ds, h => h.2.2
  | .l m t, x, ds, h => by
    obtain ⟨_, es, h1, _⟩ := h
    intro y hy
    obtain ⟨e, he⟩ := h1.mem_l y hy
    exact wf_rep (τ := t) he
  | .p a r, x, ds, h => by
    obtain ⟨_, d, q, _, h1, h2⟩ := h
    exact ⟨wf_rep h1, wf_rep h2⟩
  | .g r, x, ds, h => by
    obtain ⟨_, cs, _, h1⟩ := h
    exact wf_rep (τ := r) h1
  | .t a r, x, ds, h => by
    obtain ⟨_, d, q, _, h1, h2⟩ := h
    exact ⟨wf_rep h1, wf_rep h2⟩
  | .n, x, ds, h => trivial
  | .o _ _, x, ds, h => trivial
  | .fn _ _, x, ds, h => trivial
/-- A typed function without pointers, as a call. -/
theorem ef_b {P : Caller} {f : Nat} {a : AK} {ak : List AK} {F : (Sg.mk (a :: ak) .b).aT.T → Option (Sg.mk (a :: ak) .b).oT.T} (ho : TOK P f (.par ⟨a :: ak, .b⟩ F)) (hv : ∀ b ∈ a :: ak, ∃ τ, b = .v τ) (ht : (Sg.mk (a :: ak) .b).aT.tupk = true)
    {x : (Sg.mk (a :: ak) .b).aT.T} {ds : List D} (hl : ds.length = (a :: ak).length) (hr : RepL P (Sg.mk (a :: ak) .b).aT [] x ds) {y : (Sg.mk (a :: ak) .b).oT.T} (hy : F x = some y) : ∃ b : Bool, P f ds [] = some (D.v (.bool b), []) ∧ HEq y b := by
  have hw := tupW_ok (c := cz P) ht hr
  have harg := argl_v (c' := cz P) hv (by rw [← hl, hw.length]) hw
  obtain ⟨d, Y', r1, r2, r3⟩ := ho [] 0 [] (fun _ => []) [] (cz_ok P) (fun i r ys h => by simp at h) x ds harg y hy
  have hrun : P f ds [] = some (d, []) := by
    have := r3 [] ⟨rfl, Sat.nil [], (fun r h => by cases h), (fun i r h => by simp at h)⟩ (fun i r ys h => by simp at h)
    rw [this]
    cases Y' <;> rfl
  have key : ∀ {xk : List Ty} {z : (oTy .b xk).T}, xk = [] → Rep4 (c0 P) (outW .b xk z).1 d → ∃ b : Bool, d = D.v (.bool b) ∧ HEq z b := by
    intro xk z hx hrep
    subst hx
    obtain rfl := b_d hrep.2
    exact ⟨z, rfl, HEq.rfl⟩
  obtain ⟨b, rfl, hb⟩ := key (xs_v hv) r1
  exact ⟨b, hrun, hb⟩
end Go.Proofs.Ytmbhpchkhilheaa.Ev.U
namespace Go.Proofs.Ytmbhpchkhilheaa.Ev
open Go Go.ChangeShapes Go.WideShapes Go.ChangeAt Go.RowKit
theorem own : ownKnob Try.prog.godebug = none := by kernel_rfl
theorem laidOut : laidOutB Try.prog = true := by kernel_rfl
theorem rtb {g : G} {w : World} {x : Value} {b : Bool} (h : RT g w retL x (.v (.bool b))) : x = .bool b := h
def vT : Value := .agg #[.int .i64 0, .int .u32 0, .int .i64 0, .slice none 0 0, .slice none 0 0, .int .u32 0, .int .i64 0, .int .i64 0, .int .i64 0]
def vS : Value := .agg #[.int .i64 0, .int .i64 0, .int .u32 0, .int .u32 0, .int .u32 0, .int .i64 0, .int .i64 0, .int .i64 0, .int .i64 0, .int .i64 0, .bool false, .slice none 0 0, .slice none 0 0]
namespace U
theorem wf_T {a : Taking} (h : Wf YTaking a) : 0 ≤ a.2.1 ∧ (0 ≤ a.2.2.2.2.2.1 ∧ a.2.2.2.2.2.1 ≤ 4294967295) := by
  have h1 : inK .u32 a.2.1 = true := h.2.1
  have h2 : inK .u32 a.2.2.2.2.2.1 = true := h.2.2.2.2.2.1
  have h1 := of_decide_eq_true h1
  have h2 := of_decide_eq_true h2
  exact ⟨h1.1, h2⟩
theorem wf_S {x : Segment} (h : Wf YSegment x) : 0 ≤ x.2.2.1 := by
  have h1 : inK .u32 x.2.2.1 = true := h.2.2.1
  exact (of_decide_eq_true h1).1
end U
end Go.Proofs.Ytmbhpchkhilheaa.Ev
namespace Go.Proofs.Ytmbhpchkhilheaa.Ev.U
open Go
theorem ef6 {x0 : (.l .ro (.i .u8) : Ty).T} {x1 : (.l .ro YCut : Ty).T} {x2 : (.i .i64 : Ty).T} {d0 d1 d2 : D} (r0 : RepL (EF pg) (.l .ro (.i .u8)) [] x0 [d0]) (r1 : RepL (EF pg) (.l .ro YCut) [] x1 [d1]) (r2 : RepL (EF pg) (.i .i64) [] x2 [d2]) : EF pg 6 [d0, d1, d2] [] = some (.v (.bool true), []) := by
  obtain ⟨r, h1, h2⟩ := ef_b (show TOK (EF pg) 6 (.par ⟨[.v (.l .ro (.i .u8)), .v (.l .ro YCut), .v (.i .i64)], .b⟩ (fun x => g6 x.1 x.2.1 x.2.2)) from o6) (by simp) rfl (x := (x0, x1, x2)) (ds := [d0, d1, d2]) rfl ⟨⟨rfl, rfl⟩, _, _, rfl, r0, ⟨⟨rfl, rfl⟩, _, _, rfl, r1, r2⟩⟩ (w6 x0 x1 x2)
  obtain rfl := eq_of_heq h2
  exact h1
end Go.Proofs.Ytmbhpchkhilheaa.Ev.U
namespace Go.Proofs.Ytmbhpchkhilheaa
open Go Go.ChangeShapes Go.WideShapes Go.ChangeAt Go.RowKit Go.Proofs.Ytmbhpchkhilheaa.Ev
set_option maxRecDepth 100000 in
theorem lifted6 (os : Os) (started : os.Started) (H : Type) (enc : TypeId × Value → H) :
    ReturnsInHanded {} Try.checked os 6 .any (Rows.receiverWholeSpec.pre6 enc Try.prog Try.f6 Rows.receiverWholeRow.domain false) (Rows.receiverWholeSpec.post enc Try.prog Try.f6 false true false false) := by
  refine returnsInHanded_of_change_sized (C := Try.checked) own started (by kernel_rfl) Try.func6
    (ChangeSpec.witness6 (enc := enc) (C := Try.checked) false ⟨#[], #[.slice none 0 0, .slice none 0 0, .int .i64 0], []⟩ 8 (by kernel_rfl) (by kernel_rfl) (by kernel_rfl) (by kernel_rfl)) ?_
  intro W base args ds gs before hval0 hW hcnd hsz0 _
  have hval : ∀ (j : Nat) t v, Try.f6.params[j]? = some t → args[j]? = some v → Value.okWide Try.prog W .any base t v := hval0
  have hW' := hW
  obtain ⟨p, q, hA0, hV, rfl, hfz, hnd⟩ := hW
  have hA : DataW.TrodAll enc Try.prog W 0 (fun _ => true) true Try.f6.params.toList args.toList ds p := hA0
  rw [Try.params6] at hA hval
  obtain ⟨v0, vs0, d0, ds0, p0, q0, hargs, rfl, rfl, h0, r0⟩ := trodAll_cons hA
  obtain ⟨v1, vs1, d1, ds1, p1, q1, rfl, rfl, rfl, h1, r1⟩ := trodAll_cons r0
  obtain ⟨v2, vs2, d2, ds2, p2, q2, rfl, rfl, rfl, h2, r2⟩ := trodAll_cons r1
  obtain ⟨rfl, rfl, rfl⟩ := trodAll_nil r2
  obtain rfl : args = #[v0, v1, v2] := by cases args; simp_all
  obtain ⟨rfl, rfl⟩ := trodVars_none hV
  have lt0 : ∀ x ∈ p0, x.block < W.heap.size := by obtain ⟨m, hm⟩ := h0; exact DataW.trod_lt m _ _ _ hm
  have lt1 : ∀ x ∈ p1, x.block < W.heap.size := by obtain ⟨m, hm⟩ := h1; exact DataW.trod_lt m _ _ _ hm
  have lt2 : ∀ x ∈ p2, x.block < W.heap.size := by obtain ⟨m, hm⟩ := h2; exact DataW.trod_lt m _ _ _ hm
  obtain ⟨c0, g0, k0⟩ := open_arg (k := 8) (fun _ => rfl) (by kernel_rfl) (hval 0 23 v0 rfl rfl) h0
  obtain ⟨c1, g1, k1⟩ := open_arg (k := 8) (fun _ => rfl) (by kernel_rfl) (hval 1 55 v1 rfl rfl) h1
  obtain ⟨c2, g2, k2⟩ := open_arg (k := 8) (fun _ => rfl) (by kernel_rfl) (hval 2 3 v2 rfl rfl) h2
  obtain ⟨x0, e0⟩ := U.arg_u (P := EF U.pg) 8 (.l .ro (.i .u8)) (by kernel_rfl) g0
  obtain ⟨x1, e1⟩ := U.arg_u (P := EF U.pg) 8 (.l .ro U.YCut) (by kernel_rfl) g1
  obtain ⟨x2, e2⟩ := U.arg_u (P := EF U.pg) 8 (.i .i64) (by kernel_rfl) g2
  clear hA0 hval0 hsz0
  refine (run0 U.pg_ok (f := 6) (by decide) (U.ef6 e0 e1 e2) (W := W) (vs := #[v0, v1, v2]) rfl (fun i d hi => ?_)).mono fun e W' ⟨x, g', he, hr, bel⟩ => ?_
  · match i with
    | 0 => simp at hi; subst hi; exact ⟨v0, rfl, k0⟩
    | 1 => simp at hi; subst hi; exact ⟨v1, rfl, k1⟩
    | 2 => simp at hi; subst hi; exact ⟨v2, rfl, k2⟩
    | i + 3 => simp at hi
  · obtain rfl := rtb hr
    subst he
    exact ⟨_, rfl, _, _, _, [], _, [], hW', trodAll_mk1 (shut_bool Try.underlying4 _), trodAll_cons_mk (Below.trod laidOut (by kernel_rfl) (of_decide_eq_true (by kernel_rfl)) h0 bel lt0) (trodAll_cons_mk (Below.trod laidOut (by kernel_rfl) (of_decide_eq_true (by kernel_rfl)) h1 bel lt1) (trodAll_cons_mk (Below.trod laidOut (by kernel_rfl) (of_decide_eq_true (by kernel_rfl)) h2 bel lt2) trodAll_mk0)), rfl, bel.frame _, fun h => by cases h⟩
/-- The law ReceiverWhole holds for every input. -/
theorem receiverWhole_holds : Rows.ReceiverWholeSaid :=
  OpenClaim.holds_of_wide 6 Try.f6 rfl rfl rfl rfl rfl rfl rfl ⟨rfl, rfl, rfl, rfl, rfl⟩ rfl rfl rfl rfl rfl (by kernel_rfl) Try.func6 (by kernel_rfl)
    (of_decide_eq_true (by kernel_rfl)) (by unfold Func.isWrapper; first | (rw [if_pos (by decide +kernel)]; kernel_rfl) | (rw [if_neg (by decide +kernel)]; exact ⟨rfl, rfl⟩))
    (fun os started H enc _ => lifted6 os started H enc)
#print axioms receiverWhole_holds
end Go.Proofs.Ytmbhpchkhilheaa
